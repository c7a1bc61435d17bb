/- Part i of the lemmas and walks. -/
import Derived.BigQuiet
import Derived.Test.YtmfochplnchgcaaGreatGc
import Derived.Test.YtmfochplnchgcaaGreatGe
import Derived.Test.YtmfochplnchgcaaGreatGh

/- THE WALK of cure.Vitrified; printed by wip/tools/gen_zc.py. -/
namespace Go.Proofs.YtmfochplnchgcaaGreat
open Go.RowKit

def RetVit (r : Int × Int × Int) (w : World) (e : Ending) (w' : World) : Prop := e = .returned (.tuple #[.agg #[.int .i64 r.1, .int .i64 r.2.1], .int .i64 r.2.2]) ∧ Below w.heap.size w w'
theorem signR_any (q : Rat) (v : Value) (w : World) (h : IsRat w v q) : Calls Tryz.prog 32 #[v] w (RetInt (sgnI (decide (q.num < 0)) q.num.natAbs) w) := by
  obtain ⟨a1, c1, a2, c2, rfl, _, _⟩ := h.opened
  exact sign_any _ _ _ _ _ _ _ _
theorem sgnI_neg (q : Rat) : decide (sgnI (decide (q.num < 0)) q.num.natAbs < 0) = decide (q.num < 0) := by
  unfold sgnI
  by_cases h : q.num < 0
  · simp [h]
  · by_cases h0 : q.num.natAbs = 0
    · simp [h, h0]
    · simp [h, h0]
theorem bx32 (w : World) (c1 c2 : Array Value) {t1 t2 : Nat} (W : World) (hW : W = (w.alloc (.cells c1 t1)).alloc (.cells c2 t2)) :
    Below w.heap.size w W ∧ W.heap[w.heap.size]? = some (.cells c1 t1 (0, 0)) ∧ W.heap[w.heap.size + 1]? = some (.cells c2 t2 (0, 0)) := by
  subst hW
  have e1 : (w.alloc (.cells c1 t1)).heap.size = w.heap.size + 1 := World.size_alloc ..
  have a1 := blk_new w c1 t1
  have a2 := blk_new (w.alloc (.cells c1 t1)) c2 t2
  rw [e1] at a2
  exact ⟨below2 _ _ _, (heap_alloc_old _ (.cells c2 t2) (blk_lt a1)).trans a1, a2⟩
def boxS (a b : Int) (B : Nat) (w : World) : Prop := w.heap[B]? = some (.cells #[.int .i64 a, .int .i64 b] 33 (0, 0))
theorem facS {w : World} {a b : Int} {B : Nat} (h : boxS a b B w) : w.cell? ⟨B, 0, none⟩ = some (.int .i64 a) ∧ w.cell? ⟨B, 1, none⟩ = some (.int .i64 b) ∧ w.frozen? ⟨B, 0, none⟩ = false ∧ w.frozen? ⟨B, 1, none⟩ = false :=
  ⟨blk_cell h 0 _ rfl, blk_cell h 1 _ rfl, blk_frozen h 0, blk_frozen h 1⟩
theorem setS {w : World} {a b : Int} {B : Nat} (h : boxS a b B w) : (∀ u, (w.setCell ⟨B, 0, none⟩ u).cell? ⟨B, 0, none⟩ = some u) ∧ ∀ u v, ((w.setCell ⟨B, 0, none⟩ u).setCell ⟨B, 1, none⟩ v).cell? ⟨B, 1, none⟩ = some v :=
  ⟨fun u => blk_cell (blk_set h 0 u) 0 _ rfl, fun u v => blk_cell (blk_set (blk_set h 0 u) 1 v) 1 _ rfl⟩
theorem below2s {n : Nat} {w0 w : World} {B : Nat} {u v : Value} (h : Below n w0 w) (hB : n ≤ B) : Below n w0 ((w.setCell ⟨B, 0, none⟩ u).setCell ⟨B, 1, none⟩ v) :=
  (h.setCell (p := ⟨B, 0, none⟩) hB _).setCell (p := ⟨B, 1, none⟩) hB _
/-- What stays in the loops: the boxes of the slope and of the result. -/
structure VB (w : World) (x : R3) (wr : World) : Prop where
  bel : Below w.heap.size w wr
  s : wr.heap[w.heap.size]? = some (.cells x.arr 40 (0, 0))
  r : boxS 0 0 (w.heap.size + 1) wr
theorem VB.below {w a b : World} {x : R3} (h : VB w x a) (hb : Below a.heap.size a b) : VB w x b := ⟨ext_trans h.bel hb, blk_keep h.s hb (blk_lt h.s), blk_keep h.r hb (blk_lt h.r)⟩
theorem kc11 {W a b : World} {B0 j0 B1 j1 B2 j2 B3 j3 B4 j4 B5 j5 B6 j6 B7 j7 B8 j8 B9 j9 B10 j10 : Nat} {v0 v1 v2 v3 v4 v5 v6 v7 v8 v9 v10 : Value} (hb : Below a.heap.size a b) (h : Below W.heap.size W a ∧ a.cell? ⟨B0, j0, none⟩ = some (v0) ∧ a.cell? ⟨B1, j1, none⟩ = some (v1) ∧ a.cell? ⟨B2, j2, none⟩ = some (v2) ∧ a.cell? ⟨B3, j3, none⟩ = some (v3) ∧ a.cell? ⟨B4, j4, none⟩ = some (v4) ∧ a.cell? ⟨B5, j5, none⟩ = some (v5) ∧ a.cell? ⟨B6, j6, none⟩ = some (v6) ∧ a.cell? ⟨B7, j7, none⟩ = some (v7) ∧ a.cell? ⟨B8, j8, none⟩ = some (v8) ∧ a.cell? ⟨B9, j9, none⟩ = some (v9) ∧ a.cell? ⟨B10, j10, none⟩ = some (v10)) : Below W.heap.size W b ∧ b.cell? ⟨B0, j0, none⟩ = some (v0) ∧ b.cell? ⟨B1, j1, none⟩ = some (v1) ∧ b.cell? ⟨B2, j2, none⟩ = some (v2) ∧ b.cell? ⟨B3, j3, none⟩ = some (v3) ∧ b.cell? ⟨B4, j4, none⟩ = some (v4) ∧ b.cell? ⟨B5, j5, none⟩ = some (v5) ∧ b.cell? ⟨B6, j6, none⟩ = some (v6) ∧ b.cell? ⟨B7, j7, none⟩ = some (v7) ∧ b.cell? ⟨B8, j8, none⟩ = some (v8) ∧ b.cell? ⟨B9, j9, none⟩ = some (v9) ∧ b.cell? ⟨B10, j10, none⟩ = some (v10) := by
  obtain ⟨h0, k0, k1, k2, k3, k4, k5, k6, k7, k8, k9, k10⟩ := h
  have e : ∀ B j v, a.cell? ⟨B, j, none⟩ = some v → b.cell? ⟨B, j, none⟩ = some v := fun B j v h => (hb.cell (p := ⟨B, j, none⟩) (World.block_lt_of_cell? (h := h))).trans h
  exact ⟨bt h0 hb, e _ _ _ k0, e _ _ _ k1, e _ _ _ k2, e _ _ _ k3, e _ _ _ k4, e _ _ _ k5, e _ _ _ k6, e _ _ _ k7, e _ _ _ k8, e _ _ _ k9, e _ _ _ k10⟩
set_option maxRecDepth 100000 in
set_option maxHeartbeats 4000000 in
theorem vit_any (ts : List Int) (qs : List Rat) (s : Rat) (vt vl vs : Value) (w : World) (ht : IntsOf w vt ts) (hl : FrcsOf IsRat w vl qs) (hs : IsRat w vs s) (hq : ∀ i, szR (qs.getD i 0) 1) (hsz : szR s 1) :
    Calls Tryz.prog 10 #[vt, vl, vs] w (RetVit (vitOf ts qs s) w) := by
  have HTS := Lib.hid ht
  have HLS := Lib.hid hl
  have HS := Lib.hid hs
  have HQ := Lib.hid hq
  have HSZ := Lib.hid hsz
  obtain ⟨at_, ct, rfl, _⟩ := ht
  obtain ⟨al, cl, rfl, _⟩ := hl
  obtain ⟨x, rfl⟩ := hs.open3
  obtain ⟨res, hres⟩ := (⟨vitOf ts qs s, rfl⟩ : ∃ res, res = vitOf ts qs s)
  rw [← hres]
  have HV := Lib.hid hres
  clear hs hq hsz hres
  by_cases c1 : ts.length < 2
  · have t1 : decide ((ts.length : Int) < 2) = true := by simp; omega
    have HR : Hid (res = (0, 0, 4)) := by show _ = _; rw [HV.out]; unfold vitOf; rw [if_pos (.inl c1)]
    clear c1 HV
    go_enter Tryz.func10, Tryz.ntmps10
    go_wp2_with fail
    refine bodyPost_ret (v := .tuple #[.agg #[.int .i64 0, .int .i64 0], .int .i64 4]) (by simp [results, Tryz.results10, go_sem]) rfl ⟨by rw [HR.out], below2 _ _ _⟩
  · have t1 : decide ((ts.length : Int) < 2) = false := by simp; omega
    by_cases c2 : 256 < ts.length
    · have t2 : decide ((ts.length : Int) > 256) = true := by simp; omega
      have HR : Hid (res = (0, 0, 4)) := by show _ = _; rw [HV.out]; unfold vitOf; rw [if_pos (.inr (.inl c2))]
      clear c1 c2 HV
      go_enter Tryz.func10, Tryz.ntmps10
      go_wp2_with fail
      refine bodyPost_ret (v := .tuple #[.agg #[.int .i64 0, .int .i64 0], .int .i64 4]) (by simp [results, Tryz.results10, go_sem]) rfl ⟨by rw [HR.out], below2 _ _ _⟩
    · have t2 : decide ((ts.length : Int) > 256) = false := by simp; omega
      by_cases c3 : qs.length = ts.length
      · have t3 : ((qs.length : Int) != (ts.length : Int)) = false := by simp [c3]
        have HLEN : Hid (qs.length = ts.length ∧ 2 ≤ ts.length ∧ ts.length ≤ 256) := ⟨c3, by omega, by omega⟩
        have HV2 : Hid (res = if s.num < 0 then (0, 0, 1) else if timesErr ts ts.length ≠ 0 then (0, 0, timesErr ts ts.length) else if lastUp (fallAt ts qs s) (ts.length - 1) < 0 ∨ lastUp (fallAt ts qs s) (ts.length - 1) = (ts.length : Int) - 2 then (0, 0, 5) else (ts.getD (lastUp (fallAt ts qs s) (ts.length - 1)).toNat 0, ts.getD ((lastUp (fallAt ts qs s) (ts.length - 1)).toNat + 1) 0, 0)) := by
          show _ = _
          rw [HV.out]
          unfold vitOf
          rw [if_neg (by omega)]
        clear c1 c2 c3 HV
        go_enter Tryz.func10, Tryz.ntmps10
        go_wp2_with fail
        have hbx := bx32 w x.arr #[.int .i64 0, .int .i64 0] (t1 := 40) (t2 := 33) _ rfl
        generalize ((w.alloc (.cells x.arr 40)).alloc (.cells #[.int .i64 0, .int .i64 0] 33)) = W at *
        obtain ⟨hW, hBs, hBr⟩ := hbx
        refine (signR_any s _ _ (HS.out.below hW)).mono ?_
        rintro e wA ⟨rfl, hbA⟩
        have HVB : Hid (VB w x wA) := (VB.mk hW hBs hBr).below hbA
        obtain ⟨r0, r1, r2, r3⟩ := facS HVB.out.r
        obtain ⟨e0, e1⟩ := setS HVB.out.r
        have hlen := HLEN.out.2.2
        have tneg := sgnI_neg s
        clear hW hBs hBr hbA
        generalize sgnI (decide (s.num < 0)) s.num.natAbs = sg at *
        by_cases c4 : s.num < 0
        · rw [decide_eq_true c4] at tneg
          have HR : Hid (res = (0, 0, 1)) := by show _ = _; rw [HV2.out, if_pos c4]
          clear c4 HV2 HS
          go_wp2_with fail
          refine bodyPost_ret (v := .tuple #[.agg #[.int .i64 0, .int .i64 0], .int .i64 1]) (by simp [results, Tryz.results10, go_sem, e0, e1]) rfl ⟨by rw [HR.out], below2s HVB.out.bel (by omega)⟩
        · rw [decide_eq_false c4] at tneg
          have HV3 : Hid (res = if timesErr ts ts.length ≠ 0 then (0, 0, timesErr ts ts.length) else if lastUp (fallAt ts qs s) (ts.length - 1) < 0 ∨ lastUp (fallAt ts qs s) (ts.length - 1) = (ts.length : Int) - 2 then (0, 0, 5) else (ts.getD (lastUp (fallAt ts qs s) (ts.length - 1)).toNat 0, ts.getD ((lastUp (fallAt ts qs s) (ts.length - 1)).toNat + 1) 0, 0)) := by
            show _ = _
            rw [HV2.out, if_neg c4]
          clear c4 HV2
          go_wp2_with fail
          go_loopw [34] (fun iv wr => ∃ (i : Nat), i ≤ ts.length ∧ iv = .int .i64 i ∧ Hid (timesErr ts i = 0) ∧ wA = wr)
            (fun iv _ => ts.length - (intOf iv).toNat)
          case atStart => exact ⟨0, Nat.zero_le _, rfl, rfl, rfl⟩
          case round =>
            obtain ⟨i, hi, rfl, HN, rfl⟩ := hrel
            by_cases hlt : i < ts.length
            · have hT := HTS.out.below HVB.out.bel
              obtain ⟨_, _, e0, hE⟩ := hT
              cases e0
              obtain ⟨b, off, rfl, hbl, hc⟩ := hE (by omega)
              have g0 := hc i hlt
              have hlt' : (i : Int) < ts.length := by omega
              have hge' : (0 : Int) ≤ i := by omega
              have HLT := Lib.hid hlt
              have Hent : Hid (timeErr ts i = if ts.getD i 0 < 0 ∨ 1073741824 < ts.getD i 0 then 1 else if 0 < i ∧ ts.getD i 0 ≤ ts.getD (i - 1) 0 then 7 else 0) := rfl
              have Hbad : Hid (timeErr ts i ≠ 0 → res = (0, 0, timeErr ts i)) := fun h => by
                have h2 := timesErr_at HN.out h hlt
                rw [HV3.out, h2, if_pos h]
              have Hnext : Hid (timeErr ts i = 0 → timesErr ts (i + 1) = 0) := fun h => by
                show (if timesErr ts i = 0 then timeErr ts i else timesErr ts i) = 0
                rw [if_pos HN.out]
                exact h
              by_cases c6 : 0 < i
              · obtain ⟨j, hj⟩ : ∃ j, i - 1 = j := ⟨_, rfl⟩
                have g1 := hc j (by omega)
                rw [hj] at Hent
                have hw : IntKind.i64.wrap ((i : Int) - 1) = (j : Int) := by rw [show (i : Int) - 1 = (j : Int) by omega]; exact IntWalk.i64_in _ (by have := HLEN.out.2.2; omega)
                have hj0 : (0 : Int) ≤ j := by omega
                have hj1 : (j : Int) < ts.length := by omega
                have t6 : decide ((i : Int) > 0) = true := by simp; omega
                have Hi0 := Lib.hid c6
                clear hE hc c6 hj hlt hi
                generalize ts.getD i 0 = xx at *
                generalize ts.getD j 0 = yy at *
                generalize timeErr ts i = te at *
                by_cases c1 : xx < 0
                · have t4 : decide (xx < 0) = true := decide_eq_true c1
                  have HR : Hid (res = (0, 0, 1)) := by have h := Hent.out; rw [if_pos (.inl c1)] at h; have h2 := Hbad.out (by omega); rw [h] at h2; exact h2
                  clear c1 Hent Hbad Hnext
                  go_wp2_with fail
                  refine bodyPost_ret (v := .tuple #[.agg #[.int .i64 0, .int .i64 0], .int .i64 1]) (by simp [results, Tryz.results10, go_sem, e0, e1]) rfl ⟨by rw [HR.out], below2s HVB.out.bel (by omega)⟩
                · have t4 : decide (xx < 0) = false := decide_eq_false c1
                  by_cases c2 : 1073741824 < xx
                  · have t5 : decide (xx > 1073741824) = true := decide_eq_true c2
                    have HR : Hid (res = (0, 0, 1)) := by have h := Hent.out; rw [if_pos (.inr c2)] at h; have h2 := Hbad.out (by omega); rw [h] at h2; exact h2
                    clear c1 c2 Hent Hbad Hnext
                    go_wp2_with fail
                    refine bodyPost_ret (v := .tuple #[.agg #[.int .i64 0, .int .i64 0], .int .i64 1]) (by simp [results, Tryz.results10, go_sem, e0, e1]) rfl ⟨by rw [HR.out], below2s HVB.out.bel (by omega)⟩
                  · have t5 : decide (xx > 1073741824) = false := decide_eq_false c2
                    by_cases c3 : xx ≤ yy
                    · have t7 : decide (xx ≤ yy) = true := decide_eq_true c3
                      have HR : Hid (res = (0, 0, 7)) := by have h := Hent.out; rw [if_neg (by omega), if_pos ⟨Hi0.out, c3⟩] at h; have h2 := Hbad.out (by omega); rw [h] at h2; exact h2
                      clear c1 c2 c3 Hent Hbad Hnext
                      go_wp2_with fail
                      refine bodyPost_ret (v := .tuple #[.agg #[.int .i64 0, .int .i64 0], .int .i64 7]) (by simp [results, Tryz.results10, go_sem, e0, e1]) rfl ⟨by rw [HR.out], below2s HVB.out.bel (by omega)⟩
                    · have t7 : decide (xx ≤ yy) = false := decide_eq_false c3
                      have Hn : Hid (timesErr ts (i + 1) = 0) := Hnext.out (by rw [Hent.out, if_neg (by omega), if_neg (by omega)])
                      clear c1 c2 c3 Hent Hbad Hnext
                      go_wp2_with fail
                      exact ⟨⟨i + 1, by have := HLT.out; omega, by go_num, Hn, by first | rfl | trivial⟩, meas_up HLT.out⟩
              · have t6 : decide ((i : Int) > 0) = false := by simp; omega
                have Hi0 := Lib.hid c6
                clear hE hc c6 hlt hi
                generalize ts.getD i 0 = xx at *
                generalize timeErr ts i = te at *
                by_cases c1 : xx < 0
                · have t4 : decide (xx < 0) = true := decide_eq_true c1
                  have HR : Hid (res = (0, 0, 1)) := by have h := Hent.out; rw [if_pos (.inl c1)] at h; have h2 := Hbad.out (by omega); rw [h] at h2; exact h2
                  clear c1 Hent Hbad Hnext
                  go_wp2_with fail
                  refine bodyPost_ret (v := .tuple #[.agg #[.int .i64 0, .int .i64 0], .int .i64 1]) (by simp [results, Tryz.results10, go_sem, e0, e1]) rfl ⟨by rw [HR.out], below2s HVB.out.bel (by omega)⟩
                · have t4 : decide (xx < 0) = false := decide_eq_false c1
                  by_cases c2 : 1073741824 < xx
                  · have t5 : decide (xx > 1073741824) = true := decide_eq_true c2
                    have HR : Hid (res = (0, 0, 1)) := by have h := Hent.out; rw [if_pos (.inr c2)] at h; have h2 := Hbad.out (by omega); rw [h] at h2; exact h2
                    clear c1 c2 Hent Hbad Hnext
                    go_wp2_with fail
                    refine bodyPost_ret (v := .tuple #[.agg #[.int .i64 0, .int .i64 0], .int .i64 1]) (by simp [results, Tryz.results10, go_sem, e0, e1]) rfl ⟨by rw [HR.out], below2s HVB.out.bel (by omega)⟩
                  · have t5 : decide (xx > 1073741824) = false := decide_eq_false c2
                    have Hn : Hid (timesErr ts (i + 1) = 0) := Hnext.out (by rw [Hent.out, if_neg (by omega), if_neg (fun h => Hi0.out h.1)])
                    clear c1 c2 Hent Hbad Hnext
                    go_wp2_with fail
                    exact ⟨⟨i + 1, by have := HLT.out; omega, by go_num, Hn, by first | rfl | trivial⟩, meas_up HLT.out⟩
            · obtain rfl : i = ts.length := by omega
              have HV4 : Hid (res = if lastUp (fallAt ts qs s) (ts.length - 1) < 0 ∨ lastUp (fallAt ts qs s) (ts.length - 1) = (ts.length : Int) - 2 then (0, 0, 5) else (ts.getD (lastUp (fallAt ts qs s) (ts.length - 1)).toNat 0, ts.getD ((lastUp (fallAt ts qs s) (ts.length - 1)).toNat + 1) 0, 0)) := by
                show _ = _
                rw [HV3.out, if_neg (by rw [HN.out]; decide)]
              clear HV3
              obtain ⟨n1, hn1⟩ : ∃ n1, ts.length = n1 + 1 := ⟨ts.length - 1, by have := HLEN.out.2.1; omega⟩
              have hqn : qs.length ≤ 256 := by have := HLEN.out; omega
              have hwn : (qs.length : Int) - 1 = (n1 : Int) := by have := HLEN.out; omega
              have HN1 : Hid (ts.length = n1 + 1 ∧ qs.length = n1 + 1 ∧ ts.length - 1 = n1 ∧ 1 ≤ n1) := by have := HLEN.out; exact ⟨hn1, by omega, by omega, by omega⟩
              have HTI : Hid (∀ i, i ≤ n1 → 0 ≤ ts.getD i 0 ∧ ts.getD i 0 ≤ 1073741824) := fun i h => times_in HN.out (by omega)
              rw [HN1.out.2.2.1] at HV4
              clear r0 r1 r2 r3 e0 e1 HN hi hn1
              go_wp2_with fail
              try rw [hwn]
              have hn256 : n1 ≤ 256 := by omega
              go_loopw [10, 62] (fun la iv wq => ∃ (i : Nat), i ≤ n1 ∧ iv = .int .i64 i ∧ la = .int .i64 (lastUp (fallAt ts qs s) i) ∧ Hid (VB w x wq))
                (fun _ iv _ => n1 - (intOf iv).toNat)
              case atStart => exact ⟨0, Nat.zero_le _, rfl, rfl, HVB⟩
              case round =>
                obtain ⟨i, hi, rfl, rfl, HVR⟩ := hrel
                by_cases hlt : i < n1
                · have hT := HTS.out.below HVR.out.bel
                  obtain ⟨_, _, e0, hE⟩ := hT
                  cases e0
                  obtain ⟨b, off, rfl, hbl, hc⟩ := hE (by have := HN1.out; omega)
                  obtain ⟨k, hk⟩ : ∃ k, k = i + 1 := ⟨_, rfl⟩
                  have y0 := hc i (by have := HN1.out; omega)
                  have y1 := hc k (by have := HN1.out; omega)
                  have hL := HLS.out.below (fun _ _ _ _ h hb => h.below hb) HVR.out.bel
                  obtain ⟨_, _, e1, hF⟩ := hL
                  cases e1
                  obtain ⟨bl, offl, rfl, hbl2, hd⟩ := hF (by have := HN1.out; omega)
                  obtain ⟨a0, a1, a2, p0, p1, p2, hqa⟩ := hd i (by have := HN1.out; omega)
                  obtain ⟨b0, b1, b2, q0, q1, q2, hqb⟩ := hd k (by have := HN1.out; omega)
                  obtain ⟨s0, s1, s2, _⟩ := fac3 HVR.out.s
                  have hsl := blk_lt HVR.out.s
                  have hlt' : (i : Int) < n1 := by omega
                  have hge' : (0 : Int) ≤ i := by omega
                  have hl1 : (i : Int) < qs.length := by have := HN1.out; omega
                  have hl2 : (k : Int) < qs.length := by have := HN1.out; omega
                  have hl3 : (i : Int) < ts.length := by have := HN1.out; omega
                  have hl4 : (k : Int) < ts.length := by have := HN1.out; omega
                  have hge2 : (0 : Int) ≤ (k : Int) := by omega
                  have hw1 : IntKind.i64.wrap ((i : Int) + 1) = (k : Int) := by rw [show (i : Int) + 1 = (k : Int) by omega]; exact IntWalk.i64_in _ (by omega)
                  have HLT := Lib.hid hlt
                  have HA := Lib.hid hqa
                  have HB := Lib.hid hqb
                  have HSX := Lib.hid (HS.out.below HVR.out.bel)
                  have hta := HTI.out i (by omega)
                  have htb := HTI.out k (by omega)
                  have hwd : IntKind.i64.wrap (ts.getD k 0 - ts.getD i 0) = ts.getD k 0 - ts.getD i 0 := IntWalk.i64_in _ (by omega)
                  have ZC : Hid (szR ((ts.getD k 0 - ts.getD i 0 : Int) : Rat) 68719476736) := szR_mono (szR_int (k := 1) (by unfold b64; omega) (by omega)) (by omega)
                  have ZA := Lib.hid (HQ.out i)
                  have ZB := Lib.hid (HQ.out k)
                  have ZD : Hid (szR (qs.getD i 0 - qs.getD k 0) 274877906944) := szR_mono (szR_sub ZA.out ZB.out) (by omega)
                  have ZE : Hid (szR (s * ((ts.getD k 0 - ts.getD i 0 : Int) : Rat)) 274877906944) := szR_mono (szR_mul HSZ.out (szR_int (k := 1) (by unfold b64; omega) (by omega))) (by omega)
                  have Hf : Hid (fallAt ts qs s i = decide (0 < cmpR (qs.getD i 0 - qs.getD k 0) (s * ((ts.getD k 0 - ts.getD i 0 : Int) : Rat)))) := by rw [hk]; rfl
                  have Hl : Hid (lastUp (fallAt ts qs s) k = if fallAt ts qs s i then (i : Int) else lastUp (fallAt ts qs s) i) := by rw [hk]; rfl
                  have HK := Lib.hid hk
                  obtain ⟨C, hC⟩ : ∃ C, C = cmpR (qs.getD i 0 - qs.getD k 0) (s * ((ts.getD k 0 - ts.getD i 0 : Int) : Rat)) := ⟨_, rfl⟩
                  have HC := Lib.hid hC
                  have tcc : decide (C > 0) = fallAt ts qs s i := by rw [Hf.out, hC]
                  clear hE hc hF hd hC hqa hqb hlt hi hk
                  generalize lastUp (fallAt ts qs s) i = la at *
                  generalize fallAt ts qs s i = fb at *
                  generalize ts.getD i 0 = ta at *
                  generalize ts.getD k 0 = tb at *
                  generalize qs.getD i 0 = qa at *
                  generalize qs.getD k 0 = qb at *
                  go_upto_region 17 with fail
                  refine wp_region_held_drew (S := (fun w' => Below wr.heap.size wr w' ∧ w'.cell? ⟨bl, offl + i * 3, none⟩ = some (a0) ∧ w'.cell? ⟨bl, offl + i * 3 + 1, none⟩ = some (a1) ∧ w'.cell? ⟨bl, offl + i * 3 + 2, none⟩ = some (a2) ∧ w'.cell? ⟨bl, offl + k * 3, none⟩ = some (b0) ∧ w'.cell? ⟨bl, offl + k * 3 + 1, none⟩ = some (b1) ∧ w'.cell? ⟨bl, offl + k * 3 + 2, none⟩ = some (b2) ∧ w'.cell? ⟨w.heap.size, 0, none⟩ = some (.bool x.b) ∧ w'.cell? ⟨w.heap.size, 1, none⟩ = some (.slice x.a x.n x.c) ∧ w'.cell? ⟨w.heap.size, 2, none⟩ = some (.slice x.d x.m x.e) ∧ w'.cell? ⟨b, off + i, none⟩ = some (.int .i64 ta) ∧ w'.cell? ⟨b, off + k, none⟩ = some (.int .i64 tb))) (by kernel_rfl) ⟨(Below.refl _ _).drew, p0, p1, p2, q0, q1, q2, s0, s1, s2, y0, y1⟩ (fun hh => ?_)
                  have HAD := Lib.hid (Below.refl wr.heap.size wr).drew
                  clear p0 p1 p2 q0 q1 q2 s0 s1 s2 y0 y1
                  refine wpAnyH_take (i := 0) (v := ?vp0) rfl (by kernel_rfl) (by kernel_rfl) (by kernel_rfl) (fun _ _ _ h => h) (Or.inl ⟨by rfl, ?hyp0⟩) (by assumption) ?rep0
                  case hyp0 => first | (intro w hSw; (try dsimp only at hSw); go_simp; done) | (intro w hSw; (try dsimp only at hSw); go_simp; with_reducible rfl)
                  try simp only [List.getElem_toArray, List.getElem_cons_zero, List.getElem_cons_succ, Act.put, List.setIfInBounds_toArray, List.set_cons_zero, List.set_cons_succ]
                  refine wpAnyH_take (i := 1) (v := ?vp1) rfl (by kernel_rfl) (by kernel_rfl) (by kernel_rfl) (fun _ _ _ h => h) (Or.inl ⟨by rfl, ?hyp1⟩) (by assumption) ?rep1
                  case hyp1 => first | (intro w hSw; (try dsimp only at hSw); go_simp; done) | (intro w hSw; (try dsimp only at hSw); go_simp; with_reducible rfl)
                  try simp only [List.getElem_toArray, List.getElem_cons_zero, List.getElem_cons_succ, Act.put, List.setIfInBounds_toArray, List.set_cons_zero, List.set_cons_succ]
                  refine wpAnyH_take (i := 2) (v := ?vp2) rfl (by kernel_rfl) (by kernel_rfl) (by kernel_rfl) (fun _ _ _ h => h) (Or.inl ⟨by rfl, ?hyp2⟩) (by assumption) ?rep2
                  case hyp2 => first | (intro w hSw; (try dsimp only at hSw); go_simp; done) | (intro w hSw; (try dsimp only at hSw); go_simp; with_reducible rfl)
                  try simp only [List.getElem_toArray, List.getElem_cons_zero, List.getElem_cons_succ, Act.put, List.setIfInBounds_toArray, List.set_cons_zero, List.set_cons_succ]
                  refine wpAnyH_take (i := 3) (v := ?vp3) rfl (by kernel_rfl) (by kernel_rfl) (by kernel_rfl) (fun _ _ _ h => h) (Or.inl ⟨by rfl, ?hyp3⟩) (by assumption) ?rep3
                  case hyp3 => first | (intro w hSw; (try dsimp only at hSw); go_simp; done) | (intro w hSw; (try dsimp only at hSw); go_simp; with_reducible rfl)
                  try simp only [List.getElem_toArray, List.getElem_cons_zero, List.getElem_cons_succ, Act.put, List.setIfInBounds_toArray, List.set_cons_zero, List.set_cons_succ]
                  refine wpAnyH_take (i := 4) (v := ?vp4) rfl (by kernel_rfl) (by kernel_rfl) (by kernel_rfl) (fun _ _ _ h => h) (Or.inl ⟨by rfl, ?hyp4⟩) (by assumption) ?rep4
                  case hyp4 => first | (intro w hSw; (try dsimp only at hSw); go_simp; done) | (intro w hSw; (try dsimp only at hSw); go_simp; with_reducible rfl)
                  try simp only [List.getElem_toArray, List.getElem_cons_zero, List.getElem_cons_succ, Act.put, List.setIfInBounds_toArray, List.set_cons_zero, List.set_cons_succ]
                  refine wpAnyH_take (i := 5) (v := ?vp5) rfl (by kernel_rfl) (by kernel_rfl) (by kernel_rfl) (fun _ _ _ h => h) (Or.inl ⟨by rfl, ?hyp5⟩) (by assumption) ?rep5
                  case hyp5 => first | (intro w hSw; (try dsimp only at hSw); go_simp; done) | (intro w hSw; (try dsimp only at hSw); go_simp; with_reducible rfl)
                  try simp only [List.getElem_toArray, List.getElem_cons_zero, List.getElem_cons_succ, Act.put, List.setIfInBounds_toArray, List.set_cons_zero, List.set_cons_succ]
                  refine wpAnyH_take (i := 6) (v := ?vp6) rfl (by kernel_rfl) (by kernel_rfl) (by kernel_rfl) (fun _ _ _ h => h) (Or.inl ⟨by rfl, ?hyp6⟩) (by assumption) ?rep6
                  case hyp6 => first | (intro w hSw; (try dsimp only at hSw); go_simp; done) | (intro w hSw; (try dsimp only at hSw); go_simp; with_reducible rfl)
                  try simp only [List.getElem_toArray, List.getElem_cons_zero, List.getElem_cons_succ, Act.put, List.setIfInBounds_toArray, List.set_cons_zero, List.set_cons_succ]
                  refine wpAnyH_take (i := 7) (v := ?vp7) rfl (by kernel_rfl) (by kernel_rfl) (by kernel_rfl) (fun _ _ _ h => h) (Or.inl ⟨by rfl, ?hyp7⟩) (by assumption) ?rep7
                  case hyp7 => first | (intro w hSw; (try dsimp only at hSw); go_simp; done) | (intro w hSw; (try dsimp only at hSw); go_simp; with_reducible rfl)
                  try simp only [List.getElem_toArray, List.getElem_cons_zero, List.getElem_cons_succ, Act.put, List.setIfInBounds_toArray, List.set_cons_zero, List.set_cons_succ]
                  refine wpAnyH_take (i := 8) (v := ?vp8) rfl (by kernel_rfl) (by kernel_rfl) (by kernel_rfl) (fun _ _ _ h => h) (Or.inl ⟨by rfl, ?hyp8⟩) (by assumption) ?rep8
                  case hyp8 => first | (intro w hSw; (try dsimp only at hSw); go_simp; done) | (intro w hSw; (try dsimp only at hSw); go_simp; with_reducible rfl)
                  try simp only [List.getElem_toArray, List.getElem_cons_zero, List.getElem_cons_succ, Act.put, List.setIfInBounds_toArray, List.set_cons_zero, List.set_cons_succ]
                  refine wpAnyH_take (i := 10) (v := ?vp10) rfl (by kernel_rfl) (by kernel_rfl) (by kernel_rfl) (fun _ _ _ h => h) (Or.inl ⟨by rfl, ?hyp10⟩) (by assumption) ?rep10
                  case hyp10 => first | (intro w hSw; (try dsimp only at hSw); go_simp; done) | (intro w hSw; (try dsimp only at hSw); go_simp; with_reducible rfl)
                  try simp only [List.getElem_toArray, List.getElem_cons_zero, List.getElem_cons_succ, Act.put, List.setIfInBounds_toArray, List.set_cons_zero, List.set_cons_succ]
                  refine wpAnyH_take (i := 11) (v := ?vp11) rfl (by kernel_rfl) (by kernel_rfl) (by kernel_rfl) (fun _ _ _ h => h) (Or.inl ⟨by rfl, ?hyp11⟩) (by assumption) ?rep11
                  case hyp11 => first | (intro w hSw; (try dsimp only at hSw); go_simp; done) | (intro w hSw; (try dsimp only at hSw); go_simp; with_reducible rfl)
                  try simp only [List.getElem_toArray, List.getElem_cons_zero, List.getElem_cons_succ, Act.put, List.setIfInBounds_toArray, List.set_cons_zero, List.set_cons_succ]
                  refine wpAnyH_take (i := 12) (v := ?vp12) rfl (by kernel_rfl) (by kernel_rfl) (by kernel_rfl) (fun _ _ _ h => h) (Or.inl ⟨by rfl, ?hyp12⟩) (by assumption) ?rep12
                  case hyp12 => first | (intro w hSw; (try dsimp only at hSw); go_simp; done) | (intro w hSw; (try dsimp only at hSw); go_simp; with_reducible rfl)
                  try simp only [List.getElem_toArray, List.getElem_cons_zero, List.getElem_cons_succ, Act.put, List.setIfInBounds_toArray, List.set_cons_zero, List.set_cons_succ]
                  refine wpAnyH_take (i := 13) (v := ?vp13) rfl (by kernel_rfl) (by kernel_rfl) (by kernel_rfl) (fun _ _ _ h => h) (Or.inl ⟨by rfl, ?hyp13⟩) (by assumption) ?rep13
                  case hyp13 => first | (intro w hSw; (try dsimp only at hSw); go_simp; done) | (intro w hSw; (try dsimp only at hSw); go_simp; with_reducible rfl)
                  try simp only [List.getElem_toArray, List.getElem_cons_zero, List.getElem_cons_succ, Act.put, List.setIfInBounds_toArray, List.set_cons_zero, List.set_cons_succ]
                  refine wpAnyH_take (i := 14) (v := ?vp14) rfl (by kernel_rfl) (by kernel_rfl) (by kernel_rfl) (fun _ _ _ h => h) (Or.inl ⟨by rfl, ?hyp14⟩) (by assumption) ?rep14
                  case hyp14 => first | (intro w hSw; (try dsimp only at hSw); go_simp; done) | (intro w hSw; (try dsimp only at hSw); go_simp; with_reducible rfl)
                  try simp only [List.getElem_toArray, List.getElem_cons_zero, List.getElem_cons_succ, Act.put, List.setIfInBounds_toArray, List.set_cons_zero, List.set_cons_succ]
                  refine wpAnyH_take (i := 15) (v := ?vp15) rfl (by kernel_rfl) (by kernel_rfl) (by kernel_rfl) (fun _ _ _ h => h) (Or.inl ⟨by rfl, ?hyp15⟩) (by assumption) ?rep15
                  case hyp15 => first | (intro w hSw; (try dsimp only at hSw); go_simp; done) | (intro w hSw; (try dsimp only at hSw); go_simp; with_reducible rfl)
                  try simp only [List.getElem_toArray, List.getElem_cons_zero, List.getElem_cons_succ, Act.put, List.setIfInBounds_toArray, List.set_cons_zero, List.set_cons_succ]
                  refine wpAnyH_take (i := 16) (v := ?vp16) rfl (by kernel_rfl) (by kernel_rfl) (by kernel_rfl) (fun _ _ _ h => h) (Or.inl ⟨by rfl, ?hyp16⟩) (by assumption) ?rep16
                  case hyp16 => first | (intro w hSw; (try dsimp only at hSw); go_simp; done) | (intro w hSw; (try dsimp only at hSw); go_simp; with_reducible rfl)
                  try simp only [List.getElem_toArray, List.getElem_cons_zero, List.getElem_cons_succ, Act.put, List.setIfInBounds_toArray, List.set_cons_zero, List.set_cons_succ]
                  refine wpAnyH_take (i := 17) (v := ?vp17) rfl (by kernel_rfl) (by kernel_rfl) (by kernel_rfl) (fun _ _ _ h => h) (Or.inl ⟨by rfl, ?hyp17⟩) (by assumption) ?rep17
                  case hyp17 => first | (intro w hSw; (try dsimp only at hSw); go_simp; done) | (intro w hSw; (try dsimp only at hSw); go_simp; with_reducible rfl)
                  try simp only [List.getElem_toArray, List.getElem_cons_zero, List.getElem_cons_succ, Act.put, List.setIfInBounds_toArray, List.set_cons_zero, List.set_cons_succ]
                  refine wpAnyH_take (i := 18) (v := ?vp18) rfl (by kernel_rfl) (by kernel_rfl) (by kernel_rfl) (fun _ _ _ h => h) (Or.inl ⟨by rfl, ?hyp18⟩) (by assumption) ?rep18
                  case hyp18 => first | (intro w hSw; (try dsimp only at hSw); go_simp; done) | (intro w hSw; (try dsimp only at hSw); go_simp; with_reducible rfl)
                  try simp only [List.getElem_toArray, List.getElem_cons_zero, List.getElem_cons_succ, Act.put, List.setIfInBounds_toArray, List.set_cons_zero, List.set_cons_succ]
                  refine wpAnyH_take (i := 19) (v := ?vp19) rfl (by kernel_rfl) (by kernel_rfl) (by kernel_rfl) (fun _ _ _ h => h) (Or.inl ⟨by rfl, ?hyp19⟩) (by assumption) ?rep19
                  case hyp19 => first | (intro w hSw; (try dsimp only at hSw); go_simp; done) | (intro w hSw; (try dsimp only at hSw); go_simp; with_reducible rfl)
                  try simp only [List.getElem_toArray, List.getElem_cons_zero, List.getElem_cons_succ, Act.put, List.setIfInBounds_toArray, List.set_cons_zero, List.set_cons_succ]
                  refine wpAnyH_take (i := 20) (v := ?vp20) rfl (by kernel_rfl) (by kernel_rfl) (by kernel_rfl) (fun _ _ _ h => h) (Or.inl ⟨by rfl, ?hyp20⟩) (by assumption) ?rep20
                  case hyp20 => first | (intro w hSw; (try dsimp only at hSw); go_simp; done) | (intro w hSw; (try dsimp only at hSw); go_simp; with_reducible rfl)
                  try simp only [List.getElem_toArray, List.getElem_cons_zero, List.getElem_cons_succ, Act.put, List.setIfInBounds_toArray, List.set_cons_zero, List.set_cons_succ]
                  refine wpAnyH_ready (rs := [9]) (by kernel_rfl) (by simp) ?_
                  refine AllReadyH.cons rfl (fun K hK => ?_) AllReadyH.nil
                  go_simp
                  go_wp2_with (go_at_call 33; (with_reducible refine (subRat_any qa qb _ _ _ (HA.out.below HAD.out) (HB.out.below HAD.out) (szR_mono ZA.out (by omega)) (szR_mono ZB.out (by omega))).mono ?_); rintro e wA ⟨vA, rfl, hvA, hbA⟩)
                  refine hK.out _ _ (kc11 hbA hh) (fun hh => ?_)
                  clear hK K
                  try simp only [List.getElem_toArray, List.getElem_cons_zero, List.getElem_cons_succ, Act.put, List.setIfInBounds_toArray, List.set_cons_zero, List.set_cons_succ]
                  have BA := Lib.hid (bt HAD.out hbA)
                  refine wpAnyH_ready (rs := [21]) (by kernel_rfl) (by simp) ?_
                  refine AllReadyH.cons rfl (fun K hK => ?_) AllReadyH.nil
                  go_simp
                  go_wp2_with (go_at_call 36; (with_reducible refine (int_any (tb - ta) _ (by omega) (by omega)).mono ?_); rintro e wB ⟨vB, rfl, hvB, hbB⟩)
                  refine hK.out _ _ (kc11 hbB hh) (fun hh => ?_)
                  clear hK K
                  try simp only [List.getElem_toArray, List.getElem_cons_zero, List.getElem_cons_succ, Act.put, List.setIfInBounds_toArray, List.set_cons_zero, List.set_cons_succ]
                  have BB := Lib.hid (bt BA.out hbB)
                  refine wpAnyH_ready (rs := [22]) (by kernel_rfl) (by simp) ?_
                  refine AllReadyH.cons rfl (fun K hK => ?_) AllReadyH.nil
                  go_simp
                  go_wp2_with (go_at_call 35; (with_reducible refine (mulRat_any s ((tb - ta : Int) : Rat) _ _ _ (HSX.out.below BB.out) hvB (szR_mono HSZ.out (by omega)) ZC.out).mono ?_); rintro e wC ⟨vC, rfl, hvC, hbC⟩)
                  refine hK.out _ _ (kc11 hbC hh) (fun hh => ?_)
                  clear hK K
                  try simp only [List.getElem_toArray, List.getElem_cons_zero, List.getElem_cons_succ, Act.put, List.setIfInBounds_toArray, List.set_cons_zero, List.set_cons_succ]
                  have BC := Lib.hid (bt BB.out hbC)
                  refine wpAnyH_ready (rs := [23]) (by kernel_rfl) (by simp) ?_
                  refine AllReadyH.cons rfl (fun K hK => ?_) AllReadyH.nil
                  go_simp
                  go_wp2_with (go_at_call 34; (with_reducible refine (cmpRat_any (qa - qb) (s * ((tb - ta : Int) : Rat)) _ _ _ ((hvA.below hbB).below hbC) hvC ZD.out ZE.out).mono ?_); rintro e wD ⟨rfl, hbD⟩; rw [← HC.out])
                  refine hK.out _ _ (kc11 hbD hh) (fun hh => ?_)
                  clear hK K
                  try simp only [List.getElem_toArray, List.getElem_cons_zero, List.getElem_cons_succ, Act.put, List.setIfInBounds_toArray, List.set_cons_zero, List.set_cons_succ]
                  have BD := Lib.hid (bt BC.out hbD)
                  refine wpAnyH_take (i := 24) (v := ?vp24) rfl (by kernel_rfl) (by kernel_rfl) (by kernel_rfl) (fun _ _ _ h => h) (Or.inl ⟨by rfl, ?hyp24⟩) (by assumption) ?rep24
                  case hyp24 => first | (intro w hSw; (try dsimp only at hSw); go_simp; done) | (intro w hSw; (try dsimp only at hSw); go_simp; with_reducible rfl)
                  try simp only [List.getElem_toArray, List.getElem_cons_zero, List.getElem_cons_succ, Act.put, List.setIfInBounds_toArray, List.set_cons_zero, List.set_cons_succ]
                  refine wpAnyH_done (by kernel_rfl) ?_ _
                  have HVN : Hid (VB w x wD) := HVR.out.below BD.out
                  cases fb with
                  | true =>
                    have Hl2 : Hid (lastUp (fallAt ts qs s) k = (i : Int)) := by show _ = _; rw [Hl.out]; rfl
                    go_wp2_with fail
                    exact ⟨⟨k, by have := HLT.out; have := HK.out; omega, rfl, by rw [Hl2.out], HVN⟩, by rw [show (k : Int) = (i : Int) + 1 by have := HK.out; omega]; exact meas_up HLT.out⟩
                  | false =>
                    have Hl2 : Hid (lastUp (fallAt ts qs s) k = la) := by show _ = _; rw [Hl.out]; rfl
                    go_wp2_with fail
                    exact ⟨⟨k, by have := HLT.out; have := HK.out; omega, rfl, by rw [Hl2.out], HVN⟩, by rw [show (k : Int) = (i : Int) + 1 by have := HK.out; omega]; exact meas_up HLT.out⟩

                · obtain rfl : i = n1 := by omega
                  have HRG := Lib.hid (lastUp_range (fallAt ts qs s) i)
                  have hql : qs.length = i + 1 := HN1.out.2.1
                  obtain ⟨r0, r1, r2, r3⟩ := facS HVR.out.r
                  obtain ⟨e0, e1⟩ := setS HVR.out.r
                  have HVB2 := HVR
                  clear hwn
                  generalize lastUp (fallAt ts qs s) i = la at *
                  by_cases c8 : la < 0
                  · have t8 : decide (la < 0) = true := decide_eq_true c8
                    have HR : Hid (res = (0, 0, 5)) := by show _ = _; rw [HV4.out, if_pos (.inl c8)]
                    clear c8 hql
                    go_wp2_with fail
                    refine bodyPost_ret (v := .tuple #[.agg #[.int .i64 0, .int .i64 0], .int .i64 5]) (by simp [results, Tryz.results10, go_sem, e0, e1]) rfl ⟨by rw [HR.out], below2s HVR.out.bel (by omega)⟩
                  · have t8 : decide (la < 0) = false := decide_eq_false c8
                    have hw2 : IntKind.i64.wrap ((qs.length : Int) - 2) = (i : Int) - 1 := by rw [hql, show ((i + 1 : Nat) : Int) - 2 = (i : Int) - 1 by omega]; exact IntWalk.i64_in _ (by omega)
                    have hw3 : (qs.length : Int) - 2 = (i : Int) - 1 := by omega
                    by_cases c9 : la = (i : Int) - 1
                    · have t9 : (la == (i : Int) - 1) = true := by simp [c9]
                      have HR : Hid (res = (0, 0, 5)) := by show _ = _; rw [HV4.out, if_pos (.inr (by have := HN1.out.1; omega))]
                      clear c8 c9 hql
                      go_wp2_with fail
                      refine bodyPost_ret (v := .tuple #[.agg #[.int .i64 0, .int .i64 0], .int .i64 5]) (by simp [results, Tryz.results10, go_sem, e0, e1]) rfl ⟨by rw [HR.out], below2s HVR.out.bel (by omega)⟩
                    · have t9 : (la == (i : Int) - 1) = false := by simp [c9]
                      have HR : Hid (res = (ts.getD la.toNat 0, ts.getD (la.toNat + 1) 0, 0)) := by show _ = _; rw [HV4.out, if_neg (by have := HN1.out.1; omega)]
                      obtain ⟨l, rfl⟩ : ∃ l : Nat, la = (l : Int) := ⟨la.toNat, by omega⟩
                      rw [show ((l : Int)).toNat = l from rfl] at HR
                      obtain ⟨_, _, e2, hE⟩ := HTS.out.below HVR.out.bel
                      cases e2
                      obtain ⟨b, off, rfl, hbl, hc⟩ := hE (by have := HN1.out; omega)
                      obtain ⟨k, hk⟩ : ∃ k, k = l + 1 := ⟨_, rfl⟩
                      have hr2 := HRG.out.2
                      have y0 := hc l (by have := HN1.out; omega)
                      have y1 := hc k (by have := HN1.out; omega)
                      have hl3 : (l : Int) < ts.length := by have := HN1.out; omega
                      have hl4 : (k : Int) < ts.length := by have := HN1.out; omega
                      have hge1 : (0 : Int) ≤ (l : Int) := by omega
                      have hge2 : (0 : Int) ≤ (k : Int) := by omega
                      have hw1 : IntKind.i64.wrap ((l : Int) + 1) = (k : Int) := by rw [show (l : Int) + 1 = (k : Int) by omega]; exact IntWalk.i64_in _ (by omega)
                      rw [← hk] at HR
                      clear c8 c9 hql hE hc hk hr2
                      generalize ts.getD l 0 = ta at *
                      generalize ts.getD k 0 = tb at *
                      go_wp2_with fail
                      go_region
                      go_wp2_with fail
                      refine bodyPost_ret (v := .tuple #[.agg #[.int .i64 ta, .int .i64 tb], .int .i64 0]) (by simp [results, Tryz.results10, go_sem, e0, e1]) rfl ⟨by rw [HR.out], (below2s HVR.out.bel (by omega)).drew⟩
      · have t3 : ((qs.length : Int) != (ts.length : Int)) = true := by simp; omega
        have HR : Hid (res = (0, 0, 4)) := by show _ = _; rw [HV.out]; unfold vitOf; rw [if_pos (.inr (.inr c3))]
        clear c1 c2 c3 HV
        go_enter Tryz.func10, Tryz.ntmps10
        go_wp2_with fail
        refine bodyPost_ret (v := .tuple #[.agg #[.int .i64 0, .int .i64 0], .int .i64 4]) (by simp [results, Tryz.results10, go_sem]) rfl ⟨by rw [HR.out], below2 _ _ _⟩
end Go.Proofs.YtmfochplnchgcaaGreat

/- THE WALK of the reference's Vitrified; printed by wip/tools/gen_ze.py. -/
namespace Go.Proofs.YtmfochplnchgcaaGreat
open Go.RowKit

theorem szQ_mono {x : Rat} {j k : Nat} (h : szQ x j) (hjk : j ≤ k) : szQ x k := ⟨Nat.le_trans h.1 hjk, Nat.le_trans h.2 hjk⟩
theorem IsR.open3 {w : World} {v : Value} {q : Rat} (h : IsR w v q) : ∃ x : R3, v = x.val := by
  obtain ⟨d', a1, c1, a2, c2, rfl, _⟩ := h.opened
  exact ⟨⟨_, _, _, _, _, _, _⟩, rfl⟩
theorem qsignR_any (q : Rat) (v : Value) (w : World) (h : IsR w v q) : Calls Tryz.prog 37 #[v] w (RetInt (sgnI (decide (q.num < 0)) q.num.natAbs) w) := by
  obtain ⟨d', a1, c1, a2, c2, rfl, _⟩ := h.opened
  exact qsign_any _ _ _ _ _ _ _ _ (fun hb => by have := of_decide_eq_true hb; omega)
theorem whole_any (n : Int) (w : World) (h1 : -9223372036854775808 ≤ n) (h2 : n ≤ 9223372036854775807) : Calls Tryz.prog 41 #[.int .i64 n] w (RetR (n : Rat) w) := by
  go_enter Tryz.func41, Tryz.ntmps41
  go_wp2_with fail
  have hB := blk_new w #[.bool false, .slice none 0 0, .slice none 0 0] 45
  have hal : Below w.heap.size w (w.alloc (.cells #[.bool false, .slice none 0 0, .slice none 0 0] 45)) := (Below.refl _ _).alloc (Nat.le_refl _) _
  generalize (w.alloc (.cells #[.bool false, .slice none 0 0, .slice none 0 0] 45)) = W at *
  refine (qint_any n _ h1 h2).mono ?_
  rintro e wA ⟨vA, rfl, hvA, hbA⟩
  obtain ⟨d5, a5, c5, a6, c6, rfl, n5, n6, D5⟩ := IsR.opened hvA
  have hRB : RB wA w.heap.size := ⟨false, none, 0, 0, none, 0, 0, _, blk_keep hB hbA (blk_lt hB)⟩
  obtain ⟨g0, g1, g2, f0', f1', f2'⟩ := hRB.cell
  have hx : Below w.heap.size w wA := ext_trans hal hbA
  go_wp2_with fail
  refine bodyPost_ret (v := .agg #[.bool (decide ((n : Rat).num < 0)), .slice a5 (dig b32 (n : Rat).num.natAbs).length _, .slice a6 (dig b32 d5).length _]) (by simp [results, Tryz.results41, go_sem, g0, g1, g2]; first | done | exact ⟨rfl, rfl⟩ | rfl) rfl ⟨_, rfl, ?_, below_store3 hx (by omega)⟩
  exact IsR.stored hRB n5 n6 D5 rfl rfl
/-- What stays in the loops: the boxes of the slope and of the result. -/
structure VQ (w : World) (x : R3) (wr : World) : Prop where
  bel : Below w.heap.size w wr
  s : wr.heap[w.heap.size]? = some (.cells x.arr 45 (0, 0))
  r : boxS 0 0 (w.heap.size + 1) wr
theorem VQ.below {w a b : World} {x : R3} (h : VQ w x a) (hb : Below a.heap.size a b) : VQ w x b := ⟨ext_trans h.bel hb, blk_keep h.s hb (blk_lt h.s), blk_keep h.r hb (blk_lt h.r)⟩
set_option maxRecDepth 100000 in
set_option maxHeartbeats 4000000 in
theorem qvit_any (ts : List Int) (qs : List Rat) (s : Rat) (vt vl vs : Value) (w : World) (ht : IntsOf w vt ts) (hl : FrcsOf IsR w vl qs) (hs : IsR w vs s) (hq : ∀ i, szR (qs.getD i 0) 1) (hsz : szR s 1) :
    Calls Tryz.prog 12 #[vt, vl, vs] w (RetVit (vitOf ts qs s) w) := by
  have HTS := Lib.hid ht
  have HLS := Lib.hid hl
  have HS := Lib.hid hs
  have HQ := Lib.hid hq
  have HSZ := Lib.hid hsz
  obtain ⟨at_, ct, rfl, _⟩ := ht
  obtain ⟨al, cl, rfl, _⟩ := hl
  obtain ⟨x, rfl⟩ := hs.open3
  obtain ⟨res, hres⟩ := (⟨vitOf ts qs s, rfl⟩ : ∃ res, res = vitOf ts qs s)
  rw [← hres]
  have HV := Lib.hid hres
  clear hs hq hsz hres
  by_cases c1 : ts.length < 2
  · have t1 : decide ((ts.length : Int) < 2) = true := by simp; omega
    have HR : Hid (res = (0, 0, 4)) := by show _ = _; rw [HV.out]; unfold vitOf; rw [if_pos (.inl c1)]
    clear c1 HV
    go_enter Tryz.func12, Tryz.ntmps12
    go_wp2_with fail
    refine bodyPost_ret (v := .tuple #[.agg #[.int .i64 0, .int .i64 0], .int .i64 4]) (by simp [results, Tryz.results12, go_sem]) rfl ⟨by rw [HR.out], below2 _ _ _⟩
  · have t1 : decide ((ts.length : Int) < 2) = false := by simp; omega
    by_cases c2 : 256 < ts.length
    · have t2 : decide ((ts.length : Int) > 256) = true := by simp; omega
      have HR : Hid (res = (0, 0, 4)) := by show _ = _; rw [HV.out]; unfold vitOf; rw [if_pos (.inr (.inl c2))]
      clear c1 c2 HV
      go_enter Tryz.func12, Tryz.ntmps12
      go_wp2_with fail
      refine bodyPost_ret (v := .tuple #[.agg #[.int .i64 0, .int .i64 0], .int .i64 4]) (by simp [results, Tryz.results12, go_sem]) rfl ⟨by rw [HR.out], below2 _ _ _⟩
    · have t2 : decide ((ts.length : Int) > 256) = false := by simp; omega
      by_cases c3 : qs.length = ts.length
      · have t3 : ((qs.length : Int) != (ts.length : Int)) = false := by simp [c3]
        have HLEN : Hid (qs.length = ts.length ∧ 2 ≤ ts.length ∧ ts.length ≤ 256) := ⟨c3, by omega, by omega⟩
        have HV2 : Hid (res = if s.num < 0 then (0, 0, 1) else if timesErr ts ts.length ≠ 0 then (0, 0, timesErr ts ts.length) else if lastUp (fallAt ts qs s) (ts.length - 1) < 0 ∨ lastUp (fallAt ts qs s) (ts.length - 1) = (ts.length : Int) - 2 then (0, 0, 5) else (ts.getD (lastUp (fallAt ts qs s) (ts.length - 1)).toNat 0, ts.getD ((lastUp (fallAt ts qs s) (ts.length - 1)).toNat + 1) 0, 0)) := by
          show _ = _
          rw [HV.out]
          unfold vitOf
          rw [if_neg (by omega)]
        clear c1 c2 c3 HV
        go_enter Tryz.func12, Tryz.ntmps12
        go_wp2_with fail
        have hbx := bx32 w x.arr #[.int .i64 0, .int .i64 0] (t1 := 45) (t2 := 33) _ rfl
        generalize ((w.alloc (.cells x.arr 45)).alloc (.cells #[.int .i64 0, .int .i64 0] 33)) = W at *
        obtain ⟨hW, hBs, hBr⟩ := hbx
        refine (qsignR_any s _ _ (HS.out.below hW)).mono ?_
        rintro e wA ⟨rfl, hbA⟩
        have HVB : Hid (VQ w x wA) := (VQ.mk hW hBs hBr).below hbA
        obtain ⟨r0, r1, r2, r3⟩ := facS HVB.out.r
        obtain ⟨e0, e1⟩ := setS HVB.out.r
        have hlen := HLEN.out.2.2
        have tneg := sgnI_neg s
        clear hW hBs hBr hbA
        generalize sgnI (decide (s.num < 0)) s.num.natAbs = sg at *
        by_cases c4 : s.num < 0
        · rw [decide_eq_true c4] at tneg
          have HR : Hid (res = (0, 0, 1)) := by show _ = _; rw [HV2.out, if_pos c4]
          clear c4 HV2 HS
          go_wp2_with fail
          refine bodyPost_ret (v := .tuple #[.agg #[.int .i64 0, .int .i64 0], .int .i64 1]) (by simp [results, Tryz.results12, go_sem, e0, e1]) rfl ⟨by rw [HR.out], (below2s HVB.out.bel (by omega))⟩
        · rw [decide_eq_false c4] at tneg
          have HV3 : Hid (res = if timesErr ts ts.length ≠ 0 then (0, 0, timesErr ts ts.length) else if lastUp (fallAt ts qs s) (ts.length - 1) < 0 ∨ lastUp (fallAt ts qs s) (ts.length - 1) = (ts.length : Int) - 2 then (0, 0, 5) else (ts.getD (lastUp (fallAt ts qs s) (ts.length - 1)).toNat 0, ts.getD ((lastUp (fallAt ts qs s) (ts.length - 1)).toNat + 1) 0, 0)) := by
            show _ = _
            rw [HV2.out, if_neg c4]
          clear c4 HV2 r0 r1 r2 r3 e0 e1
          go_wp2_with fail
          go_loopw [8] (fun iv wr => ∃ (i : Nat), i ≤ ts.length ∧ iv = .int .i64 i ∧ Hid (timesErr ts i = 0) ∧ Hid (VQ w x wr))
            (fun iv _ => ts.length - (intOf iv).toNat)
          case atStart => exact ⟨0, Nat.zero_le _, rfl, rfl, HVB⟩
          case round =>
            obtain ⟨i, hi, rfl, HN, HVR⟩ := hrel
            by_cases hlt : i < ts.length
            · have hT := HTS.out.below HVR.out.bel
              obtain ⟨_, _, e0, hE⟩ := hT
              cases e0
              obtain ⟨b, off, rfl, hbl, hc⟩ := hE (by omega)
              have g0 := hc i hlt
              have hlt' : (i : Int) < ts.length := by omega
              have hge' : (0 : Int) ≤ i := by omega
              have HLT := Lib.hid hlt
              have Hent : Hid (timeErr ts i = if ts.getD i 0 < 0 ∨ 1073741824 < ts.getD i 0 then 1 else if 0 < i ∧ ts.getD i 0 ≤ ts.getD (i - 1) 0 then 7 else 0) := rfl
              have Hbad : Hid (timeErr ts i ≠ 0 → res = (0, 0, timeErr ts i)) := fun h => by
                have h2 := timesErr_at HN.out h hlt
                rw [HV3.out, h2, if_pos h]
              have Hnext : Hid (timeErr ts i = 0 → timesErr ts (i + 1) = 0) := fun h => by
                show (if timesErr ts i = 0 then timeErr ts i else timesErr ts i) = 0
                rw [if_pos HN.out]
                exact h
              obtain ⟨r0, r1, r2, r3⟩ := facS HVR.out.r
              obtain ⟨e0, e1⟩ := setS HVR.out.r
              by_cases c6 : 0 < i
              · obtain ⟨j, hj⟩ : ∃ j, i - 1 = j := ⟨_, rfl⟩
                have g1 := hc j (by omega)
                rw [hj] at Hent
                have hw : IntKind.i64.wrap ((i : Int) - 1) = (j : Int) := by rw [show (i : Int) - 1 = (j : Int) by omega]; exact IntWalk.i64_in _ (by have := HLEN.out.2.2; omega)
                have hj0 : (0 : Int) ≤ j := by omega
                have hj1 : (j : Int) < ts.length := by omega
                have t6 : decide ((i : Int) > 0) = true := by simp; omega
                have t6n : decide (0 < i) = true := by simp; omega
                have t6i : decide ((0 : Int) < i) = true := by simp; omega
                have Hi0 := Lib.hid c6
                clear hE hc c6 hj hlt hi
                generalize ts.getD i 0 = xx at *
                generalize ts.getD j 0 = yy at *
                generalize timeErr ts i = te at *
                by_cases c1 : xx < 0
                · have t4 : decide (xx < 0) = true := decide_eq_true c1
                  have HR : Hid (res = (0, 0, 1)) := by have h := Hent.out; rw [if_pos (.inl c1)] at h; have h2 := Hbad.out (by omega); rw [h] at h2; exact h2
                  clear c1 Hent Hbad Hnext
                  go_wp2_with fail
                  refine bodyPost_ret (v := .tuple #[.agg #[.int .i64 0, .int .i64 0], .int .i64 1]) (by simp [results, Tryz.results12, go_sem, e0, e1]) rfl ⟨by rw [HR.out], (below2s HVR.out.bel (by omega))⟩
                · have t4 : decide (xx < 0) = false := decide_eq_false c1
                  by_cases c2 : 1073741824 < xx
                  · have t5 : decide (xx > 1073741824) = true := decide_eq_true c2
                    have HR : Hid (res = (0, 0, 1)) := by have h := Hent.out; rw [if_pos (.inr c2)] at h; have h2 := Hbad.out (by omega); rw [h] at h2; exact h2
                    clear c1 c2 Hent Hbad Hnext
                    go_wp2_with fail
                    refine bodyPost_ret (v := .tuple #[.agg #[.int .i64 0, .int .i64 0], .int .i64 1]) (by simp [results, Tryz.results12, go_sem, e0, e1]) rfl ⟨by rw [HR.out], (below2s HVR.out.bel (by omega))⟩
                  · have t5 : decide (xx > 1073741824) = false := decide_eq_false c2
                    by_cases c3 : xx ≤ yy
                    · have t7 : decide (xx ≤ yy) = true := decide_eq_true c3
                      have HR : Hid (res = (0, 0, 7)) := by have h := Hent.out; rw [if_neg (by omega), if_pos ⟨Hi0.out, c3⟩] at h; have h2 := Hbad.out (by omega); rw [h] at h2; exact h2
                      clear c1 c2 c3 Hent Hbad Hnext
                      go_upto_region 10 with fail
                      refine wp_region_held_drew (S := (fun w' => Below wr.heap.size wr w' ∧ w'.cell? ⟨b, off + i, none⟩ = some (.int .i64 xx) ∧ w'.cell? ⟨b, off + j, none⟩ = some (.int .i64 yy))) (by kernel_rfl) ⟨(Below.refl _ _).drew, g0, g1⟩ (fun hh => ?_)
                      refine wpAnyH_take (i := 0) (v := ?vpg1x0) rfl (by kernel_rfl) (by kernel_rfl) (by kernel_rfl) (fun _ _ _ h => h) (Or.inl ⟨by first | rfl | kernel_rfl, ?hypg1x0⟩) (by assumption) ?repg1x0
                      case hypg1x0 => first | (intro w hSw; (try dsimp only at hSw); go_simp; done) | (intro w hSw; (try dsimp only at hSw); go_simp; with_reducible rfl)
                      try simp only [List.getElem_toArray, List.getElem_cons_zero, List.getElem_cons_succ, Act.put, List.setIfInBounds_toArray, List.set_cons_zero, List.set_cons_succ]
                      refine wpAnyH_take (i := 1) (v := ?vpg1x1) rfl (by kernel_rfl) (by kernel_rfl) (by kernel_rfl) (fun _ _ _ h => h) (Or.inl ⟨by first | rfl | kernel_rfl, ?hypg1x1⟩) (by assumption) ?repg1x1
                      case hypg1x1 => first | (intro w hSw; (try dsimp only at hSw); go_simp; done) | (intro w hSw; (try dsimp only at hSw); go_simp; with_reducible rfl)
                      try simp only [List.getElem_toArray, List.getElem_cons_zero, List.getElem_cons_succ, Act.put, List.setIfInBounds_toArray, List.set_cons_zero, List.set_cons_succ]
                      refine wpAnyH_take (i := 2) (v := ?vpg1x2) rfl (by kernel_rfl) (by kernel_rfl) (by kernel_rfl) (fun _ _ _ h => h) (Or.inl ⟨by first | rfl | kernel_rfl, ?hypg1x2⟩) (by assumption) ?repg1x2
                      case hypg1x2 => first | (intro w hSw; (try dsimp only at hSw); go_simp; done) | (intro w hSw; (try dsimp only at hSw); go_simp; with_reducible rfl)
                      try simp only [List.getElem_toArray, List.getElem_cons_zero, List.getElem_cons_succ, Act.put, List.setIfInBounds_toArray, List.set_cons_zero, List.set_cons_succ]
                      refine wpAnyH_take (i := 3) (v := ?vpg1x3) rfl (by kernel_rfl) (by kernel_rfl) (by kernel_rfl) (fun _ _ _ h => h) (Or.inl ⟨by first | rfl | kernel_rfl, ?hypg1x3⟩) (by assumption) ?repg1x3
                      case hypg1x3 => first | (intro w hSw; (try dsimp only at hSw); go_simp; done) | (intro w hSw; (try dsimp only at hSw); go_simp; with_reducible rfl)
                      try simp only [List.getElem_toArray, List.getElem_cons_zero, List.getElem_cons_succ, Act.put, List.setIfInBounds_toArray, List.set_cons_zero, List.set_cons_succ]
                      refine wpAnyH_take (i := 4) (v := ?vpg1x4) rfl (by kernel_rfl) (by kernel_rfl) (by kernel_rfl) (fun _ _ _ h => h) (Or.inl ⟨by first | rfl | kernel_rfl, ?hypg1x4⟩) (by assumption) ?repg1x4
                      case hypg1x4 => first | (intro w hSw; (try dsimp only at hSw); go_simp; done) | (intro w hSw; (try dsimp only at hSw); go_simp; with_reducible rfl)
                      try simp only [List.getElem_toArray, List.getElem_cons_zero, List.getElem_cons_succ, Act.put, List.setIfInBounds_toArray, List.set_cons_zero, List.set_cons_succ]
                      refine wpAnyH_take (i := 5) (v := ?vpg1x5) rfl (by kernel_rfl) (by kernel_rfl) (by kernel_rfl) (fun _ _ _ h => h) (Or.inl ⟨by first | rfl | kernel_rfl, ?hypg1x5⟩) (by assumption) ?repg1x5
                      case hypg1x5 => first | (intro w hSw; (try dsimp only at hSw); go_simp; done) | (intro w hSw; (try dsimp only at hSw); go_simp; with_reducible rfl)
                      try simp only [List.getElem_toArray, List.getElem_cons_zero, List.getElem_cons_succ, Act.put, List.setIfInBounds_toArray, List.set_cons_zero, List.set_cons_succ]
                      refine wpAnyH_take (i := 6) (v := ?vpg1x6) rfl (by kernel_rfl) (by kernel_rfl) (by kernel_rfl) (fun _ _ _ h => h) (Or.inl ⟨by first | rfl | kernel_rfl, ?hypg1x6⟩) (by assumption) ?repg1x6
                      case hypg1x6 => first | (intro w hSw; (try dsimp only at hSw); go_simp; done) | (intro w hSw; (try dsimp only at hSw); go_simp; with_reducible rfl)
                      try simp only [List.getElem_toArray, List.getElem_cons_zero, List.getElem_cons_succ, Act.put, List.setIfInBounds_toArray, List.set_cons_zero, List.set_cons_succ]
                      refine wpAnyH_take (i := 7) (v := ?vpg1x7) rfl (by kernel_rfl) (by kernel_rfl) (by kernel_rfl) (fun _ _ _ h => h) (Or.inl ⟨by first | rfl | kernel_rfl, ?hypg1x7⟩) (by assumption) ?repg1x7
                      case hypg1x7 => first | (intro w hSw; (try dsimp only at hSw); go_simp; done) | (intro w hSw; (try dsimp only at hSw); go_simp; with_reducible rfl)
                      try simp only [List.getElem_toArray, List.getElem_cons_zero, List.getElem_cons_succ, Act.put, List.setIfInBounds_toArray, List.set_cons_zero, List.set_cons_succ]
                      refine wpAnyH_take (i := 8) (v := ?vpg1x8) rfl (by kernel_rfl) (by kernel_rfl) (by kernel_rfl) (fun _ _ _ h => h) (Or.inl ⟨by first | rfl | kernel_rfl, ?hypg1x8⟩) (by assumption) ?repg1x8
                      case hypg1x8 => first | (intro w hSw; (try dsimp only at hSw); go_simp; done) | (intro w hSw; (try dsimp only at hSw); go_simp; with_reducible rfl)
                      try simp only [List.getElem_toArray, List.getElem_cons_zero, List.getElem_cons_succ, Act.put, List.setIfInBounds_toArray, List.set_cons_zero, List.set_cons_succ]
                      refine wpAnyH_take (i := 9) (v := ?vpg1x9) rfl (by kernel_rfl) (by kernel_rfl) (by kernel_rfl) (fun _ _ _ h => h) (Or.inl ⟨by first | rfl | kernel_rfl, ?hypg1x9⟩) (by assumption) ?repg1x9
                      case hypg1x9 => first | (intro w hSw; (try dsimp only at hSw); go_simp; done) | (intro w hSw; (try dsimp only at hSw); go_simp; with_reducible rfl)
                      try simp only [List.getElem_toArray, List.getElem_cons_zero, List.getElem_cons_succ, Act.put, List.setIfInBounds_toArray, List.set_cons_zero, List.set_cons_succ]
                      refine wpAnyH_take (i := 10) (v := ?vpg1x10) rfl (by kernel_rfl) (by kernel_rfl) (by kernel_rfl) (fun _ _ _ h => h) (Or.inl ⟨by first | rfl | kernel_rfl, ?hypg1x10⟩) (by assumption) ?repg1x10
                      case hypg1x10 => first | (intro w hSw; (try dsimp only at hSw); go_simp; done) | (intro w hSw; (try dsimp only at hSw); go_simp; with_reducible rfl)
                      try simp only [List.getElem_toArray, List.getElem_cons_zero, List.getElem_cons_succ, Act.put, List.setIfInBounds_toArray, List.set_cons_zero, List.set_cons_succ]
                      refine wpAnyH_take (i := 11) (v := ?vpg1x11) rfl (by kernel_rfl) (by kernel_rfl) (by kernel_rfl) (fun _ _ _ h => h) (Or.inl ⟨by first | rfl | kernel_rfl, ?hypg1x11⟩) (by assumption) ?repg1x11
                      case hypg1x11 => first | (intro w hSw; (try dsimp only at hSw); go_simp; done) | (intro w hSw; (try dsimp only at hSw); go_simp; with_reducible rfl)
                      try simp only [List.getElem_toArray, List.getElem_cons_zero, List.getElem_cons_succ, Act.put, List.setIfInBounds_toArray, List.set_cons_zero, List.set_cons_succ]
                      refine wpAnyH_take (i := 12) (v := ?vpg1x12) rfl (by kernel_rfl) (by kernel_rfl) (by kernel_rfl) (fun _ _ _ h => h) (Or.inl ⟨by first | rfl | kernel_rfl, ?hypg1x12⟩) (by assumption) ?repg1x12
                      case hypg1x12 => first | (intro w hSw; (try dsimp only at hSw); go_simp; done) | (intro w hSw; (try dsimp only at hSw); go_simp; with_reducible rfl)
                      try simp only [List.getElem_toArray, List.getElem_cons_zero, List.getElem_cons_succ, Act.put, List.setIfInBounds_toArray, List.set_cons_zero, List.set_cons_succ]
                      refine wpAnyH_take (i := 13) (v := ?vpg1x13) rfl (by kernel_rfl) (by kernel_rfl) (by kernel_rfl) (fun _ _ _ h => h) (Or.inl ⟨by first | rfl | kernel_rfl, ?hypg1x13⟩) (by assumption) ?repg1x13
                      case hypg1x13 => first | (intro w hSw; (try dsimp only at hSw); go_simp; done) | (intro w hSw; (try dsimp only at hSw); go_simp; with_reducible rfl)
                      try simp only [List.getElem_toArray, List.getElem_cons_zero, List.getElem_cons_succ, Act.put, List.setIfInBounds_toArray, List.set_cons_zero, List.set_cons_succ]
                      refine wpAnyH_done (by kernel_rfl) ?_ _
                      go_wp2_with fail
                      refine bodyPost_ret (v := .tuple #[.agg #[.int .i64 0, .int .i64 0], .int .i64 7]) (by simp [results, Tryz.results12, go_sem, e0, e1]) rfl ⟨by rw [HR.out], (below2s HVR.out.bel (by omega)).drew⟩
                    · have t7 : decide (xx ≤ yy) = false := decide_eq_false c3
                      have Hn : Hid (timesErr ts (i + 1) = 0) := Hnext.out (by rw [Hent.out, if_neg (by omega), if_neg (by omega)])
                      clear c1 c2 c3 Hent Hbad Hnext e0 e1
                      go_upto_region 10 with fail
                      refine wp_region_held_drew (S := (fun w' => Below wr.heap.size wr w' ∧ w'.cell? ⟨b, off + i, none⟩ = some (.int .i64 xx) ∧ w'.cell? ⟨b, off + j, none⟩ = some (.int .i64 yy))) (by kernel_rfl) ⟨(Below.refl _ _).drew, g0, g1⟩ (fun hh => ?_)
                      refine wpAnyH_take (i := 0) (v := ?vpg2x0) rfl (by kernel_rfl) (by kernel_rfl) (by kernel_rfl) (fun _ _ _ h => h) (Or.inl ⟨by first | rfl | kernel_rfl, ?hypg2x0⟩) (by assumption) ?repg2x0
                      case hypg2x0 => first | (intro w hSw; (try dsimp only at hSw); go_simp; done) | (intro w hSw; (try dsimp only at hSw); go_simp; with_reducible rfl)
                      try simp only [List.getElem_toArray, List.getElem_cons_zero, List.getElem_cons_succ, Act.put, List.setIfInBounds_toArray, List.set_cons_zero, List.set_cons_succ]
                      refine wpAnyH_take (i := 1) (v := ?vpg2x1) rfl (by kernel_rfl) (by kernel_rfl) (by kernel_rfl) (fun _ _ _ h => h) (Or.inl ⟨by first | rfl | kernel_rfl, ?hypg2x1⟩) (by assumption) ?repg2x1
                      case hypg2x1 => first | (intro w hSw; (try dsimp only at hSw); go_simp; done) | (intro w hSw; (try dsimp only at hSw); go_simp; with_reducible rfl)
                      try simp only [List.getElem_toArray, List.getElem_cons_zero, List.getElem_cons_succ, Act.put, List.setIfInBounds_toArray, List.set_cons_zero, List.set_cons_succ]
                      refine wpAnyH_take (i := 2) (v := ?vpg2x2) rfl (by kernel_rfl) (by kernel_rfl) (by kernel_rfl) (fun _ _ _ h => h) (Or.inl ⟨by first | rfl | kernel_rfl, ?hypg2x2⟩) (by assumption) ?repg2x2
                      case hypg2x2 => first | (intro w hSw; (try dsimp only at hSw); go_simp; done) | (intro w hSw; (try dsimp only at hSw); go_simp; with_reducible rfl)
                      try simp only [List.getElem_toArray, List.getElem_cons_zero, List.getElem_cons_succ, Act.put, List.setIfInBounds_toArray, List.set_cons_zero, List.set_cons_succ]
                      refine wpAnyH_take (i := 3) (v := ?vpg2x3) rfl (by kernel_rfl) (by kernel_rfl) (by kernel_rfl) (fun _ _ _ h => h) (Or.inl ⟨by first | rfl | kernel_rfl, ?hypg2x3⟩) (by assumption) ?repg2x3
                      case hypg2x3 => first | (intro w hSw; (try dsimp only at hSw); go_simp; done) | (intro w hSw; (try dsimp only at hSw); go_simp; with_reducible rfl)
                      try simp only [List.getElem_toArray, List.getElem_cons_zero, List.getElem_cons_succ, Act.put, List.setIfInBounds_toArray, List.set_cons_zero, List.set_cons_succ]
                      refine wpAnyH_take (i := 4) (v := ?vpg2x4) rfl (by kernel_rfl) (by kernel_rfl) (by kernel_rfl) (fun _ _ _ h => h) (Or.inl ⟨by first | rfl | kernel_rfl, ?hypg2x4⟩) (by assumption) ?repg2x4
                      case hypg2x4 => first | (intro w hSw; (try dsimp only at hSw); go_simp; done) | (intro w hSw; (try dsimp only at hSw); go_simp; with_reducible rfl)
                      try simp only [List.getElem_toArray, List.getElem_cons_zero, List.getElem_cons_succ, Act.put, List.setIfInBounds_toArray, List.set_cons_zero, List.set_cons_succ]
                      refine wpAnyH_take (i := 5) (v := ?vpg2x5) rfl (by kernel_rfl) (by kernel_rfl) (by kernel_rfl) (fun _ _ _ h => h) (Or.inl ⟨by first | rfl | kernel_rfl, ?hypg2x5⟩) (by assumption) ?repg2x5
                      case hypg2x5 => first | (intro w hSw; (try dsimp only at hSw); go_simp; done) | (intro w hSw; (try dsimp only at hSw); go_simp; with_reducible rfl)
                      try simp only [List.getElem_toArray, List.getElem_cons_zero, List.getElem_cons_succ, Act.put, List.setIfInBounds_toArray, List.set_cons_zero, List.set_cons_succ]
                      refine wpAnyH_take (i := 6) (v := ?vpg2x6) rfl (by kernel_rfl) (by kernel_rfl) (by kernel_rfl) (fun _ _ _ h => h) (Or.inl ⟨by first | rfl | kernel_rfl, ?hypg2x6⟩) (by assumption) ?repg2x6
                      case hypg2x6 => first | (intro w hSw; (try dsimp only at hSw); go_simp; done) | (intro w hSw; (try dsimp only at hSw); go_simp; with_reducible rfl)
                      try simp only [List.getElem_toArray, List.getElem_cons_zero, List.getElem_cons_succ, Act.put, List.setIfInBounds_toArray, List.set_cons_zero, List.set_cons_succ]
                      refine wpAnyH_take (i := 7) (v := ?vpg2x7) rfl (by kernel_rfl) (by kernel_rfl) (by kernel_rfl) (fun _ _ _ h => h) (Or.inl ⟨by first | rfl | kernel_rfl, ?hypg2x7⟩) (by assumption) ?repg2x7
                      case hypg2x7 => first | (intro w hSw; (try dsimp only at hSw); go_simp; done) | (intro w hSw; (try dsimp only at hSw); go_simp; with_reducible rfl)
                      try simp only [List.getElem_toArray, List.getElem_cons_zero, List.getElem_cons_succ, Act.put, List.setIfInBounds_toArray, List.set_cons_zero, List.set_cons_succ]
                      refine wpAnyH_take (i := 8) (v := ?vpg2x8) rfl (by kernel_rfl) (by kernel_rfl) (by kernel_rfl) (fun _ _ _ h => h) (Or.inl ⟨by first | rfl | kernel_rfl, ?hypg2x8⟩) (by assumption) ?repg2x8
                      case hypg2x8 => first | (intro w hSw; (try dsimp only at hSw); go_simp; done) | (intro w hSw; (try dsimp only at hSw); go_simp; with_reducible rfl)
                      try simp only [List.getElem_toArray, List.getElem_cons_zero, List.getElem_cons_succ, Act.put, List.setIfInBounds_toArray, List.set_cons_zero, List.set_cons_succ]
                      refine wpAnyH_take (i := 9) (v := ?vpg2x9) rfl (by kernel_rfl) (by kernel_rfl) (by kernel_rfl) (fun _ _ _ h => h) (Or.inl ⟨by first | rfl | kernel_rfl, ?hypg2x9⟩) (by assumption) ?repg2x9
                      case hypg2x9 => first | (intro w hSw; (try dsimp only at hSw); go_simp; done) | (intro w hSw; (try dsimp only at hSw); go_simp; with_reducible rfl)
                      try simp only [List.getElem_toArray, List.getElem_cons_zero, List.getElem_cons_succ, Act.put, List.setIfInBounds_toArray, List.set_cons_zero, List.set_cons_succ]
                      refine wpAnyH_take (i := 10) (v := ?vpg2x10) rfl (by kernel_rfl) (by kernel_rfl) (by kernel_rfl) (fun _ _ _ h => h) (Or.inl ⟨by first | rfl | kernel_rfl, ?hypg2x10⟩) (by assumption) ?repg2x10
                      case hypg2x10 => first | (intro w hSw; (try dsimp only at hSw); go_simp; done) | (intro w hSw; (try dsimp only at hSw); go_simp; with_reducible rfl)
                      try simp only [List.getElem_toArray, List.getElem_cons_zero, List.getElem_cons_succ, Act.put, List.setIfInBounds_toArray, List.set_cons_zero, List.set_cons_succ]
                      refine wpAnyH_take (i := 11) (v := ?vpg2x11) rfl (by kernel_rfl) (by kernel_rfl) (by kernel_rfl) (fun _ _ _ h => h) (Or.inl ⟨by first | rfl | kernel_rfl, ?hypg2x11⟩) (by assumption) ?repg2x11
                      case hypg2x11 => first | (intro w hSw; (try dsimp only at hSw); go_simp; done) | (intro w hSw; (try dsimp only at hSw); go_simp; with_reducible rfl)
                      try simp only [List.getElem_toArray, List.getElem_cons_zero, List.getElem_cons_succ, Act.put, List.setIfInBounds_toArray, List.set_cons_zero, List.set_cons_succ]
                      refine wpAnyH_take (i := 12) (v := ?vpg2x12) rfl (by kernel_rfl) (by kernel_rfl) (by kernel_rfl) (fun _ _ _ h => h) (Or.inl ⟨by first | rfl | kernel_rfl, ?hypg2x12⟩) (by assumption) ?repg2x12
                      case hypg2x12 => first | (intro w hSw; (try dsimp only at hSw); go_simp; done) | (intro w hSw; (try dsimp only at hSw); go_simp; with_reducible rfl)
                      try simp only [List.getElem_toArray, List.getElem_cons_zero, List.getElem_cons_succ, Act.put, List.setIfInBounds_toArray, List.set_cons_zero, List.set_cons_succ]
                      refine wpAnyH_take (i := 13) (v := ?vpg2x13) rfl (by kernel_rfl) (by kernel_rfl) (by kernel_rfl) (fun _ _ _ h => h) (Or.inl ⟨by first | rfl | kernel_rfl, ?hypg2x13⟩) (by assumption) ?repg2x13
                      case hypg2x13 => first | (intro w hSw; (try dsimp only at hSw); go_simp; done) | (intro w hSw; (try dsimp only at hSw); go_simp; with_reducible rfl)
                      try simp only [List.getElem_toArray, List.getElem_cons_zero, List.getElem_cons_succ, Act.put, List.setIfInBounds_toArray, List.set_cons_zero, List.set_cons_succ]
                      refine wpAnyH_done (by kernel_rfl) ?_ _
                      go_wp2_with fail
                      exact ⟨⟨i + 1, by have := HLT.out; omega, by go_num, Hn, HVR.out.below (Below.refl _ _).drew⟩, meas_up HLT.out⟩
              · have t6 : decide ((i : Int) > 0) = false := by simp; omega
                have t6n : decide (0 < i) = false := by simp; omega
                have t6i : decide ((0 : Int) < i) = false := by simp; omega
                have Hi0 := Lib.hid c6
                clear hE hc c6 hlt hi
                generalize ts.getD i 0 = xx at *
                generalize timeErr ts i = te at *
                by_cases c1 : xx < 0
                · have t4 : decide (xx < 0) = true := decide_eq_true c1
                  have HR : Hid (res = (0, 0, 1)) := by have h := Hent.out; rw [if_pos (.inl c1)] at h; have h2 := Hbad.out (by omega); rw [h] at h2; exact h2
                  clear c1 Hent Hbad Hnext
                  go_wp2_with fail
                  refine bodyPost_ret (v := .tuple #[.agg #[.int .i64 0, .int .i64 0], .int .i64 1]) (by simp [results, Tryz.results12, go_sem, e0, e1]) rfl ⟨by rw [HR.out], (below2s HVR.out.bel (by omega))⟩
                · have t4 : decide (xx < 0) = false := decide_eq_false c1
                  by_cases c2 : 1073741824 < xx
                  · have t5 : decide (xx > 1073741824) = true := decide_eq_true c2
                    have HR : Hid (res = (0, 0, 1)) := by have h := Hent.out; rw [if_pos (.inr c2)] at h; have h2 := Hbad.out (by omega); rw [h] at h2; exact h2
                    clear c1 c2 Hent Hbad Hnext
                    go_wp2_with fail
                    refine bodyPost_ret (v := .tuple #[.agg #[.int .i64 0, .int .i64 0], .int .i64 1]) (by simp [results, Tryz.results12, go_sem, e0, e1]) rfl ⟨by rw [HR.out], (below2s HVR.out.bel (by omega))⟩
                  · have t5 : decide (xx > 1073741824) = false := decide_eq_false c2
                    have Hn : Hid (timesErr ts (i + 1) = 0) := Hnext.out (by rw [Hent.out, if_neg (by omega), if_neg (fun h => Hi0.out h.1)])
                    clear c1 c2 Hent Hbad Hnext e0 e1
                    go_upto_region 10 with fail
                    refine wp_region_held_drew (S := (fun w' => Below wr.heap.size wr w' ∧ w'.cell? ⟨b, off + i, none⟩ = some (.int .i64 xx))) (by kernel_rfl) ⟨(Below.refl _ _).drew, g0⟩ (fun hh => ?_)
                    refine wpAnyH_take (i := 0) (v := ?vpg3x0) rfl (by kernel_rfl) (by kernel_rfl) (by kernel_rfl) (fun _ _ _ h => h) (Or.inl ⟨by first | rfl | kernel_rfl, ?hypg3x0⟩) (by assumption) ?repg3x0
                    case hypg3x0 => first | (intro w hSw; (try dsimp only at hSw); go_simp; done) | (intro w hSw; (try dsimp only at hSw); go_simp; with_reducible rfl)
                    try simp only [List.getElem_toArray, List.getElem_cons_zero, List.getElem_cons_succ, Act.put, List.setIfInBounds_toArray, List.set_cons_zero, List.set_cons_succ]
                    refine wpAnyH_take (i := 1) (v := ?vpg3x1) rfl (by kernel_rfl) (by kernel_rfl) (by kernel_rfl) (fun _ _ _ h => h) (Or.inl ⟨by first | rfl | kernel_rfl, ?hypg3x1⟩) (by assumption) ?repg3x1
                    case hypg3x1 => first | (intro w hSw; (try dsimp only at hSw); go_simp; done) | (intro w hSw; (try dsimp only at hSw); go_simp; with_reducible rfl)
                    try simp only [List.getElem_toArray, List.getElem_cons_zero, List.getElem_cons_succ, Act.put, List.setIfInBounds_toArray, List.set_cons_zero, List.set_cons_succ]
                    refine wpAnyH_take (i := 2) (v := ?vpg3x2) rfl (by kernel_rfl) (by kernel_rfl) (by kernel_rfl) (fun _ _ _ h => h) (Or.inl ⟨by first | rfl | kernel_rfl, ?hypg3x2⟩) (by assumption) ?repg3x2
                    case hypg3x2 => first | (intro w hSw; (try dsimp only at hSw); go_simp; done) | (intro w hSw; (try dsimp only at hSw); go_simp; with_reducible rfl)
                    try simp only [List.getElem_toArray, List.getElem_cons_zero, List.getElem_cons_succ, Act.put, List.setIfInBounds_toArray, List.set_cons_zero, List.set_cons_succ]
                    refine wpAnyH_take (i := 3) (v := undef) rfl (by kernel_rfl) (by kernel_rfl) (by kernel_rfl) (fun _ _ _ h => h) (Or.inr ⟨by rfl, rfl⟩) (by assumption) ?repg3x3
                    try simp only [List.getElem_toArray, List.getElem_cons_zero, List.getElem_cons_succ, Act.put, List.setIfInBounds_toArray, List.set_cons_zero, List.set_cons_succ]
                    refine wpAnyH_take (i := 4) (v := undef) rfl (by kernel_rfl) (by kernel_rfl) (by kernel_rfl) (fun _ _ _ h => h) (Or.inr ⟨by rfl, rfl⟩) (by assumption) ?repg3x4
                    try simp only [List.getElem_toArray, List.getElem_cons_zero, List.getElem_cons_succ, Act.put, List.setIfInBounds_toArray, List.set_cons_zero, List.set_cons_succ]
                    refine wpAnyH_take (i := 5) (v := undef) rfl (by kernel_rfl) (by kernel_rfl) (by kernel_rfl) (fun _ _ _ h => h) (Or.inr ⟨by rfl, rfl⟩) (by assumption) ?repg3x5
                    try simp only [List.getElem_toArray, List.getElem_cons_zero, List.getElem_cons_succ, Act.put, List.setIfInBounds_toArray, List.set_cons_zero, List.set_cons_succ]
                    refine wpAnyH_take (i := 6) (v := undef) rfl (by kernel_rfl) (by kernel_rfl) (by kernel_rfl) (fun _ _ _ h => h) (Or.inr ⟨by rfl, rfl⟩) (by assumption) ?repg3x6
                    try simp only [List.getElem_toArray, List.getElem_cons_zero, List.getElem_cons_succ, Act.put, List.setIfInBounds_toArray, List.set_cons_zero, List.set_cons_succ]
                    refine wpAnyH_take (i := 7) (v := undef) rfl (by kernel_rfl) (by kernel_rfl) (by kernel_rfl) (fun _ _ _ h => h) (Or.inr ⟨by rfl, rfl⟩) (by assumption) ?repg3x7
                    try simp only [List.getElem_toArray, List.getElem_cons_zero, List.getElem_cons_succ, Act.put, List.setIfInBounds_toArray, List.set_cons_zero, List.set_cons_succ]
                    refine wpAnyH_take (i := 8) (v := undef) rfl (by kernel_rfl) (by kernel_rfl) (by kernel_rfl) (fun _ _ _ h => h) (Or.inr ⟨by rfl, rfl⟩) (by assumption) ?repg3x8
                    try simp only [List.getElem_toArray, List.getElem_cons_zero, List.getElem_cons_succ, Act.put, List.setIfInBounds_toArray, List.set_cons_zero, List.set_cons_succ]
                    refine wpAnyH_take (i := 9) (v := undef) rfl (by kernel_rfl) (by kernel_rfl) (by kernel_rfl) (fun _ _ _ h => h) (Or.inr ⟨by rfl, rfl⟩) (by assumption) ?repg3x9
                    try simp only [List.getElem_toArray, List.getElem_cons_zero, List.getElem_cons_succ, Act.put, List.setIfInBounds_toArray, List.set_cons_zero, List.set_cons_succ]
                    refine wpAnyH_take (i := 10) (v := undef) rfl (by kernel_rfl) (by kernel_rfl) (by kernel_rfl) (fun _ _ _ h => h) (Or.inr ⟨by rfl, rfl⟩) (by assumption) ?repg3x10
                    try simp only [List.getElem_toArray, List.getElem_cons_zero, List.getElem_cons_succ, Act.put, List.setIfInBounds_toArray, List.set_cons_zero, List.set_cons_succ]
                    refine wpAnyH_take (i := 11) (v := undef) rfl (by kernel_rfl) (by kernel_rfl) (by kernel_rfl) (fun _ _ _ h => h) (Or.inr ⟨by rfl, rfl⟩) (by assumption) ?repg3x11
                    try simp only [List.getElem_toArray, List.getElem_cons_zero, List.getElem_cons_succ, Act.put, List.setIfInBounds_toArray, List.set_cons_zero, List.set_cons_succ]
                    refine wpAnyH_take (i := 12) (v := undef) rfl (by kernel_rfl) (by kernel_rfl) (by kernel_rfl) (fun _ _ _ h => h) (Or.inr ⟨by rfl, rfl⟩) (by assumption) ?repg3x12
                    try simp only [List.getElem_toArray, List.getElem_cons_zero, List.getElem_cons_succ, Act.put, List.setIfInBounds_toArray, List.set_cons_zero, List.set_cons_succ]
                    refine wpAnyH_take (i := 13) (v := ?vpg3x13) rfl (by kernel_rfl) (by kernel_rfl) (by kernel_rfl) (fun _ _ _ h => h) (Or.inl ⟨by first | rfl | kernel_rfl, ?hypg3x13⟩) (by assumption) ?repg3x13
                    case hypg3x13 => first | (intro w hSw; (try dsimp only at hSw); go_simp; done) | (intro w hSw; (try dsimp only at hSw); go_simp; with_reducible rfl)
                    try simp only [List.getElem_toArray, List.getElem_cons_zero, List.getElem_cons_succ, Act.put, List.setIfInBounds_toArray, List.set_cons_zero, List.set_cons_succ]
                    refine wpAnyH_done (by kernel_rfl) ?_ _
                    go_wp2_with fail
                    exact ⟨⟨i + 1, by have := HLT.out; omega, by go_num, Hn, HVR.out.below (Below.refl _ _).drew⟩, meas_up HLT.out⟩
            · obtain rfl : i = ts.length := by omega
              have HV4 : Hid (res = if lastUp (fallAt ts qs s) (ts.length - 1) < 0 ∨ lastUp (fallAt ts qs s) (ts.length - 1) = (ts.length : Int) - 2 then (0, 0, 5) else (ts.getD (lastUp (fallAt ts qs s) (ts.length - 1)).toNat 0, ts.getD ((lastUp (fallAt ts qs s) (ts.length - 1)).toNat + 1) 0, 0)) := by
                show _ = _
                rw [HV3.out, if_neg (by rw [HN.out]; decide)]
              clear HV3
              obtain ⟨n1, hn1⟩ : ∃ n1, ts.length = n1 + 1 := ⟨ts.length - 1, by have := HLEN.out.2.1; omega⟩
              have hwn : (ts.length : Int) - 2 = (n1 : Int) - 1 := by have := HLEN.out; omega
              have hwn2 : IntKind.i64.wrap ((ts.length : Int) - 2) = (n1 : Int) - 1 := by rw [hwn]; exact IntWalk.i64_in _ (by omega)
              have HN1 : Hid (ts.length = n1 + 1 ∧ qs.length = n1 + 1 ∧ ts.length - 1 = n1 ∧ 1 ≤ n1) := by have := HLEN.out; exact ⟨hn1, by omega, by omega, by omega⟩
              have HTI : Hid (∀ i, i ≤ n1 → 0 ≤ ts.getD i 0 ∧ ts.getD i 0 ≤ 1073741824) := fun i h => times_in HN.out (by omega)
              rw [HN1.out.2.2.1] at HV4
              clear HN hi hn1
              go_wp2_with fail
              try rw [hwn]
              have hn256 : n1 ≤ 256 := by omega
              go_loopw [9] (fun iv wq => ∃ (k : Nat) (z : Int), k ≤ n1 ∧ iv = .int .i64 z ∧ z = (k : Int) - 1 ∧ Hid (∀ j, k ≤ j → j < n1 → fallAt ts qs s j = false) ∧ Hid (VQ w x wq))
                (fun iv _ => (intOf iv + 1).toNat)
              case atStart => exact ⟨n1, _, Nat.le_refl _, rfl, rfl, fun j h1 h2 => absurd h2 (by omega), HVR⟩
              case round =>
                clear HVR
                obtain ⟨k, z, hk, rfl, hz, HNF, HVR⟩ := hrel
                by_cases hk0 : 0 < k
                · obtain ⟨i, rfl⟩ : ∃ i, z = ((i : Nat) : Int) := ⟨k - 1, by omega⟩
                  obtain rfl : k = i + 1 := by omega
                  have hT := HTS.out.below HVR.out.bel
                  obtain ⟨_, _, e0, hE⟩ := hT
                  cases e0
                  obtain ⟨b, off, rfl, hbl, hc⟩ := hE (by have := HN1.out; omega)
                  obtain ⟨k, hk⟩ : ∃ k, k = i + 1 := ⟨_, rfl⟩
                  have y0 := hc i (by have := HN1.out; omega)
                  have y1 := hc k (by have := HN1.out; omega)
                  have hL := HLS.out.below (fun _ _ _ _ h hb => h.below hb) HVR.out.bel
                  obtain ⟨_, _, e1, hF⟩ := hL
                  cases e1
                  obtain ⟨bl, offl, rfl, hbl2, hd⟩ := hF (by have := HN1.out; omega)
                  obtain ⟨a0, a1, a2, p0, p1, p2, hqa⟩ := hd i (by have := HN1.out; omega)
                  obtain ⟨b0, b1, b2, q0, q1, q2, hqb⟩ := hd k (by have := HN1.out; omega)
                  obtain ⟨s0, s1, s2, _⟩ := fac3 HVR.out.s
                  have hsl := blk_lt HVR.out.s
                  have hge' : (0 : Int) ≤ i := by omega
                  have hl1 : (i : Int) < qs.length := by have := HN1.out; omega
                  have hl2 : (k : Int) < qs.length := by have := HN1.out; omega
                  have hl3 : (i : Int) < ts.length := by have := HN1.out; omega
                  have hl4 : (k : Int) < ts.length := by have := HN1.out; omega
                  have hge2 : (0 : Int) ≤ (k : Int) := by omega
                  have hw1 : IntKind.i64.wrap ((i : Int) + 1) = (k : Int) := by rw [show (i : Int) + 1 = (k : Int) by omega]; exact IntWalk.i64_in _ (by omega)
                  have hw0 : IntKind.i64.wrap ((i : Int) - 1) = (i : Int) - 1 := IntWalk.i64_in _ (by omega)
                  have HA := Lib.hid hqa
                  have HB := Lib.hid hqb
                  have HSX := Lib.hid (HS.out.below HVR.out.bel)
                  have hta := HTI.out i (by omega)
                  have htb := HTI.out k (by omega)
                  have hwd : IntKind.i64.wrap (ts.getD k 0 - ts.getD i 0) = ts.getD k 0 - ts.getD i 0 := IntWalk.i64_in _ (by omega)
                  have sC : szR ((ts.getD k 0 - ts.getD i 0 : Int) : Rat) 1 := szR_int (k := 1) (by unfold b64; omega) (by omega)
                  have ZC : Hid (szQ ((ts.getD k 0 - ts.getD i 0 : Int) : Rat) 34359738368) := szQ_mono (szQ_of sC) (by omega)
                  have ZS : Hid (szQ s 34359738368) := szQ_mono (szQ_of HSZ.out) (by omega)
                  have ZA : Hid (szQ (qs.getD i 0) 17179869184) := szQ_mono (szQ_of (HQ.out i)) (by omega)
                  have ZB : Hid (szQ (qs.getD k 0) 17179869184) := szQ_mono (szQ_of (HQ.out k)) (by omega)
                  have ZD : Hid (szQ (qs.getD i 0 - qs.getD k 0) 17179869184) := szQ_mono (szQ_of (szR_sub (HQ.out i) (HQ.out k))) (by omega)
                  have ZE : Hid (szQ (s * ((ts.getD k 0 - ts.getD i 0 : Int) : Rat)) 17179869184) := szQ_mono (szQ_of (szR_mul HSZ.out sC)) (by omega)
                  have Hf : Hid (fallAt ts qs s i = decide (0 < cmpR (qs.getD i 0 - qs.getD k 0) (s * ((ts.getD k 0 - ts.getD i 0 : Int) : Rat)))) := by rw [hk]; rfl
                  have Hl : Hid (fallAt ts qs s i = true → lastUp (fallAt ts qs s) n1 = i) := fun h => by
                    rw [lastUp_skip (i := i + 1) (by omega) HNF.out]
                    show (if fallAt ts qs s i then (i : Int) else lastUp (fallAt ts qs s) i) = _
                    rw [if_pos h]
                  have Hnx : Hid (fallAt ts qs s i = false → ∀ j, i ≤ j → j < n1 → fallAt ts qs s j = false) := fun h j h1 h2 => by
                    rcases Nat.eq_or_lt_of_le h1 with rfl | h3
                    · exact h
                    · exact HNF.out j h3 h2
                  have HK := Lib.hid hk
                  have HIN : Hid (i < n1) := by show i < n1; omega
                  obtain ⟨C, hC⟩ : ∃ C, C = cmpR (qs.getD i 0 - qs.getD k 0) (s * ((ts.getD k 0 - ts.getD i 0 : Int) : Rat)) := ⟨_, rfl⟩
                  have HC := Lib.hid hC
                  have tcc : decide (C ≤ 0) = !fallAt ts qs s i := by rw [Hf.out, hC, Bool.eq_iff_iff]; simp
                  have HTG : Hid (ts.getD i 0 = ts.getD i 0 ∧ ts.getD (i + 1) 0 = ts.getD k 0) := ⟨rfl, by rw [hk]⟩
                  clear hE hc hF hd hC hqa hqb hk hk0 hz sC
                  generalize lastUp (fallAt ts qs s) n1 = la at *
                  generalize hfb : fallAt ts qs s i = fb at *
                  have HFB := Lib.hid hfb
                  clear hfb
                  obtain ⟨ta, hta0⟩ : ∃ ta, ta = ts.getD i 0 := ⟨_, rfl⟩
                  obtain ⟨tb, htb0⟩ : ∃ tb, tb = ts.getD k 0 := ⟨_, rfl⟩
                  have HTA := Lib.hid hta0
                  have HTB := Lib.hid htb0
                  rw [← hta0] at y0 hta hwd ZC ZE Hf HC
                  rw [← htb0] at y1 htb hwd ZC ZE Hf HC
                  clear hta0 htb0
                  generalize qs.getD i 0 = qa at *
                  generalize qs.getD k 0 = qb at *
                  go_upto_region 15 with fail
                  refine wp_region_held_drew (S := (fun w' => Below wr.heap.size wr w' ∧ w'.cell? ⟨bl, offl + i * 3, none⟩ = some (a0) ∧ w'.cell? ⟨bl, offl + i * 3 + 1, none⟩ = some (a1) ∧ w'.cell? ⟨bl, offl + i * 3 + 2, none⟩ = some (a2) ∧ w'.cell? ⟨bl, offl + k * 3, none⟩ = some (b0) ∧ w'.cell? ⟨bl, offl + k * 3 + 1, none⟩ = some (b1) ∧ w'.cell? ⟨bl, offl + k * 3 + 2, none⟩ = some (b2) ∧ w'.cell? ⟨w.heap.size, 0, none⟩ = some (.bool x.b) ∧ w'.cell? ⟨w.heap.size, 1, none⟩ = some (.slice x.a x.n x.c) ∧ w'.cell? ⟨w.heap.size, 2, none⟩ = some (.slice x.d x.m x.e) ∧ w'.cell? ⟨b, off + i, none⟩ = some (.int .i64 ta) ∧ w'.cell? ⟨b, off + k, none⟩ = some (.int .i64 tb))) (by kernel_rfl) ⟨(Below.refl _ _).drew, p0, p1, p2, q0, q1, q2, s0, s1, s2, y0, y1⟩ (fun hh => ?_)
                  have HAD := Lib.hid (Below.refl wr.heap.size wr).drew
                  clear p0 p1 p2 q0 q1 q2 s0 s1 s2 y0 y1
                  refine wpAnyH_take (i := 0) (v := ?vp0) rfl (by kernel_rfl) (by kernel_rfl) (by kernel_rfl) (fun _ _ _ h => h) (Or.inl ⟨by rfl, ?hyp0⟩) (by assumption) ?rep0
                  case hyp0 => first | (intro w hSw; (try dsimp only at hSw); go_simp; done) | (intro w hSw; (try dsimp only at hSw); go_simp; with_reducible rfl)
                  try simp only [List.getElem_toArray, List.getElem_cons_zero, List.getElem_cons_succ, Act.put, List.setIfInBounds_toArray, List.set_cons_zero, List.set_cons_succ]
                  refine wpAnyH_take (i := 1) (v := ?vp1) rfl (by kernel_rfl) (by kernel_rfl) (by kernel_rfl) (fun _ _ _ h => h) (Or.inl ⟨by rfl, ?hyp1⟩) (by assumption) ?rep1
                  case hyp1 => first | (intro w hSw; (try dsimp only at hSw); go_simp; done) | (intro w hSw; (try dsimp only at hSw); go_simp; with_reducible rfl)
                  try simp only [List.getElem_toArray, List.getElem_cons_zero, List.getElem_cons_succ, Act.put, List.setIfInBounds_toArray, List.set_cons_zero, List.set_cons_succ]
                  refine wpAnyH_take (i := 2) (v := ?vp2) rfl (by kernel_rfl) (by kernel_rfl) (by kernel_rfl) (fun _ _ _ h => h) (Or.inl ⟨by rfl, ?hyp2⟩) (by assumption) ?rep2
                  case hyp2 => first | (intro w hSw; (try dsimp only at hSw); go_simp; done) | (intro w hSw; (try dsimp only at hSw); go_simp; with_reducible rfl)
                  try simp only [List.getElem_toArray, List.getElem_cons_zero, List.getElem_cons_succ, Act.put, List.setIfInBounds_toArray, List.set_cons_zero, List.set_cons_succ]
                  refine wpAnyH_take (i := 3) (v := ?vp3) rfl (by kernel_rfl) (by kernel_rfl) (by kernel_rfl) (fun _ _ _ h => h) (Or.inl ⟨by rfl, ?hyp3⟩) (by assumption) ?rep3
                  case hyp3 => first | (intro w hSw; (try dsimp only at hSw); go_simp; done) | (intro w hSw; (try dsimp only at hSw); go_simp; with_reducible rfl)
                  try simp only [List.getElem_toArray, List.getElem_cons_zero, List.getElem_cons_succ, Act.put, List.setIfInBounds_toArray, List.set_cons_zero, List.set_cons_succ]
                  refine wpAnyH_take (i := 4) (v := ?vp4) rfl (by kernel_rfl) (by kernel_rfl) (by kernel_rfl) (fun _ _ _ h => h) (Or.inl ⟨by rfl, ?hyp4⟩) (by assumption) ?rep4
                  case hyp4 => first | (intro w hSw; (try dsimp only at hSw); go_simp; done) | (intro w hSw; (try dsimp only at hSw); go_simp; with_reducible rfl)
                  try simp only [List.getElem_toArray, List.getElem_cons_zero, List.getElem_cons_succ, Act.put, List.setIfInBounds_toArray, List.set_cons_zero, List.set_cons_succ]
                  refine wpAnyH_take (i := 5) (v := ?vp5) rfl (by kernel_rfl) (by kernel_rfl) (by kernel_rfl) (fun _ _ _ h => h) (Or.inl ⟨by rfl, ?hyp5⟩) (by assumption) ?rep5
                  case hyp5 => first | (intro w hSw; (try dsimp only at hSw); go_simp; done) | (intro w hSw; (try dsimp only at hSw); go_simp; with_reducible rfl)
                  try simp only [List.getElem_toArray, List.getElem_cons_zero, List.getElem_cons_succ, Act.put, List.setIfInBounds_toArray, List.set_cons_zero, List.set_cons_succ]
                  refine wpAnyH_take (i := 6) (v := ?vp6) rfl (by kernel_rfl) (by kernel_rfl) (by kernel_rfl) (fun _ _ _ h => h) (Or.inl ⟨by rfl, ?hyp6⟩) (by assumption) ?rep6
                  case hyp6 => first | (intro w hSw; (try dsimp only at hSw); go_simp; done) | (intro w hSw; (try dsimp only at hSw); go_simp; with_reducible rfl)
                  try simp only [List.getElem_toArray, List.getElem_cons_zero, List.getElem_cons_succ, Act.put, List.setIfInBounds_toArray, List.set_cons_zero, List.set_cons_succ]
                  refine wpAnyH_take (i := 7) (v := ?vp7) rfl (by kernel_rfl) (by kernel_rfl) (by kernel_rfl) (fun _ _ _ h => h) (Or.inl ⟨by rfl, ?hyp7⟩) (by assumption) ?rep7
                  case hyp7 => first | (intro w hSw; (try dsimp only at hSw); go_simp; done) | (intro w hSw; (try dsimp only at hSw); go_simp; with_reducible rfl)
                  try simp only [List.getElem_toArray, List.getElem_cons_zero, List.getElem_cons_succ, Act.put, List.setIfInBounds_toArray, List.set_cons_zero, List.set_cons_succ]
                  refine wpAnyH_take (i := 8) (v := ?vp8) rfl (by kernel_rfl) (by kernel_rfl) (by kernel_rfl) (fun _ _ _ h => h) (Or.inl ⟨by rfl, ?hyp8⟩) (by assumption) ?rep8
                  case hyp8 => first | (intro w hSw; (try dsimp only at hSw); go_simp; done) | (intro w hSw; (try dsimp only at hSw); go_simp; with_reducible rfl)
                  try simp only [List.getElem_toArray, List.getElem_cons_zero, List.getElem_cons_succ, Act.put, List.setIfInBounds_toArray, List.set_cons_zero, List.set_cons_succ]
                  refine wpAnyH_take (i := 10) (v := ?vp10) rfl (by kernel_rfl) (by kernel_rfl) (by kernel_rfl) (fun _ _ _ h => h) (Or.inl ⟨by rfl, ?hyp10⟩) (by assumption) ?rep10
                  case hyp10 => first | (intro w hSw; (try dsimp only at hSw); go_simp; done) | (intro w hSw; (try dsimp only at hSw); go_simp; with_reducible rfl)
                  try simp only [List.getElem_toArray, List.getElem_cons_zero, List.getElem_cons_succ, Act.put, List.setIfInBounds_toArray, List.set_cons_zero, List.set_cons_succ]
                  refine wpAnyH_take (i := 11) (v := ?vp11) rfl (by kernel_rfl) (by kernel_rfl) (by kernel_rfl) (fun _ _ _ h => h) (Or.inl ⟨by rfl, ?hyp11⟩) (by assumption) ?rep11
                  case hyp11 => first | (intro w hSw; (try dsimp only at hSw); go_simp; done) | (intro w hSw; (try dsimp only at hSw); go_simp; with_reducible rfl)
                  try simp only [List.getElem_toArray, List.getElem_cons_zero, List.getElem_cons_succ, Act.put, List.setIfInBounds_toArray, List.set_cons_zero, List.set_cons_succ]
                  refine wpAnyH_take (i := 12) (v := ?vp12) rfl (by kernel_rfl) (by kernel_rfl) (by kernel_rfl) (fun _ _ _ h => h) (Or.inl ⟨by rfl, ?hyp12⟩) (by assumption) ?rep12
                  case hyp12 => first | (intro w hSw; (try dsimp only at hSw); go_simp; done) | (intro w hSw; (try dsimp only at hSw); go_simp; with_reducible rfl)
                  try simp only [List.getElem_toArray, List.getElem_cons_zero, List.getElem_cons_succ, Act.put, List.setIfInBounds_toArray, List.set_cons_zero, List.set_cons_succ]
                  refine wpAnyH_take (i := 13) (v := ?vp13) rfl (by kernel_rfl) (by kernel_rfl) (by kernel_rfl) (fun _ _ _ h => h) (Or.inl ⟨by rfl, ?hyp13⟩) (by assumption) ?rep13
                  case hyp13 => first | (intro w hSw; (try dsimp only at hSw); go_simp; done) | (intro w hSw; (try dsimp only at hSw); go_simp; with_reducible rfl)
                  try simp only [List.getElem_toArray, List.getElem_cons_zero, List.getElem_cons_succ, Act.put, List.setIfInBounds_toArray, List.set_cons_zero, List.set_cons_succ]
                  refine wpAnyH_take (i := 14) (v := ?vp14) rfl (by kernel_rfl) (by kernel_rfl) (by kernel_rfl) (fun _ _ _ h => h) (Or.inl ⟨by rfl, ?hyp14⟩) (by assumption) ?rep14
                  case hyp14 => first | (intro w hSw; (try dsimp only at hSw); go_simp; done) | (intro w hSw; (try dsimp only at hSw); go_simp; with_reducible rfl)
                  try simp only [List.getElem_toArray, List.getElem_cons_zero, List.getElem_cons_succ, Act.put, List.setIfInBounds_toArray, List.set_cons_zero, List.set_cons_succ]
                  refine wpAnyH_take (i := 15) (v := ?vp15) rfl (by kernel_rfl) (by kernel_rfl) (by kernel_rfl) (fun _ _ _ h => h) (Or.inl ⟨by rfl, ?hyp15⟩) (by assumption) ?rep15
                  case hyp15 => first | (intro w hSw; (try dsimp only at hSw); go_simp; done) | (intro w hSw; (try dsimp only at hSw); go_simp; with_reducible rfl)
                  try simp only [List.getElem_toArray, List.getElem_cons_zero, List.getElem_cons_succ, Act.put, List.setIfInBounds_toArray, List.set_cons_zero, List.set_cons_succ]
                  refine wpAnyH_take (i := 16) (v := ?vp16) rfl (by kernel_rfl) (by kernel_rfl) (by kernel_rfl) (fun _ _ _ h => h) (Or.inl ⟨by rfl, ?hyp16⟩) (by assumption) ?rep16
                  case hyp16 => first | (intro w hSw; (try dsimp only at hSw); go_simp; done) | (intro w hSw; (try dsimp only at hSw); go_simp; with_reducible rfl)
                  try simp only [List.getElem_toArray, List.getElem_cons_zero, List.getElem_cons_succ, Act.put, List.setIfInBounds_toArray, List.set_cons_zero, List.set_cons_succ]
                  refine wpAnyH_take (i := 17) (v := ?vp17) rfl (by kernel_rfl) (by kernel_rfl) (by kernel_rfl) (fun _ _ _ h => h) (Or.inl ⟨by rfl, ?hyp17⟩) (by assumption) ?rep17
                  case hyp17 => first | (intro w hSw; (try dsimp only at hSw); go_simp; done) | (intro w hSw; (try dsimp only at hSw); go_simp; with_reducible rfl)
                  try simp only [List.getElem_toArray, List.getElem_cons_zero, List.getElem_cons_succ, Act.put, List.setIfInBounds_toArray, List.set_cons_zero, List.set_cons_succ]
                  refine wpAnyH_take (i := 18) (v := ?vp18) rfl (by kernel_rfl) (by kernel_rfl) (by kernel_rfl) (fun _ _ _ h => h) (Or.inl ⟨by rfl, ?hyp18⟩) (by assumption) ?rep18
                  case hyp18 => first | (intro w hSw; (try dsimp only at hSw); go_simp; done) | (intro w hSw; (try dsimp only at hSw); go_simp; with_reducible rfl)
                  try simp only [List.getElem_toArray, List.getElem_cons_zero, List.getElem_cons_succ, Act.put, List.setIfInBounds_toArray, List.set_cons_zero, List.set_cons_succ]
                  refine wpAnyH_take (i := 19) (v := ?vp19) rfl (by kernel_rfl) (by kernel_rfl) (by kernel_rfl) (fun _ _ _ h => h) (Or.inl ⟨by rfl, ?hyp19⟩) (by assumption) ?rep19
                  case hyp19 => first | (intro w hSw; (try dsimp only at hSw); go_simp; done) | (intro w hSw; (try dsimp only at hSw); go_simp; with_reducible rfl)
                  try simp only [List.getElem_toArray, List.getElem_cons_zero, List.getElem_cons_succ, Act.put, List.setIfInBounds_toArray, List.set_cons_zero, List.set_cons_succ]
                  refine wpAnyH_take (i := 20) (v := ?vp20) rfl (by kernel_rfl) (by kernel_rfl) (by kernel_rfl) (fun _ _ _ h => h) (Or.inl ⟨by rfl, ?hyp20⟩) (by assumption) ?rep20
                  case hyp20 => first | (intro w hSw; (try dsimp only at hSw); go_simp; done) | (intro w hSw; (try dsimp only at hSw); go_simp; with_reducible rfl)
                  try simp only [List.getElem_toArray, List.getElem_cons_zero, List.getElem_cons_succ, Act.put, List.setIfInBounds_toArray, List.set_cons_zero, List.set_cons_succ]
                  refine wpAnyH_ready (rs := [9]) (by kernel_rfl) (by simp) ?_
                  refine AllReadyH.cons rfl (fun K hK => ?_) AllReadyH.nil
                  go_simp
                  go_wp2_with (go_at_call 39; (with_reducible refine (qsub_any qa qb _ _ _ (HA.out.below HAD.out) (HB.out.below HAD.out) ZA.out ZB.out).mono ?_); rintro e wA ⟨vA, rfl, hvA, hbA⟩)
                  refine hK.out _ _ (kc11 hbA hh) (fun hh => ?_)
                  clear hK K
                  try simp only [List.getElem_toArray, List.getElem_cons_zero, List.getElem_cons_succ, Act.put, List.setIfInBounds_toArray, List.set_cons_zero, List.set_cons_succ]
                  have BA := Lib.hid (bt HAD.out hbA)
                  refine wpAnyH_ready (rs := [21]) (by kernel_rfl) (by simp) ?_
                  refine AllReadyH.cons rfl (fun K hK => ?_) AllReadyH.nil
                  go_simp
                  go_wp2_with (go_at_call 41; (with_reducible refine (whole_any (tb - ta) _ (by omega) (by omega)).mono ?_); rintro e wB ⟨vB, rfl, hvB, hbB⟩)
                  refine hK.out _ _ (kc11 hbB hh) (fun hh => ?_)
                  clear hK K
                  try simp only [List.getElem_toArray, List.getElem_cons_zero, List.getElem_cons_succ, Act.put, List.setIfInBounds_toArray, List.set_cons_zero, List.set_cons_succ]
                  have BB := Lib.hid (bt BA.out hbB)
                  refine wpAnyH_ready (rs := [22]) (by kernel_rfl) (by simp) ?_
                  refine AllReadyH.cons rfl (fun K hK => ?_) AllReadyH.nil
                  go_simp
                  go_wp2_with (go_at_call 40; (with_reducible refine (qmul_any s ((tb - ta : Int) : Rat) _ _ _ (HSX.out.below BB.out) hvB ZS.out ZC.out).mono ?_); rintro e wC ⟨vC, rfl, hvC, hbC⟩)
                  refine hK.out _ _ (kc11 hbC hh) (fun hh => ?_)
                  clear hK K
                  try simp only [List.getElem_toArray, List.getElem_cons_zero, List.getElem_cons_succ, Act.put, List.setIfInBounds_toArray, List.set_cons_zero, List.set_cons_succ]
                  have BC := Lib.hid (bt BB.out hbC)
                  refine wpAnyH_ready (rs := [23]) (by kernel_rfl) (by simp) ?_
                  refine AllReadyH.cons rfl (fun K hK => ?_) AllReadyH.nil
                  go_simp
                  go_wp2_with (go_at_call 38; (with_reducible refine (qcmp_any (qa - qb) (s * ((tb - ta : Int) : Rat)) _ _ _ ((hvA.below hbB).below hbC) hvC ZD.out ZE.out).mono ?_); rintro e wD ⟨rfl, hbD⟩; rw [← HC.out])
                  refine hK.out _ _ (kc11 hbD hh) (fun hh => ?_)
                  clear hK K
                  try simp only [List.getElem_toArray, List.getElem_cons_zero, List.getElem_cons_succ, Act.put, List.setIfInBounds_toArray, List.set_cons_zero, List.set_cons_succ]
                  have BD := Lib.hid (bt BC.out hbD)
                  refine wpAnyH_take (i := 24) (v := ?vp24) rfl (by kernel_rfl) (by kernel_rfl) (by kernel_rfl) (fun _ _ _ h => h) (Or.inl ⟨by rfl, ?hyp24⟩) (by assumption) ?rep24
                  case hyp24 => first | (intro w hSw; (try dsimp only at hSw); go_simp; done) | (intro w hSw; (try dsimp only at hSw); go_simp; with_reducible rfl)
                  try simp only [List.getElem_toArray, List.getElem_cons_zero, List.getElem_cons_succ, Act.put, List.setIfInBounds_toArray, List.set_cons_zero, List.set_cons_succ]
                  refine wpAnyH_done (by kernel_rfl) ?_ _
                  have HVN : Hid (VQ w x wD) := HVR.out.below BD.out
                  cases fb with
                  | false =>
                    have tcc2 : decide (C ≤ 0) = true := tcc
                    clear tcc
                    go_wp2_with fail
                    exact ⟨⟨i, _, by have := HIN.out; omega, rfl, rfl, Hnx.out rfl, HVN⟩, by show (((i : Int) - 1 + 1).toNat) < (((i : Int) + 1).toNat); omega⟩
                  | true =>
                    have tcc2 : decide (C ≤ 0) = false := tcc
                    have HLA : Hid (la = (i : Int)) := Hl.out rfl
                    obtain ⟨r0, r1, r2, r3⟩ := facS HVN.out.r
                    obtain ⟨e0, e1⟩ := setS HVN.out.r
                    clear tcc
                    by_cases c9 : (i : Int) = (n1 : Int) - 1
                    · have t9 : ((i : Int) == (n1 : Int) - 1) = true := by simp [c9]
                      have HR : Hid (res = (0, 0, 5)) := by show _ = _; rw [HV4.out, if_pos (.inr (by rw [HLA.out]; omega))]
                      clear c9
                      go_wp2_with fail
                      refine bodyPost_ret (v := .tuple #[.agg #[.int .i64 0, .int .i64 0], .int .i64 5]) (by simp [results, Tryz.results12, go_sem, e0, e1]) rfl ⟨by rw [HR.out], (below2s HVN.out.bel (by omega))⟩
                    · have t9 : ((i : Int) == (n1 : Int) - 1) = false := by simp [c9]
                      have HR : Hid (res = (ta, tb, 0)) := by show _ = _; rw [HV4.out, HLA.out, if_neg (by omega), HTA.out, HTB.out, HK.out]; rfl
                      have y0 : wD.cell? ⟨b, off + i, none⟩ = some (.int .i64 ta) := hh.2.2.2.2.2.2.2.2.2.2.1
                      have y1 : wD.cell? ⟨b, off + k, none⟩ = some (.int .i64 tb) := hh.2.2.2.2.2.2.2.2.2.2.2
                      clear c9
                      go_wp2_with fail
                      go_region
                      go_wp2_with fail
                      refine bodyPost_ret (v := .tuple #[.agg #[.int .i64 ta, .int .i64 tb], .int .i64 0]) (by simp [results, Tryz.results12, go_sem, e0, e1]) rfl ⟨by rw [HR.out], (below2s HVN.out.bel (by omega)).drew⟩
                · obtain rfl : k = 0 := by omega
                  obtain rfl : z = -1 := by omega
                  have HR : Hid (res = (0, 0, 5)) := by
                    show _ = _
                    rw [HV4.out, lastUp_skip (i := 0) (by omega) HNF.out]
                    rfl
                  obtain ⟨r0, r1, r2, r3⟩ := facS HVR.out.r
                  obtain ⟨e0, e1⟩ := setS HVR.out.r
                  clear hz hk0 hk
                  go_wp2_with fail
                  refine bodyPost_ret (v := .tuple #[.agg #[.int .i64 0, .int .i64 0], .int .i64 5]) (by simp [results, Tryz.results12, go_sem, e0, e1]) rfl ⟨by rw [HR.out], (below2s HVR.out.bel (by omega))⟩
      · have t3 : ((qs.length : Int) != (ts.length : Int)) = true := by simp; omega
        have HR : Hid (res = (0, 0, 4)) := by show _ = _; rw [HV.out]; unfold vitOf; rw [if_pos (.inr (.inr c3))]
        clear c1 c2 c3 HV
        go_enter Tryz.func12, Tryz.ntmps12
        go_wp2_with fail
        refine bodyPost_ret (v := .tuple #[.agg #[.int .i64 0, .int .i64 0], .int .i64 4]) (by simp [results, Tryz.results12, go_sem]) rfl ⟨by rw [HR.out], below2 _ _ _⟩
end Go.Proofs.YtmfochplnchgcaaGreat

/- THE WALKS of Ratio.Up, Range.Round, Range.Text and cure's step; printed by wip/tools/gen_cp.py. -/
namespace Go.Proofs.YtmfochplnchgcaaGreat
open Go.RowKit

theorem IsRat.neg3 {w : World} {x : R3} {q : Rat} (h : IsRat w x.val q) : x.b = decide (q.num < 0) := by
  obtain ⟨vn, vd, hxe, _, _⟩ := h
  injection hxe with hxe
  simp only [Array.mk.injEq, List.cons.injEq] at hxe
  have := hxe.1
  injection this
theorem down_any (q : Rat) (k : Nat) (hk : k ≤ 256) (v : Value) (w : World) (h : IsRat w v q) (hs : szR q 68719476736) : Calls Tryz.prog 124 #[v, .int .i64 k] w (RetRat (downQ q k) w) := by
  obtain ⟨x, rfl⟩ := h.open3
  have hb := h.neg3
  obtain ⟨b, xa, xn, xc, xd, xm, xe⟩ := x
  cases b with
  | false =>
    have hn : decide (q.num < 0) = false := hb.symm
    refine down_f q k hk xa xn xc xd xm xe w h hs _ ?_
    unfold downQ downN
    rw [hn, if_neg (fun h => by rw [decide_eq_false_iff_not] at hn; exact hn h.1)]
  | true =>
    have hn : decide (q.num < 0) = true := hb.symm
    by_cases hr : q.num.natAbs * 2 ^ k % q.den = 0
    · refine down_z q k hk xa xn xc xd xm xe w h hs hr _ ?_
      unfold downQ downN
      rw [hn, if_neg (fun h => h.2 hr)]
    · have hl : 0 < (dig b64 (q.num.natAbs * 2 ^ k % q.den)).length := by
        rcases Nat.eq_zero_or_pos (dig b64 (q.num.natAbs * 2 ^ k % q.den)).length with h0 | h0
        · exfalso
          have e := List.eq_nil_of_length_eq_zero h0
          have := lv_dig b64_two (q.num.natAbs * 2 ^ k % q.den)
          rw [e] at this
          exact hr this.symm
        · exact h0
      refine down_1 q k hk xa xn xc xd xm xe w h hs hl _ ?_
      unfold downQ downN
      rw [hn, if_pos ⟨of_decide_eq_true hn, hr⟩]
set_option maxRecDepth 100000 in
set_option maxHeartbeats 2000000 in
theorem up_any (q : Rat) (k : Nat) (hk : k ≤ 256) (v : Value) (w : World) (h : IsRat w v q) (hs : szR (-q) 68719476736) : Calls Tryz.prog 125 #[v, .int .i64 k] w (RetRat (upQ q k) w) := by
  obtain ⟨x, rfl⟩ := h.open3
  have HX := Lib.hid h
  have HS := Lib.hid hs
  have HK := Lib.hid hk
  clear h hs hk
  go_enter Tryz.func125, Tryz.ntmps125
  go_wp2_with fail
  generalize hW0 : (w.alloc (.cells x.arr 40)).alloc (.cells _ _) = W at *
  obtain ⟨hal, hB1, hB2⟩ := boxesD w _ _ _ W hW0.symm
  have HB2 := Lib.hid hB2
  have HAL := Lib.hid hal
  clear hW0 hal hB1 hB2
  refine (negRat_any q _ _ (HX.out.below HAL.out)).mono ?_
  rintro e wA ⟨vA, rfl, hvA, hbA⟩
  have EA := Lib.hid (blk_keep HB2.out hbA (blk_lt HB2.out))
  have BA := Lib.hid (bt HAL.out hbA)
  go_wp2_with fail
  refine (down_any (-q) k HK.out _ _ hvA HS.out).mono ?_
  rintro e wB ⟨vB, rfl, hvB, hbB⟩
  have EB := Lib.hid (blk_keep EA.out hbB (blk_lt EA.out))
  have BB := Lib.hid (bt BA.out hbB)
  go_wp2_with fail
  refine (negRat_any (downQ (-q) k) _ _ hvB).mono ?_
  rintro e wC ⟨vC, rfl, hvC, hbC⟩
  have E : Hid (wC.heap[w.heap.size + 1]? = some (.cells r30.arr 40 (0, 0))) := blk_keep EB.out hbC (blk_lt EB.out)
  have BC := Lib.hid (bt BB.out hbC)
  obtain ⟨z, rfl⟩ := hvC.open3
  have HV : Hid (IsRat wC z.val (upQ q k)) := hvC
  clear hvA hvB hvC hbA hbB hbC
  obtain ⟨g0, g1, g2, f0, f1, f2⟩ := fac3 (x := r30) E.out
  go_wp2_with fail
  obtain ⟨h0, h1, h2, _, _, _⟩ := fac3 (x := z) (set3r (x := z) E.out)
  refine bodyPost_ret (v := z.val) (by simp [results, Tryz.results125, go_sem, h0, h1, h2]) rfl ⟨_, rfl, IsRat.set3r HV.out E.out, below3r BC.out (by omega)⟩
theorem boxesR (w : World) (x y : R3) (cs : Array Value) (T : Nat) (W : World) (hW : W = (w.alloc (.cells (arr6 x y) 55)).alloc (.cells cs T)) :
    Below w.heap.size w W ∧ W.heap[w.heap.size]? = some (.cells (arr6 x y) 55 (0, 0)) ∧ W.heap[w.heap.size + 1]? = some (.cells cs T (0, 0)) := by
  subst hW
  have e1 : (w.alloc (.cells (arr6 x y) 55)).heap.size = w.heap.size + 1 := World.size_alloc ..
  have a1 := blk_new w (arr6 x y) 55
  have a2 := blk_new (w.alloc (.cells (arr6 x y) 55)) cs T
  rw [e1] at a2
  exact ⟨below2 _ _ _, (heap_alloc_old _ _ (blk_lt a1)).trans a1, a2⟩
set_option maxRecDepth 100000 in
set_option maxHeartbeats 2000000 in
theorem rround_any (lo hi : Rat) (k : Nat) (hk : k ≤ 256) (v : Value) (w : World) (h : IsRng w v lo hi) (s1 : szR lo 68719476736) (s2 : szR (-hi) 68719476736) : Calls Tryz.prog 94 #[v, .int .i64 k] w (RetRng (downQ lo k) (upQ hi k) w) := by
  obtain ⟨x, y, rfl, h1, h2⟩ := h
  have HX := Lib.hid h1
  have HY := Lib.hid h2
  have S1 := Lib.hid s1
  have S2 := Lib.hid s2
  have HK := Lib.hid hk
  clear h1 h2 s1 s2 hk
  go_enter Tryz.func94, Tryz.ntmps94
  go_wp2_with fail
  generalize hW0 : (w.alloc (.cells (arr6 x y) 55)).alloc (.cells _ _) = W at *
  obtain ⟨hal, hB1, hB2⟩ := boxesR w _ _ _ _ W hW0.symm
  obtain ⟨x0, x1, x2, y0, y1, y2, _, _, _, _, _, _⟩ := fac6 (x := x) (y := y) hB1
  have HB2 := Lib.hid hB2
  have HAD := Lib.hid hal.drew
  have N3 : Hid (w.heap.size + 1 ≤ W.heap.size) := by
    show _ ≤ _
    have := blk_lt hB2
    omega
  have N0 : Hid (w.heap.size < w.heap.size + 1) := by show _ < _; omega
  clear hW0 hal hB1 hB2
  refine wp_region_held_drew (S := (fun w' => Below (w.heap.size + 1) W w' ∧ w'.cell? ⟨w.heap.size, 0, none⟩ = some (.bool x.b) ∧ w'.cell? ⟨w.heap.size, 1, none⟩ = some (.slice x.a x.n x.c) ∧ w'.cell? ⟨w.heap.size, 2, none⟩ = some (.slice x.d x.m x.e) ∧ w'.cell? ⟨w.heap.size, 3, none⟩ = some (.bool y.b) ∧ w'.cell? ⟨w.heap.size, 4, none⟩ = some (.slice y.a y.n y.c) ∧ w'.cell? ⟨w.heap.size, 5, none⟩ = some (.slice y.d y.m y.e))) (by kernel_rfl) ⟨(Below.refl _ _).drew, x0, x1, x2, y0, y1, y2⟩ (fun hh => ?_)
  clear x0 x1 x2 y0 y1 y2
  refine wpAnyH_take (i := 0) (v := ?vp0) rfl (by kernel_rfl) (by kernel_rfl) (by kernel_rfl) (fun _ _ _ h => h) (Or.inl ⟨by rfl, ?hyp0⟩) (by assumption) ?rep0
  case hyp0 => first | (intro w hSw; (try dsimp only at hSw); go_simp; done) | (intro w hSw; (try dsimp only at hSw); go_simp; with_reducible rfl)
  try simp only [List.getElem_toArray, List.getElem_cons_zero, List.getElem_cons_succ, Act.put, List.setIfInBounds_toArray, List.set_cons_zero, List.set_cons_succ]
  refine wpAnyH_take (i := 1) (v := ?vp1) rfl (by kernel_rfl) (by kernel_rfl) (by kernel_rfl) (fun _ _ _ h => h) (Or.inl ⟨by rfl, ?hyp1⟩) (by assumption) ?rep1
  case hyp1 => first | (intro w hSw; (try dsimp only at hSw); go_simp; done) | (intro w hSw; (try dsimp only at hSw); go_simp; with_reducible rfl)
  try simp only [List.getElem_toArray, List.getElem_cons_zero, List.getElem_cons_succ, Act.put, List.setIfInBounds_toArray, List.set_cons_zero, List.set_cons_succ]
  refine wpAnyH_take (i := 2) (v := ?vp2) rfl (by kernel_rfl) (by kernel_rfl) (by kernel_rfl) (fun _ _ _ h => h) (Or.inl ⟨by rfl, ?hyp2⟩) (by assumption) ?rep2
  case hyp2 => first | (intro w hSw; (try dsimp only at hSw); go_simp; done) | (intro w hSw; (try dsimp only at hSw); go_simp; with_reducible rfl)
  try simp only [List.getElem_toArray, List.getElem_cons_zero, List.getElem_cons_succ, Act.put, List.setIfInBounds_toArray, List.set_cons_zero, List.set_cons_succ]
  refine wpAnyH_take (i := 4) (v := ?vp4) rfl (by kernel_rfl) (by kernel_rfl) (by kernel_rfl) (fun _ _ _ h => h) (Or.inl ⟨by rfl, ?hyp4⟩) (by assumption) ?rep4
  case hyp4 => first | (intro w hSw; (try dsimp only at hSw); go_simp; done) | (intro w hSw; (try dsimp only at hSw); go_simp; with_reducible rfl)
  try simp only [List.getElem_toArray, List.getElem_cons_zero, List.getElem_cons_succ, Act.put, List.setIfInBounds_toArray, List.set_cons_zero, List.set_cons_succ]
  refine wpAnyH_take (i := 5) (v := ?vp5) rfl (by kernel_rfl) (by kernel_rfl) (by kernel_rfl) (fun _ _ _ h => h) (Or.inl ⟨by rfl, ?hyp5⟩) (by assumption) ?rep5
  case hyp5 => first | (intro w hSw; (try dsimp only at hSw); go_simp; done) | (intro w hSw; (try dsimp only at hSw); go_simp; with_reducible rfl)
  try simp only [List.getElem_toArray, List.getElem_cons_zero, List.getElem_cons_succ, Act.put, List.setIfInBounds_toArray, List.set_cons_zero, List.set_cons_succ]
  refine wpAnyH_take (i := 6) (v := ?vp6) rfl (by kernel_rfl) (by kernel_rfl) (by kernel_rfl) (fun _ _ _ h => h) (Or.inl ⟨by rfl, ?hyp6⟩) (by assumption) ?rep6
  case hyp6 => first | (intro w hSw; (try dsimp only at hSw); go_simp; done) | (intro w hSw; (try dsimp only at hSw); go_simp; with_reducible rfl)
  try simp only [List.getElem_toArray, List.getElem_cons_zero, List.getElem_cons_succ, Act.put, List.setIfInBounds_toArray, List.set_cons_zero, List.set_cons_succ]
  refine wpAnyH_ready (rs := [3]) (by kernel_rfl) (by simp) ?_
  refine AllReadyH.cons rfl (fun K hK => ?_) AllReadyH.nil
  go_simp
  go_wp2_with (go_at_call 124; (with_reducible refine (down_any lo k HK.out _ _ (HX.out.below HAD.out) S1.out).mono ?_); rintro e wA ⟨vA, rfl, hvA, hbA⟩)
  refine hK.out _ _ (kd6 N3.out hbA hh) (fun hh => ?_)
  clear hK K
  try simp only [List.getElem_toArray, List.getElem_cons_zero, List.getElem_cons_succ, Act.put, List.setIfInBounds_toArray, List.set_cons_zero, List.set_cons_succ]
  have BA := Lib.hid (bt HAD.out hbA)
  refine wpAnyH_ready (rs := [7]) (by kernel_rfl) (by simp) ?_
  refine AllReadyH.cons rfl (fun K hK => ?_) AllReadyH.nil
  go_simp
  go_wp2_with (go_at_call 125; (with_reducible refine (up_any hi k HK.out _ _ (HY.out.below BA.out) S2.out).mono ?_); rintro e wB ⟨vB, rfl, hvB, hbB⟩; obtain ⟨za, rfl⟩ := hvA.open3; obtain ⟨zb, rfl⟩ := hvB.open3)
  refine hK.out _ _ (kd6 N3.out hbB hh) (fun hh => ?_)
  clear hK K
  try simp only [List.getElem_toArray, List.getElem_cons_zero, List.getElem_cons_succ, Act.put, List.setIfInBounds_toArray, List.set_cons_zero, List.set_cons_succ]
  have BB := Lib.hid (bt BA.out hbB)
  refine wpAnyH_take (i := 8) (v := ?vp8) rfl (by kernel_rfl) (by kernel_rfl) (by kernel_rfl) (fun _ _ _ h => h) (Or.inl ⟨by rfl, ?hyp8⟩) (by assumption) ?rep8
  case hyp8 => first | (intro w hSw; (try dsimp only at hSw); go_simp; done) | (intro w hSw; (try dsimp only at hSw); go_simp; with_reducible rfl)
  try simp only [List.getElem_toArray, List.getElem_cons_zero, List.getElem_cons_succ, Act.put, List.setIfInBounds_toArray, List.set_cons_zero, List.set_cons_succ]
  have e0 : W.drew.heap[w.heap.size + 1]? = _ := HB2.out
  have eA := blk_keep e0 hbA (blk_lt e0)
  have E : Hid (wB.heap[w.heap.size + 1]? = some (.cells (arr6 r30 r30) 55 (0, 0))) := blk_keep eA hbB (blk_lt eA)
  have HV1 := Lib.hid (hvA.below hbB)
  have HV2 := Lib.hid hvB
  obtain ⟨g0, g1, g2, g3, g4, g5, f0, f1, f2, f3, f4, f5⟩ := fac6 (x := r30) (y := r30) E.out
  clear e0 eA hvA hvB hbA hbB
  refine wpAnyH_ready (rs := [9]) (by kernel_rfl) (by simp) ?_
  refine AllReadyH.cons rfl (fun K hK => ?_) AllReadyH.nil
  go_simp
  refine hK.out _ _ (ks6 (Nat.le_refl _) N0.out N0.out N0.out N0.out N0.out N0.out (below6r (Below.refl _ _) (Nat.le_refl _)) hh) (fun hh => ?_)
  clear hK K
  try simp only [List.getElem_toArray, List.getElem_cons_zero, List.getElem_cons_succ, Act.put, List.setIfInBounds_toArray, List.set_cons_zero, List.set_cons_succ]
  refine wpAnyH_done (by kernel_rfl) ?_ _
  obtain ⟨h0, h1, h2, h3, h4, h5, _, _, _, _, _, _⟩ := fac6 (x := za) (y := zb) (set6r (x := za) (y := zb) E.out)
  go_wp2_with fail
  refine bodyPost_ret (v := rngV za zb) (by simp [results, Tryz.results94, go_sem, h0, h1, h2, h3, h4, h5]) rfl ⟨_, rfl, ⟨za, zb, rfl, IsRat.set6r HV1.out E.out, IsRat.set6r HV2.out E.out⟩, below6r BB.out (by omega)⟩
theorem boxesS (w : World) (x y x2 y2 : R3) (cs : Array Value) (T : Nat) (W : World) (hW : W = ((w.alloc (.cells (arr6 x y) 55)).alloc (.cells (arr6 x2 y2) 55)).alloc (.cells cs T)) :
    Below w.heap.size w W ∧ W.heap[w.heap.size]? = some (.cells (arr6 x y) 55 (0, 0)) ∧ W.heap[w.heap.size + 1]? = some (.cells (arr6 x2 y2) 55 (0, 0)) ∧ W.heap[w.heap.size + 1 + 1]? = some (.cells cs T (0, 0)) ∧ W.heap.size = w.heap.size + 3 := by
  subst hW
  have e1 : (w.alloc (.cells (arr6 x y) 55)).heap.size = w.heap.size + 1 := World.size_alloc ..
  have e2 : ((w.alloc (.cells (arr6 x y) 55)).alloc (.cells (arr6 x2 y2) 55)).heap.size = w.heap.size + 1 + 1 := by rw [World.size_alloc, e1]
  have a1 := blk_new w (arr6 x y) 55
  have a2 := blk_new (w.alloc (.cells (arr6 x y) 55)) (arr6 x2 y2) 55
  have a3 := blk_new ((w.alloc (.cells (arr6 x y) 55)).alloc (.cells (arr6 x2 y2) 55)) cs T
  rw [e1] at a2
  rw [e2] at a3
  have a1' := (heap_alloc_old _ (.cells (arr6 x2 y2) 55) (blk_lt a1)).trans a1
  exact ⟨ba (below2 _ _ _), (heap_alloc_old _ _ (blk_lt a1')).trans a1', (heap_alloc_old _ _ (blk_lt a2)).trans a2, a3, by rw [World.size_alloc, e2]⟩
set_option maxRecDepth 100000 in
set_option maxHeartbeats 2000000 in
theorem step_any (a0 a1 p0 p1 : Rat) (k : Nat) (hk : k ≤ 256) (vc vr : Value) (w : World) (hc : IsRng w vc a0 a1) (hr : IsRng w vr p0 p1) (q0 q1 : Rat) (hq0 : a0 + p0 * (1 - a0) = q0) (hq1 : a1 + p1 * (1 - a1) = q1)
    (s1 : szR a0 68719476736) (s2 : szR p0 68719476736) (s3 : szR (1 - a0) 68719476736) (s4 : szR (p0 * (1 - a0)) 68719476736) (s5 : szR a1 68719476736) (s6 : szR p1 68719476736) (s7 : szR (1 - a1) 68719476736) (s8 : szR (p1 * (1 - a1)) 68719476736) (s9 : szR q0 68719476736) (s10 : szR q1 68719476736) (s11 : szR (-q1) 68719476736) (hcm : cmpR q0 q1 ≤ 0) :
    Calls Tryz.prog 51 #[vc, vr, .int .i64 k] w (RetRng (downQ q0 k) (upQ q1 k) w) := by
  obtain ⟨x, y, rfl, h1, h2⟩ := hc
  obtain ⟨x', y', rfl, h3, h4⟩ := hr
  have HX := Lib.hid (show IsRng w (rngV x y) a0 a1 from ⟨x, y, rfl, h1, h2⟩)
  have HY := Lib.hid (show IsRng w (rngV x' y') p0 p1 from ⟨x', y', rfl, h3, h4⟩)
  clear h1 h2 h3 h4
  have S1 := Lib.hid s1
  have S2 := Lib.hid s2
  have S3 := Lib.hid s3
  have S4 := Lib.hid s4
  have S5 := Lib.hid s5
  have S6 := Lib.hid s6
  have S7 := Lib.hid s7
  have S8 := Lib.hid s8
  have S9 := Lib.hid s9
  have S10 := Lib.hid s10
  have S11 := Lib.hid s11
  have HK := Lib.hid hk
  have HCM := Lib.hid hcm
  have HQ0 := Lib.hid hq0
  have HQ1 := Lib.hid hq1
  clear s1 s2 s3 s4 s5 s6 s7 s8 s9 s10 s11 hk hcm hq0 hq1
  have S12 : Hid (szR q0 274877906944) := ⟨Nat.le_trans S9.out.1 (by omega), Nat.le_trans S9.out.2 (by omega)⟩
  have S13 : Hid (szR q1 274877906944) := ⟨Nat.le_trans S10.out.1 (by omega), Nat.le_trans S10.out.2 (by omega)⟩
  go_enter Tryz.func51, Tryz.ntmps51
  go_wp2_with fail
  generalize hW0 : ((w.alloc (.cells (arr6 x y) 55)).alloc (.cells (arr6 x' y') 55)).alloc (.cells _ _) = W at *
  obtain ⟨hal, hB1, hB2, hB3, hWs⟩ := boxesS w _ _ _ _ _ _ W hW0.symm
  obtain ⟨x0, x1, x2, x3, x4, x5, _, _, _, _, _, _⟩ := fac6 (x := x) (y := y) hB1
  obtain ⟨y0, y1, y2, y3, y4, y5, _, _, _, _, _, _⟩ := fac6 (x := x') (y := y') hB2
  have HB3 := Lib.hid hB3
  have HAD := Lib.hid hal.drew
  have N3 : Hid (w.heap.size + 1 + 1 ≤ W.heap.size) := by show _ ≤ _; omega
  have N0 : Hid (w.heap.size < w.heap.size + 1 + 1) := by show _ < _; omega
  have N1 : Hid (w.heap.size + 1 < w.heap.size + 1 + 1) := by show _ < _; omega
  clear hW0 hal hB1 hB2 hB3 hWs
  refine wp_region_held_drew (S := (fun w' => Below (w.heap.size + 1 + 1) W w' ∧ w'.cell? ⟨w.heap.size, 0, none⟩ = some (.bool x.b) ∧ w'.cell? ⟨w.heap.size, 1, none⟩ = some (.slice x.a x.n x.c) ∧ w'.cell? ⟨w.heap.size, 2, none⟩ = some (.slice x.d x.m x.e) ∧ w'.cell? ⟨w.heap.size, 3, none⟩ = some (.bool y.b) ∧ w'.cell? ⟨w.heap.size, 4, none⟩ = some (.slice y.a y.n y.c) ∧ w'.cell? ⟨w.heap.size, 5, none⟩ = some (.slice y.d y.m y.e) ∧ w'.cell? ⟨w.heap.size + 1, 0, none⟩ = some (.bool x'.b) ∧ w'.cell? ⟨w.heap.size + 1, 1, none⟩ = some (.slice x'.a x'.n x'.c) ∧ w'.cell? ⟨w.heap.size + 1, 2, none⟩ = some (.slice x'.d x'.m x'.e) ∧ w'.cell? ⟨w.heap.size + 1, 3, none⟩ = some (.bool y'.b) ∧ w'.cell? ⟨w.heap.size + 1, 4, none⟩ = some (.slice y'.a y'.n y'.c) ∧ w'.cell? ⟨w.heap.size + 1, 5, none⟩ = some (.slice y'.d y'.m y'.e))) (by kernel_rfl) ⟨(Below.refl _ _).drew, x0, x1, x2, x3, x4, x5, y0, y1, y2, y3, y4, y5⟩ (fun hh => ?_)
  clear x0 x1 x2 x3 x4 x5 y0 y1 y2 y3 y4 y5
  refine wpAnyH_take (i := 0) (v := ?vp0) rfl (by kernel_rfl) (by kernel_rfl) (by kernel_rfl) (fun _ _ _ h => h) (Or.inl ⟨by rfl, ?hyp0⟩) (by assumption) ?rep0
  case hyp0 => first | (intro w hSw; (try dsimp only at hSw); go_simp; done) | (intro w hSw; (try dsimp only at hSw); go_simp; with_reducible rfl)
  try simp only [List.getElem_toArray, List.getElem_cons_zero, List.getElem_cons_succ, Act.put, List.setIfInBounds_toArray, List.set_cons_zero, List.set_cons_succ]
  refine wpAnyH_take (i := 1) (v := ?vp1) rfl (by kernel_rfl) (by kernel_rfl) (by kernel_rfl) (fun _ _ _ h => h) (Or.inl ⟨by rfl, ?hyp1⟩) (by assumption) ?rep1
  case hyp1 => first | (intro w hSw; (try dsimp only at hSw); go_simp; done) | (intro w hSw; (try dsimp only at hSw); go_simp; with_reducible rfl)
  try simp only [List.getElem_toArray, List.getElem_cons_zero, List.getElem_cons_succ, Act.put, List.setIfInBounds_toArray, List.set_cons_zero, List.set_cons_succ]
  refine wpAnyH_take (i := 3) (v := ?vp3) rfl (by kernel_rfl) (by kernel_rfl) (by kernel_rfl) (fun _ _ _ h => h) (Or.inl ⟨by rfl, ?hyp3⟩) (by assumption) ?rep3
  case hyp3 => first | (intro w hSw; (try dsimp only at hSw); go_simp; done) | (intro w hSw; (try dsimp only at hSw); go_simp; with_reducible rfl)
  try simp only [List.getElem_toArray, List.getElem_cons_zero, List.getElem_cons_succ, Act.put, List.setIfInBounds_toArray, List.set_cons_zero, List.set_cons_succ]
  refine wpAnyH_take (i := 6) (v := ?vp6) rfl (by kernel_rfl) (by kernel_rfl) (by kernel_rfl) (fun _ _ _ h => h) (Or.inl ⟨by rfl, ?hyp6⟩) (by assumption) ?rep6
  case hyp6 => first | (intro w hSw; (try dsimp only at hSw); go_simp; done) | (intro w hSw; (try dsimp only at hSw); go_simp; with_reducible rfl)
  try simp only [List.getElem_toArray, List.getElem_cons_zero, List.getElem_cons_succ, Act.put, List.setIfInBounds_toArray, List.set_cons_zero, List.set_cons_succ]
  refine wpAnyH_take (i := 7) (v := ?vp7) rfl (by kernel_rfl) (by kernel_rfl) (by kernel_rfl) (fun _ _ _ h => h) (Or.inl ⟨by rfl, ?hyp7⟩) (by assumption) ?rep7
  case hyp7 => first | (intro w hSw; (try dsimp only at hSw); go_simp; done) | (intro w hSw; (try dsimp only at hSw); go_simp; with_reducible rfl)
  try simp only [List.getElem_toArray, List.getElem_cons_zero, List.getElem_cons_succ, Act.put, List.setIfInBounds_toArray, List.set_cons_zero, List.set_cons_succ]
  refine wpAnyH_take (i := 9) (v := ?vp9) rfl (by kernel_rfl) (by kernel_rfl) (by kernel_rfl) (fun _ _ _ h => h) (Or.inl ⟨by rfl, ?hyp9⟩) (by assumption) ?rep9
  case hyp9 => first | (intro w hSw; (try dsimp only at hSw); go_simp; done) | (intro w hSw; (try dsimp only at hSw); go_simp; with_reducible rfl)
  try simp only [List.getElem_toArray, List.getElem_cons_zero, List.getElem_cons_succ, Act.put, List.setIfInBounds_toArray, List.set_cons_zero, List.set_cons_succ]
  refine wpAnyH_take (i := 13) (v := ?vp13) rfl (by kernel_rfl) (by kernel_rfl) (by kernel_rfl) (fun _ _ _ h => h) (Or.inl ⟨by rfl, ?hyp13⟩) (by assumption) ?rep13
  case hyp13 => first | (intro w hSw; (try dsimp only at hSw); go_simp; done) | (intro w hSw; (try dsimp only at hSw); go_simp; with_reducible rfl)
  try simp only [List.getElem_toArray, List.getElem_cons_zero, List.getElem_cons_succ, Act.put, List.setIfInBounds_toArray, List.set_cons_zero, List.set_cons_succ]
  refine wpAnyH_ready (rs := [2]) (by kernel_rfl) (by simp) ?_
  refine AllReadyH.cons rfl (fun K hK => ?_) AllReadyH.nil
  go_simp
  go_wp2_with (go_at_call 56; (with_reducible refine (rlo_any a0 a1 _ _ (HX.out.below HAD.out)).mono ?_); rintro e wA ⟨vA, rfl, hvA, hbA⟩)
  refine hK.out _ _ (kd12 N3.out hbA hh) (fun hh => ?_)
  clear hK K
  try simp only [List.getElem_toArray, List.getElem_cons_zero, List.getElem_cons_succ, Act.put, List.setIfInBounds_toArray, List.set_cons_zero, List.set_cons_succ]
  have BA := Lib.hid (bt HAD.out hbA)
  refine wpAnyH_ready (rs := [4]) (by kernel_rfl) (by simp) ?_
  refine AllReadyH.cons rfl (fun K hK => ?_) AllReadyH.nil
  go_simp
  go_wp2_with (go_at_call 56; (with_reducible refine (rlo_any p0 p1 _ _ (HY.out.below BA.out)).mono ?_); rintro e wB ⟨vB, rfl, hvB, hbB⟩)
  refine hK.out _ _ (kd12 N3.out hbB hh) (fun hh => ?_)
  clear hK K
  try simp only [List.getElem_toArray, List.getElem_cons_zero, List.getElem_cons_succ, Act.put, List.setIfInBounds_toArray, List.set_cons_zero, List.set_cons_succ]
  have BB := Lib.hid (bt BA.out hbB)
  refine wpAnyH_ready (rs := [5]) (by kernel_rfl) (by simp) ?_
  refine AllReadyH.cons rfl (fun K hK => ?_) AllReadyH.nil
  go_simp
  go_wp2_with (go_at_call 92; (with_reducible refine (stepf_any a0 p0 _ _ _ (hvA.below hbB) hvB S1.out S2.out S3.out S4.out).mono ?_); rintro e wC ⟨vC, rfl, hvC, hbC⟩)
  refine hK.out _ _ (kd12 N3.out hbC hh) (fun hh => ?_)
  clear hK K
  try simp only [List.getElem_toArray, List.getElem_cons_zero, List.getElem_cons_succ, Act.put, List.setIfInBounds_toArray, List.set_cons_zero, List.set_cons_succ]
  have BC := Lib.hid (bt BB.out hbC)
  rw [HQ0.out] at hvC
  refine wpAnyH_ready (rs := [8]) (by kernel_rfl) (by simp) ?_
  refine AllReadyH.cons rfl (fun K hK => ?_) AllReadyH.nil
  go_simp
  go_wp2_with (go_at_call 57; (with_reducible refine (rhi_any a0 a1 _ _ (HX.out.below BC.out)).mono ?_); rintro e wD ⟨vD, rfl, hvD, hbD⟩)
  refine hK.out _ _ (kd12 N3.out hbD hh) (fun hh => ?_)
  clear hK K
  try simp only [List.getElem_toArray, List.getElem_cons_zero, List.getElem_cons_succ, Act.put, List.setIfInBounds_toArray, List.set_cons_zero, List.set_cons_succ]
  have BD := Lib.hid (bt BC.out hbD)
  refine wpAnyH_ready (rs := [10]) (by kernel_rfl) (by simp) ?_
  refine AllReadyH.cons rfl (fun K hK => ?_) AllReadyH.nil
  go_simp
  go_wp2_with (go_at_call 57; (with_reducible refine (rhi_any p0 p1 _ _ (HY.out.below BD.out)).mono ?_); rintro e wF ⟨vF, rfl, hvF, hbF⟩)
  refine hK.out _ _ (kd12 N3.out hbF hh) (fun hh => ?_)
  clear hK K
  try simp only [List.getElem_toArray, List.getElem_cons_zero, List.getElem_cons_succ, Act.put, List.setIfInBounds_toArray, List.set_cons_zero, List.set_cons_succ]
  have BF := Lib.hid (bt BD.out hbF)
  refine wpAnyH_ready (rs := [11]) (by kernel_rfl) (by simp) ?_
  refine AllReadyH.cons rfl (fun K hK => ?_) AllReadyH.nil
  go_simp
  go_wp2_with (go_at_call 92; (with_reducible refine (stepf_any a1 p1 _ _ _ (hvD.below hbF) hvF S5.out S6.out S7.out S8.out).mono ?_); rintro e wG ⟨vG, rfl, hvG, hbG⟩)
  refine hK.out _ _ (kd12 N3.out hbG hh) (fun hh => ?_)
  clear hK K
  try simp only [List.getElem_toArray, List.getElem_cons_zero, List.getElem_cons_succ, Act.put, List.setIfInBounds_toArray, List.set_cons_zero, List.set_cons_succ]
  have BG := Lib.hid (bt BF.out hbG)
  rw [HQ1.out] at hvG
  refine wpAnyH_ready (rs := [12]) (by kernel_rfl) (by simp) ?_
  refine AllReadyH.cons rfl (fun K hK => ?_) AllReadyH.nil
  go_simp
  go_wp2_with (go_at_call 87; (with_reducible refine (span_any q0 q1 _ _ _ (hvC.below (bt (bt hbD hbF) hbG)) hvG S12.out S13.out HCM.out).mono ?_); rintro e wI ⟨vI, rfl, hvI, hbI⟩)
  refine hK.out _ _ (kd12 N3.out hbI hh) (fun hh => ?_)
  clear hK K
  try simp only [List.getElem_toArray, List.getElem_cons_zero, List.getElem_cons_succ, Act.put, List.setIfInBounds_toArray, List.set_cons_zero, List.set_cons_succ]
  have BI := Lib.hid (bt BG.out hbI)
  refine wpAnyH_ready (rs := [14]) (by kernel_rfl) (by simp) ?_
  refine AllReadyH.cons rfl (fun K hK => ?_) AllReadyH.nil
  go_simp
  go_wp2_with (go_at_call 94; (with_reducible refine (rround_any q0 q1 k HK.out _ _ hvI S9.out S11.out).mono ?_); rintro e wJ ⟨vJ, rfl, hvJ, hbJ⟩)
  refine hK.out _ _ (kd12 N3.out hbJ hh) (fun hh => ?_)
  clear hK K
  try simp only [List.getElem_toArray, List.getElem_cons_zero, List.getElem_cons_succ, Act.put, List.setIfInBounds_toArray, List.set_cons_zero, List.set_cons_succ]
  have BJ := Lib.hid (bt BI.out hbJ)
  obtain ⟨za, zb, rfl, hz1, hz2⟩ := hvJ
  have e0 : W.drew.heap[w.heap.size + 1 + 1]? = _ := HB3.out
  have eA := blk_keep e0 hbA (blk_lt e0)
  have eB := blk_keep eA hbB (blk_lt eA)
  have eC := blk_keep eB hbC (blk_lt eB)
  have eD := blk_keep eC hbD (blk_lt eC)
  have eF := blk_keep eD hbF (blk_lt eD)
  have eG := blk_keep eF hbG (blk_lt eF)
  have eI := blk_keep eG hbI (blk_lt eG)
  have eJ := blk_keep eI hbJ (blk_lt eI)
  have E : Hid (wJ.heap[w.heap.size + 1 + 1]? = some (.cells (arr6 r30 r30) 55 (0, 0))) := eJ
  have HV1 := Lib.hid hz1
  have HV2 := Lib.hid hz2
  obtain ⟨g0, g1, g2, g3, g4, g5, f0, f1, f2, f3, f4, f5⟩ := fac6 (x := r30) (y := r30) E.out
  clear e0 eA eB eC eD eF eG eI eJ hz1 hz2
  refine wpAnyH_ready (rs := [15]) (by kernel_rfl) (by simp) ?_
  refine AllReadyH.cons rfl (fun K hK => ?_) AllReadyH.nil
  go_simp
  refine hK.out _ _ (ks12 (Nat.le_refl _) N0.out N0.out N0.out N0.out N0.out N0.out N1.out N1.out N1.out N1.out N1.out N1.out (below6r (Below.refl _ _) (Nat.le_refl _)) hh) (fun hh => ?_)
  clear hK K
  try simp only [List.getElem_toArray, List.getElem_cons_zero, List.getElem_cons_succ, Act.put, List.setIfInBounds_toArray, List.set_cons_zero, List.set_cons_succ]
  refine wpAnyH_done (by kernel_rfl) ?_ _
  obtain ⟨h0, h1, h2, h3, h4, h5, _, _, _, _, _, _⟩ := fac6 (x := za) (y := zb) (set6r (x := za) (y := zb) E.out)
  go_wp2_with fail
  refine bodyPost_ret (v := rngV za zb) (by simp [results, Tryz.results51, go_sem, h0, h1, h2, h3, h4, h5]) rfl ⟨_, rfl, ⟨za, zb, rfl, IsRat.set6r HV1.out E.out, IsRat.set6r HV2.out E.out⟩, below6r BJ.out (by omega)⟩
end Go.Proofs.YtmfochplnchgcaaGreat

/- THE WALKS of cure.Step, Range.Text and law05.awake; printed by wip/tools/gen_cq.py. -/
namespace Go.Proofs.YtmfochplnchgcaaGreat
open Go.RowKit

set_option maxRecDepth 100000 in
set_option maxHeartbeats 2000000 in
theorem part_ok (lo hi : Rat) (v : Value) (w : World) (h : IsRng w v lo hi) (h0 : 0 ≤ sgnI (decide (lo.num < 0)) lo.num.natAbs) (h1 : cmpR hi 1 ≤ 0) (s1 : szR hi 274877906944) : Calls Tryz.prog 50 #[v] w (RetBool true w) := by
  have HR := Lib.hid h
  obtain ⟨x, y, rfl, _, _⟩ := h
  have c0 : decide (sgnI (decide (lo.num < 0)) lo.num.natAbs ≥ 0) = true := decide_eq_true h0
  have c1 : decide (cmpR hi 1 ≤ 0) = true := decide_eq_true h1
  have S1 := Lib.hid s1
  have H0 := Lib.hid h0
  have H1 := Lib.hid h1
  clear s1 h0 h1
  have S2 : Hid (szR 1 274877906944) := one_szR _ (by omega)
  go_enter Tryz.func50, Tryz.ntmps50
  go_wp2_with fail
  have hal := below1 w (.cells (arr6 x y) 55)
  generalize hW0 : w.alloc (.cells (arr6 x y) 55) = W at *
  have hB : W.heap[w.heap.size]? = some (.cells (arr6 x y) 55 (0, 0)) := by rw [← hW0]; exact blk_new _ _ _
  have HAL := Lib.hid hal
  clear hW0 hal
  refine (rlo_any lo hi _ _ (HR.out.below HAL.out)).mono ?_
  rintro e wA ⟨vA, rfl, hvA, hbA⟩
  have BA := Lib.hid (bt HAL.out hbA)
  have eA := blk_keep hB hbA (blk_lt hB)
  obtain ⟨a1, c1', a2, c2', rfl, _, _⟩ := hvA.opened
  clear hB hvA hbA
  go_wp2_with fail
  refine (sign_any _ _ lo.num.natAbs _ _ _ _ _).mono ?_
  rintro e wB ⟨rfl, hbB⟩
  have BB := Lib.hid (bt BA.out hbB)
  have eB := blk_keep eA hbB (blk_lt eA)
  obtain ⟨x0, x1, x2, x3, x4, x5, _, _, _, _, _, _⟩ := fac6 (x := x) (y := y) eB
  clear eA hbB
  go_wp2_with fail
  refine (rhi_any lo hi _ _ (HR.out.below BB.out)).mono ?_
  rintro e wC ⟨vC, rfl, hvC, hbC⟩
  have BC := Lib.hid (bt BB.out hbC)
  clear x0 x1 x2 x3 x4 x5 eB
  go_wp2_with fail
  refine (one_any _).mono ?_
  rintro e wD ⟨vD, rfl, hvD, hbD⟩
  have BD := Lib.hid (bt BC.out hbD)
  go_wp2_with fail
  refine (cmpRat_any hi 1 _ _ _ (hvC.below hbD) hvD S1.out S2.out).mono ?_
  rintro e wE ⟨rfl, hbE⟩
  have BE := Lib.hid (bt BD.out hbE)
  clear hvC hvD hbC hbD hbE
  go_wp2_with fail
  go_ret
  exact ⟨by simp [c1], BE.out⟩
set_option maxRecDepth 100000 in
set_option maxHeartbeats 2000000 in
theorem Step_ok (a0 a1 p0 p1 : Rat) (k : Nat) (vc vr : Value) (w : World) (hc : IsRng w vc a0 a1) (hr : IsRng w vr p0 p1) (q0 q1 : Rat)
    (P1 : Hid (∀ W v, IsRng W v a0 a1 → Calls Tryz.prog 50 #[v] W (RetBool true W))) (P2 : Hid (∀ W v, IsRng W v p0 p1 → Calls Tryz.prog 50 #[v] W (RetBool true W)))
    (HS : Hid (∀ W v u, IsRng W v a0 a1 → IsRng W u p0 p1 → Calls Tryz.prog 51 #[v, u, .int .i64 k] W (RetRng q0 q1 W))) :
    Calls Tryz.prog 19 #[vc, vr, .int .i64 k] w (RetRngE q0 q1 0 w) := by
  have HX := Lib.hid hc
  have HY := Lib.hid hr
  obtain ⟨x, y, rfl, _, _⟩ := hc
  obtain ⟨x', y', rfl, _, _⟩ := hr
  go_enter Tryz.func19, Tryz.ntmps19
  go_wp2_with fail
  generalize hW0 : ((w.alloc (.cells (arr6 x y) 55)).alloc (.cells (arr6 x' y') 55)).alloc (.cells _ _) = W at *
  obtain ⟨hal, hB1, hB2, hB3, hWs⟩ := boxesS w _ _ _ _ _ _ W hW0.symm
  have HAL := Lib.hid hal
  clear hW0 hal hWs
  refine (P1.out _ _ (HX.out.below HAL.out)).mono ?_
  rintro e wA ⟨rfl, hb⟩
  have e1 := blk_keep hB1 hb (blk_lt hB1)
  have e2 := blk_keep hB2 hb (blk_lt hB2)
  have e3 := blk_keep hB3 hb (blk_lt hB3)
  have BA := Lib.hid (bt HAL.out hb)
  obtain ⟨y0, y1, y2, y3, y4, y5, _, _, _, _, _, _⟩ := fac6 (x := x') (y := y') e2
  clear hB1 hB2 hB3 hb
  go_wp2_with fail
  refine (P2.out _ _ (HY.out.below BA.out)).mono ?_
  rintro e wB ⟨rfl, hb⟩
  have f1 := blk_keep e1 hb (blk_lt e1)
  have f2 := blk_keep e2 hb (blk_lt e2)
  have f3 := blk_keep e3 hb (blk_lt e3)
  have BB := Lib.hid (bt BA.out hb)
  clear e1 e2 e3 hb y0 y1 y2 y3 y4 y5
  obtain ⟨x0, x1, x2, x3, x4, x5, _, _, _, _, _, _⟩ := fac6 (x := x) (y := y) f1
  obtain ⟨y0, y1, y2, y3, y4, y5, _, _, _, _, _, _⟩ := fac6 (x := x') (y := y') f2
  go_wp2_with fail
  refine (HS.out _ _ _ (HX.out.below BB.out) (HY.out.below BB.out)).mono ?_
  rintro e wC ⟨v, rfl, ⟨za, zb, rfl, hz1, hz2⟩, hb⟩
  have E : Hid (wC.heap[w.heap.size + 1 + 1]? = some (.cells (arr6 r30 r30) 55 (0, 0))) := blk_keep f3 hb (blk_lt f3)
  have BC := Lib.hid (bt BB.out hb)
  have HV1 := Lib.hid hz1
  have HV2 := Lib.hid hz2
  clear x0 x1 x2 x3 x4 x5 y0 y1 y2 y3 y4 y5 f1 f2 f3 hz1 hz2 hb
  obtain ⟨g0, g1, g2, g3, g4, g5, f0, f1, f2, f3, f4, f5⟩ := fac6 (x := r30) (y := r30) E.out
  go_wp2_with fail
  obtain ⟨h0, h1, h2, h3, h4, h5, _, _, _, _, _, _⟩ := fac6 (x := za) (y := zb) (set6r (x := za) (y := zb) E.out)
  refine bodyPost_ret (v := .tuple #[rngV za zb, .int .i64 0]) (by simp [results, Tryz.results19, go_sem, h0, h1, h2, h3, h4, h5]) rfl ⟨_, rfl, ⟨za, zb, rfl, IsRat.set6r HV1.out E.out, IsRat.set6r HV2.out E.out⟩, below6r BC.out (by omega)⟩
theorem txt_half : strB (txtQ (1 / 2)) = { data := #[49, 47, 50] } := by decide +kernel
set_option maxRecDepth 100000 in
set_option maxHeartbeats 2000000 in
theorem rtext_half (v : Value) (w : World) (h : IsRng w v (1 / 2) (1 / 2)) : Calls Tryz.prog 31 #[v] w (fun e w' => e = .returned (.string { data := #[91, 49, 47, 50, 44, 49, 47, 50, 93] }) ∧ Below w.heap.size w w') := by
  have HT : Hid (∀ W v, IsRat W v (1 / 2) → Calls Tryz.prog 73 #[v] W (fun e w' => e = .returned (.string { data := #[49, 47, 50] }) ∧ Below W.heap.size W w')) := fun W v h => by
    have := textRat_any (1 / 2) v W h ⟨by decide +kernel, by decide +kernel⟩
    unfold RetStr at this
    rw [txt_half] at this
    exact this
  obtain ⟨x, y, rfl, h1, h2⟩ := h
  have HX := Lib.hid h1
  have HY := Lib.hid h2
  clear h1 h2
  go_enter Tryz.func31, Tryz.ntmps31
  go_wp2_with fail
  have hal := below1 w (.cells (arr6 x y) 55)
  generalize hW0 : w.alloc (.cells (arr6 x y) 55) = W at *
  have hB : W.heap[w.heap.size]? = some (.cells (arr6 x y) 55 (0, 0)) := by rw [← hW0]; exact blk_new _ _ _
  obtain ⟨x0, x1, x2, y0, y1, y2, _, _, _, _, _, _⟩ := fac6 (x := x) (y := y) hB
  have HAD := Lib.hid hal.drew
  have N3 : Hid (w.heap.size ≤ W.heap.size) := hal.size
  clear hW0 hal hB
  refine wp_region_held_drew (S := (fun w' => Below (w.heap.size) W w' ∧ w'.cell? ⟨w.heap.size, 0, none⟩ = some (.bool x.b) ∧ w'.cell? ⟨w.heap.size, 1, none⟩ = some (.slice x.a x.n x.c) ∧ w'.cell? ⟨w.heap.size, 2, none⟩ = some (.slice x.d x.m x.e) ∧ w'.cell? ⟨w.heap.size, 3, none⟩ = some (.bool y.b) ∧ w'.cell? ⟨w.heap.size, 4, none⟩ = some (.slice y.a y.n y.c) ∧ w'.cell? ⟨w.heap.size, 5, none⟩ = some (.slice y.d y.m y.e))) (by kernel_rfl) ⟨(Below.refl _ _).drew, x0, x1, x2, y0, y1, y2⟩ (fun hh => ?_)
  clear x0 x1 x2 y0 y1 y2
  refine wpAnyH_take (i := 0) (v := ?vp0) rfl (by kernel_rfl) (by kernel_rfl) (by kernel_rfl) (fun _ _ _ h => h) (Or.inl ⟨by rfl, ?hyp0⟩) (by assumption) ?rep0
  case hyp0 => first | (intro w hSw; (try dsimp only at hSw); go_simp; done) | (intro w hSw; (try dsimp only at hSw); go_simp; with_reducible rfl)
  try simp only [List.getElem_toArray, List.getElem_cons_zero, List.getElem_cons_succ, Act.put, List.setIfInBounds_toArray, List.set_cons_zero, List.set_cons_succ]
  refine wpAnyH_take (i := 1) (v := ?vp1) rfl (by kernel_rfl) (by kernel_rfl) (by kernel_rfl) (fun _ _ _ h => h) (Or.inl ⟨by rfl, ?hyp1⟩) (by assumption) ?rep1
  case hyp1 => first | (intro w hSw; (try dsimp only at hSw); go_simp; done) | (intro w hSw; (try dsimp only at hSw); go_simp; with_reducible rfl)
  try simp only [List.getElem_toArray, List.getElem_cons_zero, List.getElem_cons_succ, Act.put, List.setIfInBounds_toArray, List.set_cons_zero, List.set_cons_succ]
  refine wpAnyH_take (i := 5) (v := ?vp5) rfl (by kernel_rfl) (by kernel_rfl) (by kernel_rfl) (fun _ _ _ h => h) (Or.inl ⟨by rfl, ?hyp5⟩) (by assumption) ?rep5
  case hyp5 => first | (intro w hSw; (try dsimp only at hSw); go_simp; done) | (intro w hSw; (try dsimp only at hSw); go_simp; with_reducible rfl)
  try simp only [List.getElem_toArray, List.getElem_cons_zero, List.getElem_cons_succ, Act.put, List.setIfInBounds_toArray, List.set_cons_zero, List.set_cons_succ]
  refine wpAnyH_take (i := 6) (v := ?vp6) rfl (by kernel_rfl) (by kernel_rfl) (by kernel_rfl) (fun _ _ _ h => h) (Or.inl ⟨by rfl, ?hyp6⟩) (by assumption) ?rep6
  case hyp6 => first | (intro w hSw; (try dsimp only at hSw); go_simp; done) | (intro w hSw; (try dsimp only at hSw); go_simp; with_reducible rfl)
  try simp only [List.getElem_toArray, List.getElem_cons_zero, List.getElem_cons_succ, Act.put, List.setIfInBounds_toArray, List.set_cons_zero, List.set_cons_succ]
  refine wpAnyH_ready (rs := [2]) (by kernel_rfl) (by simp) ?_
  refine AllReadyH.cons rfl (fun K hK => ?_) AllReadyH.nil
  go_simp
  go_wp2_with (go_at_call 73; (with_reducible refine (HT.out _ _ (HX.out.below HAD.out)).mono ?_); rintro e wA ⟨rfl, hbA⟩)
  refine hK.out _ _ (kd6 N3.out hbA hh) (fun hh => ?_)
  clear hK K
  try simp only [List.getElem_toArray, List.getElem_cons_zero, List.getElem_cons_succ, Act.put, List.setIfInBounds_toArray, List.set_cons_zero, List.set_cons_succ]
  have BA := Lib.hid (bt HAD.out hbA)
  refine wpAnyH_take (i := 3) (v := ?vp3) rfl (by kernel_rfl) (by kernel_rfl) (by kernel_rfl) (fun _ _ _ h => h) (Or.inl ⟨by rfl, ?hyp3⟩) (by assumption) ?rep3
  case hyp3 => first | (intro w hSw; (try dsimp only at hSw); go_simp; done) | (intro w hSw; (try dsimp only at hSw); go_simp; with_reducible rfl)
  try simp only [List.getElem_toArray, List.getElem_cons_zero, List.getElem_cons_succ, Act.put, List.setIfInBounds_toArray, List.set_cons_zero, List.set_cons_succ]
  refine wpAnyH_take (i := 4) (v := ?vp4) rfl (by kernel_rfl) (by kernel_rfl) (by kernel_rfl) (fun _ _ _ h => h) (Or.inl ⟨by rfl, ?hyp4⟩) (by assumption) ?rep4
  case hyp4 => first | (intro w hSw; (try dsimp only at hSw); go_simp; done) | (intro w hSw; (try dsimp only at hSw); go_simp; with_reducible rfl)
  try simp only [List.getElem_toArray, List.getElem_cons_zero, List.getElem_cons_succ, Act.put, List.setIfInBounds_toArray, List.set_cons_zero, List.set_cons_succ]
  refine wpAnyH_ready (rs := [7]) (by kernel_rfl) (by simp) ?_
  refine AllReadyH.cons rfl (fun K hK => ?_) AllReadyH.nil
  go_simp
  go_wp2_with (go_at_call 73; (with_reducible refine (HT.out _ _ (HY.out.below BA.out)).mono ?_); rintro e wB ⟨rfl, hbB⟩)
  refine hK.out _ _ (kd6 N3.out hbB hh) (fun hh => ?_)
  clear hK K
  try simp only [List.getElem_toArray, List.getElem_cons_zero, List.getElem_cons_succ, Act.put, List.setIfInBounds_toArray, List.set_cons_zero, List.set_cons_succ]
  have BB := Lib.hid (bt BA.out hbB)
  refine wpAnyH_take (i := 8) (v := ?vp8) rfl (by kernel_rfl) (by kernel_rfl) (by kernel_rfl) (fun _ _ _ h => h) (Or.inl ⟨by rfl, ?hyp8⟩) (by assumption) ?rep8
  case hyp8 => first | (intro w hSw; (try dsimp only at hSw); go_simp; done) | (intro w hSw; (try dsimp only at hSw); go_simp; with_reducible rfl)
  try simp only [List.getElem_toArray, List.getElem_cons_zero, List.getElem_cons_succ, Act.put, List.setIfInBounds_toArray, List.set_cons_zero, List.set_cons_succ]
  refine wpAnyH_take (i := 9) (v := ?vp9) rfl (by kernel_rfl) (by kernel_rfl) (by kernel_rfl) (fun _ _ _ h => h) (Or.inl ⟨by rfl, ?hyp9⟩) (by assumption) ?rep9
  case hyp9 => first | (intro w hSw; (try dsimp only at hSw); go_simp; done) | (intro w hSw; (try dsimp only at hSw); go_simp; with_reducible rfl)
  try simp only [List.getElem_toArray, List.getElem_cons_zero, List.getElem_cons_succ, Act.put, List.setIfInBounds_toArray, List.set_cons_zero, List.set_cons_succ]
  refine wpAnyH_take (i := 10) (v := ?vp10) rfl (by kernel_rfl) (by kernel_rfl) (by kernel_rfl) (fun _ _ _ h => h) (Or.inl ⟨by rfl, ?hyp10⟩) (by assumption) ?rep10
  case hyp10 => first | (intro w hSw; (try dsimp only at hSw); go_simp; done) | (intro w hSw; (try dsimp only at hSw); go_simp; with_reducible rfl)
  try simp only [List.getElem_toArray, List.getElem_cons_zero, List.getElem_cons_succ, Act.put, List.setIfInBounds_toArray, List.set_cons_zero, List.set_cons_succ]
  refine wpAnyH_done (by kernel_rfl) ?_ _
  have hst : (({ data := #[91] } ++ { data := #[49, 47, 50] } ++ { data := #[44] } ++ { data := #[49, 47, 50] } ++ { data := #[93] } : ByteArray)) = { data := #[91, 49, 47, 50, 44, 49, 47, 50, 93] } := by decide +kernel
  go_wp2_with fail
  go_ret
  exact ⟨by rw [hst]; rfl, BB.out⟩
def ruA5 : Ru := ⟨1, 2, 1, 1, 0, 0, 0, 2, 0, 0, 0, 0, 0⟩
theorem play_A : playE ruA5 [1, 0, 2, 0, 3, 0, 0, 0] = (⟨5, 0, 0, 0, false, false, false, false⟩, 8, 0) := by kernel_rfl
theorem down_half : downQ (1 / 2) 4 = 1 / 2 := by decide +kernel
theorem up_half : upQ (1 / 2) 4 = 1 / 2 := by decide +kernel
theorem ints_new8 (w : World) (a b c d e f g h : Int) (t : TypeId) : IntsOf (w.alloc (.cells #[.int .i64 a, .int .i64 b, .int .i64 c, .int .i64 d, .int .i64 e, .int .i64 f, .int .i64 g, .int .i64 h] t)) (.slice (some ⟨w.heap.size, 0, none⟩) 8 8) [a, b, c, d, e, f, g, h] := by
  have hB := blk_new w #[.int .i64 a, .int .i64 b, .int .i64 c, .int .i64 d, .int .i64 e, .int .i64 f, .int .i64 g, .int .i64 h] t
  refine ⟨_, 8, rfl, fun _ => ⟨w.heap.size, 0, rfl, blk_lt hB, fun i hi => ?_⟩⟩
  match i, hi with
  | 0, _ => exact blk_cell hB 0 _ rfl
  | 1, _ => exact blk_cell hB 1 _ rfl
  | 2, _ => exact blk_cell hB 2 _ rfl
  | 3, _ => exact blk_cell hB 3 _ rfl
  | 4, _ => exact blk_cell hB 4 _ rfl
  | 5, _ => exact blk_cell hB 5 _ rfl
  | 6, _ => exact blk_cell hB 6 _ rfl
  | 7, _ => exact blk_cell hB 7 _ rfl
  | i + 8, hi => simp at hi; omega
set_option maxRecDepth 100000 in
set_option maxHeartbeats 2000000 in
theorem awake05_any (w : World) : Calls Tryz.prog 9 #[] w (RetBool true w) := by
  have HP : Hid (∀ W v, IsRng W v 0 0 → Calls Tryz.prog 50 #[v] W (RetBool true W)) := fun W v h => part_ok 0 0 v W h (by decide +kernel) (by decide +kernel) ⟨by decide +kernel, by decide +kernel⟩
  have HP2 : Hid (∀ W v, IsRng W v (1 / 2) (1 / 2) → Calls Tryz.prog 50 #[v] W (RetBool true W)) := fun W v h => part_ok _ _ v W h (by decide +kernel) (by decide +kernel) ⟨by decide +kernel, by decide +kernel⟩
  have HS : Hid (∀ W v u, IsRng W v 0 0 → IsRng W u (1 / 2) (1 / 2) → Calls Tryz.prog 51 #[v, u, .int .i64 (4 : Nat)] W (RetRng (1 / 2) (1 / 2) W)) := fun W v u h1 h2 => by
    have := step_any 0 0 (1 / 2) (1 / 2) 4 (by omega) v u W h1 h2 (1 / 2) (1 / 2) (by decide +kernel) (by decide +kernel) ⟨by decide +kernel, by decide +kernel⟩ ⟨by decide +kernel, by decide +kernel⟩ ⟨by decide +kernel, by decide +kernel⟩ ⟨by decide +kernel, by decide +kernel⟩ ⟨by decide +kernel, by decide +kernel⟩ ⟨by decide +kernel, by decide +kernel⟩ ⟨by decide +kernel, by decide +kernel⟩ ⟨by decide +kernel, by decide +kernel⟩ ⟨by decide +kernel, by decide +kernel⟩ ⟨by decide +kernel, by decide +kernel⟩ ⟨by decide +kernel, by decide +kernel⟩ (by decide +kernel)
    rw [down_half, up_half] at this
    exact this
  have HST : Hid (∀ W v u, IsRng W v 0 0 → IsRng W u (1 / 2) (1 / 2) → Calls Tryz.prog 19 #[v, u, .int .i64 4] W (RetRngE (1 / 2) (1 / 2) 0 W)) := fun W v u h1 h2 => Step_ok 0 0 (1 / 2) (1 / 2) 4 v u W h1 h2 _ _ HP HP2 HS
  have HPL : Hid (∀ W v, IntsOf W v [1, 0, 2, 0, 3, 0, 0, 0] → Calls Tryz.prog 30 #[ruV ruA5, v] W (RetPl (⟨5, 0, 0, 0, false, false, false, false⟩, 8, 0) W)) := fun W v h => by
    rw [← play_A]
    exact Play_any ruA5 _ v W h
  go_enter Tryz.func9, Tryz.ntmps9
  go_wp2_with fail
  refine (new_any 1 2 _ (by omega) (by omega) (by omega) (by omega) (by omega)).mono ?_
  rintro e w1 h1
  have h1' : ∃ v, e = .returned (.tuple #[v, .int .i64 0]) ∧ IsRat w1 v (1 / 2) ∧ Below w.heap.size w w1 := h1
  obtain ⟨v, rfl, hv, hb1⟩ := h1'
  obtain ⟨x, rfl⟩ := hv.open3
  have HV := Lib.hid (hv.below (below1 w1 (.cells x.arr 40)))
  have B1 := Lib.hid (ba (o := .cells x.arr 40) hb1)
  clear h1 hv hb1
  go_wp2_with fail
  refine (only_any (1 / 2) _ _ HV.out).mono ?_
  rintro e w2 ⟨v, rfl, hv, hb2⟩
  have B2 := Lib.hid (bt B1.out hb2)
  clear hb2
  go_wp2_with fail
  refine (HST.out _ _ _ ⟨r30, r30, rfl, IsRat.zero _, IsRat.zero _⟩ hv).mono ?_
  rintro e w3 ⟨v3, rfl, ⟨za, zb, rfl, hz1, hz2⟩, hb3⟩
  have B3 := Lib.hid (ba (o := .cells (arr6 za zb) 55) (bt B2.out hb3))
  have HZ : Hid (IsRng (w3.alloc (.cells (arr6 za zb) 55)) (rngV za zb) (1 / 2) (1 / 2)) := ⟨za, zb, rfl, hz1.below (below1 _ _), hz2.below (below1 _ _)⟩
  have E3 := Lib.hid (blk_new w3 (arr6 za zb) 55)
  clear hv hb3 hz1 hz2
  go_wp2_with fail
  have HI := ints_new8 ((w3.alloc (.cells (arr6 za zb) 55)).alloc (.cells (ruA ruA5) 86)) 1 0 2 0 3 0 0 0 3
  rw [World.size_alloc, World.size_alloc] at HI
  refine (HPL.out _ _ HI).mono ?_
  rintro e w4 ⟨rfl, hb4⟩
  have h5 : Below (w3.alloc (.cells (arr6 za zb) 55)).heap.size (w3.alloc (.cells (arr6 za zb) 55)) (w4.alloc (.cells (rnA ⟨5, 0, 0, 0, false, false, false, false⟩) 89)) := ba (bt (below2 _ _ _) hb4)
  have E5 := blk_keep E3.out h5 (blk_lt E3.out)
  have HZ5 := Lib.hid (HZ.out.below h5)
  have B5 := Lib.hid (bt B3.out h5)
  obtain ⟨x0, x1, x2, x3, x4, x5, _, _, _, _, _, _⟩ := fac6 (x := za) (y := zb) E5
  clear HI h5 E5 hb4
  go_wp2_with fail
  refine (rtext_half _ _ HZ5.out).mono ?_
  rintro e w6 ⟨rfl, hb6⟩
  have E6 := blk_keep (blk_new w4 (rnA ⟨5, 0, 0, 0, false, false, false, false⟩) 89) hb6 (by rw [World.size_alloc]; omega)
  have B6 := Lib.hid (bt B5.out hb6)
  obtain ⟨g0, _, _, _, _, _, _, _⟩ := rn8 E6
  clear x0 x1 x2 x3 x4 x5 hb6 E6
  go_wp2_with fail
  go_ret
  exact ⟨rfl, B6.out⟩
end Go.Proofs.YtmfochplnchgcaaGreat
