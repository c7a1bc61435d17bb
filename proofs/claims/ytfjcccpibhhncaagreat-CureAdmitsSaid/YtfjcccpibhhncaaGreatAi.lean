/- Part i of the lemmas and walks. -/
import Derived.Test.YtfjcccpibhhncaaGreatAh

namespace Go.Proofs.YtfjcccpibhhncaaGreat
open Go.RowKit

theorem firstUp_ge (f : Nat → Bool) : ∀ n, -1 ≤ firstUp f n ∧ firstUp f n ≤ n
 | 0 => ⟨by show (-1 : Int) ≤ -1; omega, by show (-1 : Int) ≤ 0; omega⟩
 | n + 1 => by
  have := firstUp_ge f n
  unfold firstUp
  split
  ·
   omega
  ·
   split <;> omega
theorem firstUp_keep {f : Nat → Bool} {i : Nat} (h : f i = false ∨ 0 ≤ firstUp f i) : firstUp f (i + 1) = firstUp f i := by
 rcases Decidable.em (0 ≤ firstUp f i) with h0 | h0
 ·
  exact firstUp_stay h0 (by omega)
 ·
  have h1 : firstUp f i = -1 := by have := (firstUp_ge f i).1; omega
  rcases h with h | h
  ·
   rw [firstUp_next h1 h, h1]
  ·
   exact absurd h h0
theorem firstUp_take {f : Nat → Bool} {i : Nat} (h : f i = true) (h0 : firstUp f i < 0) : firstUp f (i + 1) = i := by
 have h1 : firstUp f i = -1 := by have := (firstUp_ge f i).1; omega
 exact firstUp_at h1 h (by omega)
set_option maxRecDepth 100000 in
set_option maxHeartbeats 8000000 in
theorem qadmit_any (S le mo ri : Rat) (m : Int) (aq : List Rat) (ls : List (List Rat)) (k : Nat) (hk : k ≤ 256) (z : Int) (hz : min (max z 0) 256 = (k : Int)) (y1 y2 y3 : R3) (vl vS va : Value) (w : World) (hl0 : RecsOf false 2 w vl ls) (hll : ∀ i, (ls.getD i []).getD 0 0 ≤ (ls.getD i []).getD 1 0) (hS : IsR w vS S) (ha : FrcsOf IsR w va aq) (h1 : IsR w y1.val le) (h2 : IsR w y2.val mo) (h3 : IsR w y3.val ri) (hl : aq.length ≤ 300) (sl : ∀ i j, szR ((ls.getD i []).getD j 0) 1000) (sS : szR S 1000) (sa : ∀ i, szR (aq.getD i 0) 1000) (s4 : szR le 1000) (s5 : szR mo 1000) (s6 : szR ri 1000) (sF : ∀ j, flErr ((ls.getD j []).getD 0 0) ((ls.getD j []).getD 1 0) aq.length = 0 → ∀ i, szR (flUp S ((ls.getD j []).getD 0 0) ((ls.getD j []).getD 1 0) k aq i).1 1000 ∧ szR (flUp S ((ls.getD j []).getD 0 0) ((ls.getD j []).getD 1 0) k aq i).2 1000) (sT : ∀ j, flErr ((ls.getD j []).getD 0 0) ((ls.getD j []).getD 1 0) aq.length = 0 → ∀ i n, szR (((flR S ((ls.getD j []).getD 0 0) ((ls.getD j []).getD 1 0) k aq aq.length).getD i []).getD n 0) 1000) :
  Calls Tryz.prog 18 #[vl, vS, va, .agg #[.bool y1.b, .slice y1.a y1.n y1.c, .slice y1.d y1.m y1.e, .bool y2.b, .slice y2.a y2.n y2.c, .slice y2.d y2.m y2.e, .bool y3.b, .slice y3.a y3.n y3.c, .slice y3.d y3.m y3.e, .int .i64 m], .int .i64 z] w (RetII (adIx S le mo ri m k aq ls (adErr aq.length le mo ri m ls)) (adErr aq.length le mo ri m ls) w) := by
 obtain ⟨x3, rfl⟩ := hS.open3
 have HS := Lib.hid (((((Sx.init w).addQ hS).addQ h1).addQ h2).addQ h3)
 have SS := Lib.hid sS
 have SE := Lib.hid s4
 have SM := Lib.hid s5
 have SI := Lib.hid s6
 have HZA := Lib.hid sa
 have HZL := Lib.hid sl
 have HLL0 := Lib.hid hll
 have HZF := Lib.hid sF
 have HZT := Lib.hid sT
 have HK := Lib.hid hk
 have HZK := Lib.hid hz
 have HA := Lib.hid ha
 have HLE := Lib.hid hl
 obtain ⟨aa, ca, rfl, _⟩ := ha
 obtain ⟨al, cl, rfl, hE⟩ := hl0
 have HE := Lib.hid hE
 clear hS h1 h2 h3 sS s4 s5 s6 sa sl sF sT hk hz hl hE hll
 by_cases h1 : ls.length < 1
 ·
  have HR : Hid (adErr aq.length le mo ri m ls = 4) := by show _ = _; unfold adErr; rw [if_pos (by omega)]
  have t1 : decide ((ls.length : Int) < 1) = true := decide_eq_true (by omega)
  have t1b : decide (ls.length < 1) = true := decide_eq_true (by omega)
  go_enter Tryz.func18, Tryz.ntmps18
  go_wp2_with fail
  generalize hW1 : ((w).alloc (.cells _ _)).alloc (.cells _ _) = W1 at *
  replace HS := Lib.hid ((((HS.out).alloc (B := w.heap.size) rfl (by rfl)).alloc (B := w.heap.size + 1) (by simp) (by rfl)).to hW1 (by (try simp only [nb5, nb6]); rfl))
  clear hW1
  go_ret2
  exact (by rw [HR.out]; exact ⟨by unfold adIx; rw [if_neg (by decide)] <;> rfl, HS.out.bel⟩)
 by_cases h2 : 64 < ls.length
 ·
  have HR : Hid (adErr aq.length le mo ri m ls = 4) := by show _ = _; unfold adErr; rw [if_pos (by omega)]
  have t1 : decide ((ls.length : Int) < 1) = false := decide_eq_false (by omega)
  have t1b : decide (ls.length < 1) = false := decide_eq_false (by omega)
  have t2 : decide ((ls.length : Int) > 64) = true := decide_eq_true (by omega)
  have t2b : decide (64 < ls.length) = true := decide_eq_true (by omega)
  go_enter Tryz.func18, Tryz.ntmps18
  go_wp2_with fail
  generalize hW2 : ((w).alloc (.cells _ _)).alloc (.cells _ _) = W2 at *
  replace HS := Lib.hid ((((HS.out).alloc (B := w.heap.size) rfl (by rfl)).alloc (B := w.heap.size + 1) (by simp) (by rfl)).to hW2 (by (try simp only [nb5, nb6]); rfl))
  clear hW2
  go_ret2
  exact (by rw [HR.out]; exact ⟨by unfold adIx; rw [if_neg (by decide)] <;> rfl, HS.out.bel⟩)
 ·
  have HLN : Hid (¬ ls.length < 1 ∧ ¬ 64 < ls.length) := ⟨h1, h2⟩
  have t1 : decide ((ls.length : Int) < 1) = false := decide_eq_false (by omega)
  have t1b : decide (ls.length < 1) = false := decide_eq_false (by omega)
  have t2 : decide ((ls.length : Int) > 64) = false := decide_eq_false (by omega)
  have t2b : decide (64 < ls.length) = false := decide_eq_false (by omega)
  go_enter Tryz.func18, Tryz.ntmps18
  go_wp2_with fail
  generalize hW3 : ((w).alloc (.cells _ _)).alloc (.cells _ _) = W3 at *
  replace HS := Lib.hid ((((HS.out).alloc (B := w.heap.size) rfl (by rfl)).alloc (B := w.heap.size + 1) (by simp) (by rfl)).to hW3 (by (try simp only [nb5, nb6]); rfl))
  clear hW3
  go_loopw [13, 12] (fun u13 u12 wr => ∃ (i : Nat), i ≤ ls.length ∧ u13 = .int .i64 i ∧ u12 = .int .i64 (firstUp (adBad S le mo ri m k aq ls) i) ∧ Hid (adUp aq.length le mo ri m ls i = 0) ∧ Hid (Sx w wr [(w.heap.size + 1, #[.bool y1.b, .slice y1.a y1.n y1.c, .slice y1.d y1.m y1.e, .bool y2.b, .slice y2.a y2.n y2.c, .slice y2.d y2.m y2.e, .bool y3.b, .slice y3.a y3.n y3.c, .slice y3.d y3.m y3.e, .int .i64 m], 58), (w.heap.size, x3.arr, 49)] [(false, y3.val, ri), (false, y2.val, mo), (false, y1.val, le), (false, x3.val, S)]))
   (fun u _ _ => ls.length - (intOf u).toNat)
  case atStart => exact ⟨0, Nat.zero_le _, rfl, rfl, Lib.hid rfl, Lib.hid (((((HS.out.bare).addQ (HS.out.q 3 _ _ rfl)).addQ (HS.out.q 2 _ _ rfl)).addQ (HS.out.q 1 _ _ rfl)).addQ (HS.out.q 0 _ _ rfl))⟩
  case round =>
   obtain ⟨wr4, hwr4⟩ : ∃ z, z = wr := ⟨_, rfl⟩
   subst hwr4
   clear HS
   obtain ⟨i, hi, rfl, rfl, HOK, HS⟩ := hrel
   by_cases hlt : i < ls.length
   ·
    have hlt' : (i : Int) < ls.length := by omega
    have hge' : (0 : Int) ≤ i := by omega
    have HLT := Lib.hid hlt
    obtain ⟨b, off, rfl, hbl, hEE⟩ := HE.out (by omega)
    have HBL := Lib.hid hbl
    obtain ⟨Tx, Tg0, Tg1, Tg2, Thx⟩ := hEE i hlt 0 (by omega)
    have T0 : Hid (w.cell? ⟨b, off + i * 6, none⟩ = some (.bool Tx.b)) := Tg0
    have T1 : Hid (w.cell? ⟨b, off + i * 6 + 1, none⟩ = some (.slice Tx.a Tx.n Tx.c)) := Tg1
    have T2 : Hid (w.cell? ⟨b, off + i * 6 + 2, none⟩ = some (.slice Tx.d Tx.m Tx.e)) := Tg2
    clear Tg0 Tg1 Tg2
    obtain ⟨Ty, Tg0, Tg1, Tg2, Thy⟩ := hEE i hlt 1 (by omega)
    have T3 : Hid (w.cell? ⟨b, off + i * 6 + 3, none⟩ = some (.bool Ty.b)) := Tg0
    have T4 : Hid (w.cell? ⟨b, off + i * 6 + 4, none⟩ = some (.slice Ty.a Ty.n Ty.c)) := Tg1
    have T5 : Hid (w.cell? ⟨b, off + i * 6 + 5, none⟩ = some (.slice Ty.d Ty.m Ty.e)) := Tg2
    clear Tg0 Tg1 Tg2
    replace HS := Lib.hid ((HS.out.addQ (Fr.below Thx HS.out.bel)).addQ (Fr.below Thy HS.out.bel))
    clear hbl hEE Thx Thy
    have SL0 := Lib.hid (HZL.out i 0)
    have SL1 := Lib.hid (HZL.out i 1)
    have HLL := Lib.hid (HLL0.out i)
    have HF0 := Lib.hid (HZF.out i)
    have HT0 := Lib.hid (HZT.out i)
    have HAS := Lib.hid (adUp_s HOK.out)
    have HBA : Hid (adBad S le mo ri m k aq ls i = !mtOf S le mo ri m (flR S ((ls.getD i []).getD 0 0) ((ls.getD i []).getD 1 0) k aq aq.length)) := rfl
    have hfg := firstUp_ge (adBad S le mo ri m k aq ls) i
    have HKP := Lib.hid (firstUp_keep (f := adBad S le mo ri m k aq ls) (i := i))
    have HTK := Lib.hid (firstUp_take (f := adBad S le mo ri m k aq ls) (i := i))
    generalize (ls.getD i []).getD 0 0 = l0 at *
    generalize (ls.getD i []).getD 1 0 = l1 at *
    obtain ⟨mb, hmb⟩ : ∃ z, z = meOf S le mo ri m (flR S l0 l1 k aq aq.length) (meErr l0 l1 aq.length le mo ri m) := ⟨_, rfl⟩
    have HMB := Lib.hid hmb
    obtain ⟨me, hme⟩ : ∃ z, z = meErr l0 l1 aq.length le mo ri m := ⟨_, rfl⟩
    have HME := Lib.hid hme
    generalize firstUp (adBad S le mo ri m k aq ls) i = fu at *
    clear hlt hmb hme
    go_wp2_with fail
    refine wp_region_held_drew (S := (fun w' => Sx w w' [(w.heap.size + 1, #[.bool y1.b, .slice y1.a y1.n y1.c, .slice y1.d y1.m y1.e, .bool y2.b, .slice y2.a y2.n y2.c, .slice y2.d y2.m y2.e, .bool y3.b, .slice y3.a y3.n y3.c, .slice y3.d y3.m y3.e, .int .i64 m], 58), (w.heap.size, x3.arr, 49)] [])) (by kernel_rfl) ((HS.out.drew).bare) (fun hh => ?_)
    replace HS := Lib.hid HS.out.drew
    refine tkB (i := 0) (v := ?vk6) rfl ?hk6 ?rk6
    case hk6 => intro u hSu; go_simp <;> with_reducible rfl
    try simp only [nbs, Act.put]
    refine tkB (i := 1) (v := ?vk7) rfl ?hk7 ?rk7
    case hk7 => intro u hSu; go_simp <;> with_reducible rfl
    try simp only [nbs, Act.put]
    refine tkB (i := 2) (v := ?vk8) rfl ?hk8 ?rk8
    case hk8 => intro u hSu; go_simp <;> with_reducible rfl
    try simp only [nbs, Act.put]
    refine tkB (i := 3) (v := ?vk9) rfl ?hk9 ?rk9
    case hk9 => intro u hSu; (try dsimp only at hSu); have Tc0 := (hSu.bel.cell (p := ⟨b, off + i * 6, none⟩) HBL.out).trans T0.out; have Tc1 := (hSu.bel.cell (p := ⟨b, off + i * 6 + 1, none⟩) HBL.out).trans T1.out; have Tc2 := (hSu.bel.cell (p := ⟨b, off + i * 6 + 2, none⟩) HBL.out).trans T2.out; have Tc3 := (hSu.bel.cell (p := ⟨b, off + i * 6 + 3, none⟩) HBL.out).trans T3.out; have Tc4 := (hSu.bel.cell (p := ⟨b, off + i * 6 + 4, none⟩) HBL.out).trans T4.out; have Tc5 := (hSu.bel.cell (p := ⟨b, off + i * 6 + 5, none⟩) HBL.out).trans T5.out; clear hSu; go_simp <;> with_reducible rfl
    try simp only [nbs, Act.put]
    refine tkB (i := 4) (v := ?vk10) rfl ?hk10 ?rk10
    case hk10 => intro u hSu; (try dsimp only at hSu); obtain ⟨qb0c0, qb0c1, qb0c2, _⟩ := fac3 (x := x3) (hSu.at 1 _ _ _ rfl); clear hSu; go_simp <;> with_reducible rfl
    try simp only [nbs, Act.put]
    refine tkB (i := 5) (v := ?vk11) rfl ?hk11 ?rk11
    case hk11 => intro u hSu; go_simp <;> with_reducible rfl
    try simp only [nbs, Act.put]
    refine tkB (i := 6) (v := ?vk12) rfl ?hk12 ?rk12
    case hk12 => intro u hSu; (try dsimp only at hSu); have qb1e := (hSu.at 0 _ _ _ rfl); have qb1c0 := blk_cell qb1e 0 (.bool y1.b) rfl; have qb1c1 := blk_cell qb1e 1 (.slice y1.a y1.n y1.c) rfl; have qb1c2 := blk_cell qb1e 2 (.slice y1.d y1.m y1.e) rfl; have qb1c3 := blk_cell qb1e 3 (.bool y2.b) rfl; have qb1c4 := blk_cell qb1e 4 (.slice y2.a y2.n y2.c) rfl; have qb1c5 := blk_cell qb1e 5 (.slice y2.d y2.m y2.e) rfl; have qb1c6 := blk_cell qb1e 6 (.bool y3.b) rfl; have qb1c7 := blk_cell qb1e 7 (.slice y3.a y3.n y3.c) rfl; have qb1c8 := blk_cell qb1e 8 (.slice y3.d y3.m y3.e) rfl; have qb1c9 := blk_cell qb1e 9 (.int .i64 m) rfl; clear qb1e; clear hSu; go_simp <;> with_reducible rfl
    try simp only [nbs, Act.put]
    refine tkB (i := 7) (v := ?vk13) rfl ?hk13 ?rk13
    case hk13 => intro u hSu; go_simp <;> with_reducible rfl
    try simp only [nbs, Act.put]
    refine rdA (i := 8) rfl (fun K hK => ?_)
    go_simp
    have a15 := HS.out.q 1 _ _ rfl
    have a16 := HS.out.q 0 _ _ rfl
    have a17 := HS.out.q 5 _ _ rfl
    have a18 := HS.out.q 4 _ _ rfl
    have a19 := HS.out.q 3 _ _ rfl
    have a20 := HS.out.q 2 _ _ rfl
    go_wp2_with (go_at_call 62; (with_reducible refine (qmeets_any l0 l1 S le mo ri m aq k HK.out z HZK.out y1 y2 y3 _ _ _ _ (rngQ a15 a16) HLL.out a17 (HA.out.bQ HS.out.bel) a18 a19 a20 HLE.out SL0.out SL1.out SS.out HZA.out SE.out SM.out SI.out HF0.out HT0.out).mono ?_); rintro e w14 ⟨rfl, hb14⟩; rw [← HMB.out, ← HME.out])
    refine hK.out _ _ (Sx.below hh hb14) (fun hh => ?_)
    clear hK K
    try simp only [nbs, Act.put]
    replace HS := Lib.hid (HS.out.below hb14)
    clear hb14 a15 a16 a17 a18 a19 a20
    refine tkB (i := 9) (v := ?vk21) rfl ?hk21 ?rk21
    case hk21 => intro u hSu; go_simp <;> with_reducible rfl
    try simp only [nbs, Act.put]
    cases t22 : mb with
    | true =>
     refine tkB (i := 10) (v := ?vk23) rfl ?hk23 ?rk23
     case hk23 => intro u hSu; go_simp <;> with_reducible rfl
     try simp only [nbs, Act.put]
     refine tkB (i := 11) (v := ?vk24) rfl ?hk24 ?rk24
     case hk24 => intro u hSu; go_simp <;> with_reducible rfl
     try simp only [nbs, Act.put]
     refine tkB (i := 12) (v := ?vk25) rfl ?hk25 ?rk25
     case hk25 => intro u hSu; go_simp <;> with_reducible rfl
     try simp only [nbs, Act.put]
     refine tkB (i := 13) (v := ?vk26) rfl ?hk26 ?rk26
     case hk26 => intro u hSu; go_simp <;> with_reducible rfl
     try simp only [nbs, Act.put]
     refine wpAnyH_done (by kernel_rfl) ?_ _
     cases t27 : (me == 0) with
     | true =>
      go_wp2_with fail
      exact ⟨⟨i + 1, by have := HLT.out; omega, by go_num, (by have hz := beq_iff_eq.1 t27; have hm : mtOf S le mo ri m (flR S l0 l1 k aq aq.length) = true := (by have := HMB.out; rw [← HME.out, hz, t22] at this; exact this.symm); have hb : adBad S le mo ri m k aq ls i = false := (by rw [HBA.out, hm] <;> rfl); rw [HKP.out (Or.inl hb)]), (by show _ = _; rw [HAS.out, ← HME.out]; exact beq_iff_eq.1 t27), Lib.hid (((((HS.out.bare).addQ (HS.out.q 5 _ _ rfl)).addQ (HS.out.q 4 _ _ rfl)).addQ (HS.out.q 3 _ _ rfl)).addQ (HS.out.q 2 _ _ rfl))⟩, meas_up HLT.out⟩
     | false =>
      go_wp2_with fail
      have HNZ : Hid (me ≠ 0) := beq_eq_false_iff_ne.1 t27
      have HE1 : Hid (adUp aq.length le mo ri m ls (i + 1) = me) := by show _ = _; rw [HAS.out, ← HME.out]
      have HR : Hid (adErr aq.length le mo ri m ls = me) := by show _ = _; unfold adErr; rw [if_neg (by have := HLN.out; omega), adUp_stay (i := i + 1) (by rw [HE1.out]; exact HNZ.out) HLT.out, HE1.out]
      go_ret2
      exact (by rw [HR.out]; exact ⟨by unfold adIx; rw [if_neg HNZ.out] <;> rfl, HS.out.bel⟩)
    | false =>
     refine tkB (i := 10) (v := ?vk28) rfl ?hk28 ?rk28
     case hk28 => intro u hSu; go_simp <;> with_reducible rfl
     try simp only [nbs, Act.put]
     refine tkB (i := 11) (v := ?vk29) rfl ?hk29 ?rk29
     case hk29 => intro u hSu; go_simp <;> with_reducible rfl
     try simp only [nbs, Act.put]
     refine tkB (i := 12) (v := ?vk30) rfl ?hk30 ?rk30
     case hk30 => intro u hSu; go_simp <;> with_reducible rfl
     try simp only [nbs, Act.put]
     refine tkB (i := 13) (v := ?vk31) rfl ?hk31 ?rk31
     case hk31 => intro u hSu; go_simp <;> with_reducible rfl
     try simp only [nbs, Act.put]
     refine wpAnyH_done (by kernel_rfl) ?_ _
     cases t32 : (me == 0) with
     | true =>
      by_cases t33p : fu < 0
      ·
       have t33 : decide (fu < 0) = true := decide_eq_true t33p
       have T33 := Lib.hid t33p
       clear t33p
       go_wp2_with fail
       exact ⟨⟨i + 1, by have := HLT.out; omega, by go_num, (by have hz := beq_iff_eq.1 t32; have hm : mtOf S le mo ri m (flR S l0 l1 k aq aq.length) = false := (by have := HMB.out; rw [← HME.out, hz, t22] at this; exact this.symm); have hb : adBad S le mo ri m k aq ls i = true := (by rw [HBA.out, hm] <;> rfl); rw [HTK.out hb T33.out]), (by show _ = _; rw [HAS.out, ← HME.out]; exact beq_iff_eq.1 t32), Lib.hid (((((HS.out.bare).addQ (HS.out.q 5 _ _ rfl)).addQ (HS.out.q 4 _ _ rfl)).addQ (HS.out.q 3 _ _ rfl)).addQ (HS.out.q 2 _ _ rfl))⟩, meas_up HLT.out⟩
      ·
       have t33 : decide (fu < 0) = false := decide_eq_false t33p
       have T33 := Lib.hid t33p
       clear t33p
       go_wp2_with fail
       exact ⟨⟨i + 1, by have := HLT.out; omega, by go_num, (by have hz := beq_iff_eq.1 t32; have hm : mtOf S le mo ri m (flR S l0 l1 k aq aq.length) = false := (by have := HMB.out; rw [← HME.out, hz, t22] at this; exact this.symm); have hb : adBad S le mo ri m k aq ls i = true := (by rw [HBA.out, hm] <;> rfl); rw [HKP.out (Or.inr (by have := T33.out; omega))]), (by show _ = _; rw [HAS.out, ← HME.out]; exact beq_iff_eq.1 t32), Lib.hid (((((HS.out.bare).addQ (HS.out.q 5 _ _ rfl)).addQ (HS.out.q 4 _ _ rfl)).addQ (HS.out.q 3 _ _ rfl)).addQ (HS.out.q 2 _ _ rfl))⟩, meas_up HLT.out⟩
     | false =>
      go_wp2_with fail
      have HNZ : Hid (me ≠ 0) := beq_eq_false_iff_ne.1 t32
      have HE1 : Hid (adUp aq.length le mo ri m ls (i + 1) = me) := by show _ = _; rw [HAS.out, ← HME.out]
      have HR : Hid (adErr aq.length le mo ri m ls = me) := by show _ = _; unfold adErr; rw [if_neg (by have := HLN.out; omega), adUp_stay (i := i + 1) (by rw [HE1.out]; exact HNZ.out) HLT.out, HE1.out]
      go_ret2
      exact (by rw [HR.out]; exact ⟨by unfold adIx; rw [if_neg HNZ.out] <;> rfl, HS.out.bel⟩)
   ·
    obtain rfl : i = ls.length := by omega
    have HR : Hid (adErr aq.length le mo ri m ls = 0) := by show _ = _; unfold adErr; rw [if_neg (by have := HLN.out; omega)]; exact HOK.out
    go_wp2_with fail
    go_ret2
    exact (by rw [HR.out]; exact ⟨by unfold adIx; rw [if_pos rfl] <;> rfl, HS.out.bel⟩)
end Go.Proofs.YtfjcccpibhhncaaGreat

namespace Go.Proofs.YtfjcccpibhhncaaGreat
open Go.RowKit

def recS (ps : List (List Rat)) : Prop := ∀ i j, szR ((ps.getD i []).getD j 0) 1000
end Go.Proofs.YtfjcccpibhhncaaGreat

namespace Go.Proofs.YtfjcccpibhhncaaGreat
open Go.RowKit

abbrev Raw4 := (Int × Int) × (Int × Int)
def Raw4At (w : World) (b o : Nat) (r : Raw4) : Prop :=
 w.cell? ⟨b, o, none⟩ = some (.int .i64 r.1.1) ∧ w.cell? ⟨b, o + 1, none⟩ = some (.int .i64 r.1.2) ∧ w.cell? ⟨b, o + 2, none⟩ = some (.int .i64 r.2.1) ∧ w.cell? ⟨b, o + 3, none⟩ = some (.int .i64 r.2.2)
def Raw4sOf (w : World) (v : Value) (rs : List Raw4) : Prop :=
 ∃ ao cap, v = .slice ao rs.length cap ∧ (0 < rs.length → ∃ b off, ao = some ⟨b, off, none⟩ ∧ b < w.heap.size ∧ ∀ i, i < rs.length → Raw4At w b (off + i * 4) (rs.getD i ((0, 0), (0, 0))))
def raw4P (r : Raw4) : Prop := i64P r.1 ∧ i64P r.2
def lo4r (r : Raw4) : Rat := loQ (fracQ r.1.1 r.1.2) (fracQ r.2.1 r.2.2)
def hi4r (r : Raw4) : Rat := hiQ (fracQ r.1.1 r.1.2) (fracQ r.2.1 r.2.2)
def rngsE (rs : List Raw4) : List (List Rat) := rs.map fun r => [lo4r r, hi4r r]
theorem rngsE_len (rs : List Raw4) : (rngsE rs).length = rs.length := by simp [rngsE]
theorem rngsE_tlen (rs : List Raw4) (i : Nat) (hi : i ≤ rs.length) : (rngsE (rs.take i)).length = i := by simp [rngsE]; omega
theorem rngsE_take (rs : List Raw4) (i : Nat) (hi : i < rs.length) : rngsE (rs.take (i + 1)) = rngsE (rs.take i) ++ [[lo4r (rs.getD i ((0, 0), (0, 0))), hi4r (rs.getD i ((0, 0), (0, 0)))]] := by
 unfold rngsE
 rw [List.take_add_one, List.map_append]
 simp [hi]
theorem rngsE_sz (rs : List Raw4) (h : ∀ i, i < rs.length → raw4P (rs.getD i ((0, 0), (0, 0)))) : recS (rngsE rs) := fun i j => by
 by_cases hi : i < rs.length
 ·
  have e : (rngsE rs).getD i [] = [lo4r (rs.getD i ((0, 0), (0, 0))), hi4r (rs.getD i ((0, 0), (0, 0)))] := by
   unfold rngsE
   simp [List.getD, hi]
  rw [e]
  obtain ⟨h1, h2⟩ := h i hi
  match j with
  | 0 => exact szR_mono (loQ_sz (fracP_sz h1) (fracP_sz h2)) (by omega)
  | 1 => exact szR_mono (hiQ_sz (fracP_sz h1) (fracP_sz h2)) (by omega)
  | j + 2 => exact szR_zero _ (by omega)
 ·
  have e : (rngsE rs).getD i [] = [] := by
   rw [List.getD_eq_getElem?_getD, List.getElem?_eq_none (by rw [rngsE_len]; omega)]
   rfl
  rw [e]
  exact szR_zero _ (by omega)
end Go.Proofs.YtfjcccpibhhncaaGreat

namespace Go.Proofs.YtfjcccpibhhncaaGreat
open Go.RowKit

theorem list12_long (fs : List (Int × Int)) (v : Value) (w : World) (h : PairsOf w v fs) (hl : 12 < fs.length) : Calls Tryz.prog 10 #[v, .int .i64 12] w (RetNoList w) := by
 obtain ⟨ao, cap, rfl, _⟩ := h
 have t1 : decide ((fs.length : Int) > 12) = true := by simp; omega
 clear hl
 go_enter Tryz.func10, Tryz.ntmps10
 go_wp2_with fail
 go_ret3
 exact ⟨rfl, Below.refl _ _⟩
theorem list12_heavy (fs : List (Int × Int)) (v : Value) (w : World) (h : PairsOf w v fs) (hl : fs.length ≤ 12) (hn : lightUp fs fs.length = false) : Calls Tryz.prog 10 #[v, .int .i64 12] w (RetNoList w) := by
 have HF := Lib.hid h
 obtain ⟨ao, cap, rfl, _⟩ := h
 have t1 : decide ((fs.length : Int) > 12) = false := by simp; omega
 have HL := Lib.hid hl
 clear hl
 go_enter Tryz.func10, Tryz.ntmps10
 go_wp2_with fail
 refine (light_any fs _ _ HF.out (by have := HL.out; omega)).mono ?_
 rintro e w1 ⟨rfl, hb⟩
 rw [hn]
 have HB := Lib.hid hb
 clear hb
 go_wp2_with fail
 go_ret3
 exact ⟨rfl, HB.out⟩
set_option maxRecDepth 100000 in
set_option maxHeartbeats 4000000 in
theorem list12_any (fs : List (Int × Int)) (v : Value) (w : World) (h : PairsOf w v fs) (hl : fs.length ≤ 12) (hr : ∀ i, i < fs.length → i64P (fs.getD i (0, 0))) (hn : lightUp fs fs.length = true) : Calls Tryz.prog 10 #[v, .int .i64 12] w (RetList fs w) := by
 have HF := Lib.hid h
 obtain ⟨ao, cap, rfl, hE⟩ := h
 have HE := Lib.hid hE
 have HR := Lib.hid hr
 have t1 : decide ((fs.length : Int) > 12) = false := by simp; omega
 obtain ⟨iA, hiA, hzA, hsA, hyA⟩ := info_parts info_ratio3
 obtain ⟨iB, hiB, hzB, hsB, hyB⟩ := info_parts info_r3
 have hzd : ∀ u ∈ (Value.agg #[.bool false, .slice none 0 0, .slice none 0 0]).cells.toList, noDig u := by
  intro u hu
  simp [Value.cells] at hu
  rcases hu with rfl | rfl
  ·
   exact noDig_bool _
  ·
   exact noDig_slice _ _ _
 clear hE hr
 go_enter Tryz.func10, Tryz.ntmps10
 go_wp2_with fail
 refine (light_any fs _ _ HF.out (by omega)).mono ?_
 rintro e w1 ⟨rfl, hb⟩
 rw [hn]
 have HB := Lib.hid hb
 clear hb hn
 go_wp2_with fail
 go_loopw [7, 8, 22] (fun va vb iv wr => ∃ (i : Nat) (xsA xsB : List Value), i ≤ fs.length ∧ iv = .int .i64 i ∧ TF w wr va vb xsA xsB (fracsQ (fs.take i)) (fracsQ (fs.take i)))
  (fun _ _ iv _ => fs.length - (intOf iv).toNat)
 case atStart => exact ⟨0, [], [], Nat.zero_le _, rfl, HB.out, LRow.nil _ _ _ _, LRow.nil _ _ _ _, FrcRow.nil _ _, FrcRow.nil _ _⟩
 case round =>
  obtain ⟨i, xsA, xsB, hi, rfl, hT⟩ := hrel
  have HT := Lib.hid hT
  by_cases hlt : i < fs.length
  ·
   obtain ⟨b, off, rfl, hbl, hEE⟩ := HE.out (by omega)
   obtain ⟨g0, g1⟩ := (hEE i hlt).below hT.x hbl
   have hlt' : (i : Int) < fs.length := by omega
   have hge' : (0 : Int) ≤ i := by omega
   have hbl2 : b < wr.heap.size := Nat.lt_of_lt_of_le hbl hT.x.size
   have Htk := Lib.hid (fracsQ_take fs i hlt)
   have hln := fracsQ_length fs i hi
   have hrr := Lib.hid (HR.out i hlt)
   clear hEE hT
   generalize (fs.getD i (0, 0)) = p at *
   obtain ⟨n, d⟩ := p
   have g0' : wr.cell? ⟨b, off + i * 2, none⟩ = some (.int .i64 n) := g0
   have g1' : wr.cell? ⟨b, off + i * 2 + 1, none⟩ = some (.int .i64 d) := g1
   clear g0 g1
   generalize fracsQ (fs.take i) = es at *
   have hes : es.length ≤ 12 := by omega
   clear hln
   have hN : boxF n d wr.heap.size (wr.alloc (.cells #[.int .i64 n, .int .i64 d] 24)).drew := blk_new wr #[.int .i64 n, .int .i64 d] 24
   have HT0 := Lib.hid (HT.out.below (((Below.refl wr.heap.size wr).alloc (Nat.le_refl _) (.cells #[.int .i64 n, .int .i64 d] 24)).drew))
   have hAlt := Lib.hid (fun g (hg : u7.ownBlock = some g) => (HT.out.la.lt hg).1)
   have hBlt := Lib.hid (fun g (hg : u8.ownBlock = some g) => (HT.out.lb.lt hg).1)
   go_wp2_with fail
   go_region_held3 (fun w' => boxF n d wr.heap.size w' ∧ w'.cell? ⟨wr.heap.size, 0, none⟩ = some (.int .i64 n) ∧ w'.cell? ⟨wr.heap.size, 1, none⟩ = some (.int .i64 d))
    (first | exact hN.all | assumption | (refine boxF.below hbA ?_; assumption) | (refine boxF.below hbB ?_; assumption) | (refine boxF.below ((Below.refl _ _).alloc (Nat.le_refl _) _) ?_; assumption) | (refine boxF.grown hgrA (fun e => Nat.lt_irrefl _ (hAlt.out _ e.symm)) ?_; assumption) | (refine boxF.grown hgrB (fun e => Nat.lt_irrefl _ (hBlt.out _ e.symm)) ?_; assumption))
    (first
     | (go_at_call 17; refine (of_any n d _ hrr.out.1.1 hrr.out.1.2 hrr.out.2.1 hrr.out.2.2).mono ?_; rintro e wA ⟨vA, rfl, hvA, hbA⟩; obtain ⟨a1, c1, a2, c2, rfl, _, _⟩ := hvA.opened; have HVA := Lib.hid hvA; have HT1 := Lib.hid (HT0.out.below hbA); clear hvA)
     | (go_at_call 19; refine (qof_any n d _ hrr.out.1.1 hrr.out.1.2 hrr.out.2.1 hrr.out.2.2).mono ?_; rintro e wB ⟨vB, rfl, hvB, hbB⟩; obtain ⟨dB, a3, c3, a4, c4, rfl, _, _, _⟩ := hvB.opened; have HVB := Lib.hid hvB; have HT4 := Lib.hid (HT3.out.below hbB); clear hvB)
     | (refine step_append_lrow _ rfl (.tmp 26) (.tmp 29) 28 rfl w.heap.size 41 iA _ 3 56 Tryz.underlying28 hiA hzA hsA hyA rfl (by decide) hzd _ _ _ rfl (HT1.out.alloc _).la ⟨wA.heap.size, 0, none⟩ 1 1 [.bool (decide ((fracQ n d).num < 0)), .slice a1 (dig b64 (fracQ n d).num.natAbs).length c1, .slice a2 (dig b64 (dn (fracQ n d).den)).length c2] rfl rfl (cell_new3 _ _ _ _ _) (by simp [Value.oneCell']) (by intro u hu; simp at hu; rcases hu with rfl | rfl | rfl; exact noDig_bool _; exact noDig_slice _ _ _; exact noDig_slice _ _ _) (by omega) (by unfold maxLen; omega) (by omega) (HT1.out.alloc _).x.size ?_; intro gA capA w3 hL3 hgrA hatA; have HT3 := Lib.hid ((HT1.out.alloc _).appendA (HVA.out.below ((Below.refl _ _).alloc (Nat.le_refl _) _)) hL3 hgrA))
     | (refine step_append_lrow _ rfl (.tmp 31) (.tmp 34) 29 rfl w.heap.size 49 iB _ 3 56 Tryz.underlying29 hiB hzB hsB hyB rfl (by decide) hzd _ _ _ rfl (HT4.out.alloc _).lb ⟨wB.heap.size, 0, none⟩ 1 1 [.bool (decide ((fracQ n d).num < 0)), .slice a3 (dig b32 (fracQ n d).num.natAbs).length c3, .slice a4 (dig b32 dB).length c4] rfl rfl (cell_new3 _ _ _ _ _) (by simp [Value.oneCell']) (by intro u hu; simp at hu; rcases hu with rfl | rfl | rfl; exact noDig_bool _; exact noDig_slice _ _ _; exact noDig_slice _ _ _) (by omega) (by unfold maxLen; omega) (by omega) (HT4.out.alloc _).x.size ?_; intro gB capB w6 hL6 hgrB hatB; have HT6 := Lib.hid ((HT4.out.alloc _).appendB (HVB.out.below ((Below.refl _ _).alloc (Nat.le_refl _) _)) hL6 hgrB)))
   clear HT HT0 HT1 HT3 HT4 HVA HVB hL3 hL6 hgrA hgrB
   go_wp2_with fail
   exact ⟨⟨i + 1, _, _, by omega, by go_num, by rw [Htk.out]; exact HT6.out⟩, meas_up hlt⟩
  ·
   obtain rfl : i = fs.length := by omega
   rw [List.take_length] at hT HT
   clear hT
   go_wp2_with fail
   go_ret3
   exact ⟨_, _, rfl, FrcsOf.ofRow HT.out.la HT.out.ta, FrcsOf.ofRow HT.out.lb HT.out.tb, HT.out.x⟩
theorem rngsE_le (rs : List Raw4) (i : Nat) : ((rngsE rs).getD i []).getD 0 0 ≤ ((rngsE rs).getD i []).getD 1 0 := by
 by_cases hi : i < rs.length
 ·
  have e : (rngsE rs).getD i [] = [lo4r (rs.getD i ((0, 0), (0, 0))), hi4r (rs.getD i ((0, 0), (0, 0)))] := by
   unfold rngsE
   simp [List.getD, hi]
  rw [e]
  exact lo_hi _ _
 ·
  have e : (rngsE rs).getD i [] = [] := by
   rw [List.getD_eq_getElem?_getD, List.getElem?_eq_none (by rw [rngsE_len]; omega)]
   rfl
  rw [e]
  exact Rat.le_refl
theorem inf_cure_Tool : (Tryz.prog.info? 46).map (fun i => (i.zero, i.size, i.bytes)) = some (some (.agg #[.bool false, .slice none 0 0, .slice none 0 0, .bool false, .slice none 0 0, .slice none 0 0]), 6, 112) := by kernel_rfl
theorem inf_wingworksref05_Tool : (Tryz.prog.info? 54).map (fun i => (i.zero, i.size, i.bytes)) = some (some (.agg #[.bool false, .slice none 0 0, .slice none 0 0, .bool false, .slice none 0 0, .slice none 0 0]), 6, 112) := by kernel_rfl
set_option maxRecDepth 100000 in
set_option maxHeartbeats 8000000 in
theorem cureAdmits_any (ps : List Raw4) (sn sd pn pd qn qd rn rd m : Int) (fs : List (Int × Int)) (k : Nat) (vp v : Value) (w : World) (hp : Raw4sOf w vp ps) (rp : ∀ i, i < ps.length → raw4P (ps.getD i ((0, 0), (0, 0)))) (hs : i64P (sn, sd)) (h1 : i64P (pn, pd)) (h2 : i64P (qn, qd)) (h3 : i64P (rn, rd)) (hfs : PairsOf w v fs) (hfr : ∀ i, i < fs.length → i64P (fs.getD i (0, 0))) (hk : k ≤ 255) :
  Calls Tryz.prog 3 #[vp, .agg #[.int .i64 sn, .int .i64 sd], v, .agg #[.int .i64 pn, .int .i64 pd, .int .i64 qn, .int .i64 qd, .int .i64 rn, .int .i64 rd, .int .i64 m], .int .u8 (k : Int)] w (RetBool true w) := by
 have hzS : szR (fracQ sn sd) 1000 := szR_mono (fracP_sz hs) (by omega)
 have hzp : szR (fracQ pn pd) 1000 := szR_mono (fracP_sz h1) (by omega)
 have hzq : szR (fracQ qn qd) 1000 := szR_mono (fracP_sz h2) (by omega)
 have hzr : szR (fracQ rn rd) 1000 := szR_mono (fracP_sz h3) (by omega)
 have hza := fracsQ_szN hfr
 have hzl : ∀ i j, szR (((rngsE ps).getD i []).getD j 0) 1000 := rngsE_sz ps rp
 have hll := rngsE_le ps
 have hkk : k ≤ 256 := by omega
 have hzk : min (max (k : Int) 0) 256 = (k : Int) := by omega
 have hsf : ∀ j, flErr (((rngsE ps).getD j []).getD 0 0) (((rngsE ps).getD j []).getD 1 0) (fracsQ fs).length = 0 → ∀ i, szR (flUp (fracQ sn sd) (((rngsE ps).getD j []).getD 0 0) (((rngsE ps).getD j []).getD 1 0) k (fracsQ fs) i).1 1000 ∧ szR (flUp (fracQ sn sd) (((rngsE ps).getD j []).getD 0 0) (((rngsE ps).getD j []).getD 1 0) k (fracsQ fs) i).2 1000 := fun j he i => ⟨szR_mono (fl_szs hkk hs hfr (hll j) _ he i).1 (by omega), szR_mono (fl_szs hkk hs hfr (hll j) _ he i).2 (by omega)⟩
 have hst : ∀ j, flErr (((rngsE ps).getD j []).getD 0 0) (((rngsE ps).getD j []).getD 1 0) (fracsQ fs).length = 0 → ∀ i n, szR (((flR (fracQ sn sd) (((rngsE ps).getD j []).getD 0 0) (((rngsE ps).getD j []).getD 1 0) k (fracsQ fs) (fracsQ fs).length).getD i []).getD n 0) 1000 := fun j he i n => flR_szs hkk hs hfr (hll j) _ _ he i n
 have hfl : (fracsQ fs).length = fs.length := by simp [fracsQ]
 have HAP : Hid (∀ (W : World) (vl vS va : Value) (y1 y2 y3 : R3), fs.length ≤ 12 → RecsOf true 2 W vl (rngsE ps) → IsRat W vS (fracQ sn sd) → FrcsOf IsRat W va (fracsQ fs) → IsRat W y1.val (fracQ pn pd) → IsRat W y2.val (fracQ qn qd) → IsRat W y3.val (fracQ rn rd) → Calls Tryz.prog 16 #[vl, vS, va, .agg #[.bool y1.b, .slice y1.a y1.n y1.c, .slice y1.d y1.m y1.e, .bool y2.b, .slice y2.a y2.n y2.c, .slice y2.d y2.m y2.e, .bool y3.b, .slice y3.a y3.n y3.c, .slice y3.d y3.m y3.e, .int .i64 m], .int .i64 (k : Int)] W (RetII (adIx (fracQ sn sd) (fracQ pn pd) (fracQ qn qd) (fracQ rn rd) m k (fracsQ fs) (rngsE ps) (adErr (fracsQ fs).length (fracQ pn pd) (fracQ qn qd) (fracQ rn rd) m (rngsE ps))) (adErr (fracsQ fs).length (fracQ pn pd) (fracQ qn qd) (fracQ rn rd) m (rngsE ps)) W)) := fun W vl vS va y1 y2 y3 hl g1 g2 g3 g4 g5 g6 => padmit_any _ _ _ _ m _ _ k hkk (k : Int) hzk y1 y2 y3 vl vS va W g1 g2 g3 g4 g5 g6 (by omega) hzl hzS hza hzp hzq hzr hsf hst
 have HAQ : Hid (∀ (W : World) (vl vS va : Value) (y1 y2 y3 : R3), fs.length ≤ 12 → RecsOf false 2 W vl (rngsE ps) → IsR W vS (fracQ sn sd) → FrcsOf IsR W va (fracsQ fs) → IsR W y1.val (fracQ pn pd) → IsR W y2.val (fracQ qn qd) → IsR W y3.val (fracQ rn rd) → Calls Tryz.prog 18 #[vl, vS, va, .agg #[.bool y1.b, .slice y1.a y1.n y1.c, .slice y1.d y1.m y1.e, .bool y2.b, .slice y2.a y2.n y2.c, .slice y2.d y2.m y2.e, .bool y3.b, .slice y3.a y3.n y3.c, .slice y3.d y3.m y3.e, .int .i64 m], .int .i64 (k : Int)] W (RetII (adIx (fracQ sn sd) (fracQ pn pd) (fracQ qn qd) (fracQ rn rd) m k (fracsQ fs) (rngsE ps) (adErr (fracsQ fs).length (fracQ pn pd) (fracQ qn qd) (fracQ rn rd) m (rngsE ps))) (adErr (fracsQ fs).length (fracQ pn pd) (fracQ qn qd) (fracQ rn rd) m (rngsE ps)) W)) := fun W vl vS va y1 y2 y3 hl g1 g2 g3 g4 g5 g6 => qadmit_any _ _ _ _ m _ _ k hkk (k : Int) hzk y1 y2 y3 vl vS va W g1 hll g2 g3 g4 g5 g6 (by omega) hzl hzS hza hzp hzq hzr hsf hst
 have HND : Hid (∀ W, Calls Tryz.prog 15 #[.agg #[.int .i64 pn, .int .i64 pd, .int .i64 qn, .int .i64 qd, .int .i64 rn, .int .i64 rd, .int .i64 m]] W (RetNeed (fracQ pn pd) (fracQ qn qd) (fracQ rn rd) m W)) := fun W => need_any pn pd qn qd rn rd m W h1 h2 h3
 generalize (adIx (fracQ sn sd) (fracQ pn pd) (fracQ qn qd) (fracQ rn rd) m k (fracsQ fs) (rngsE ps) (adErr (fracsQ fs).length (fracQ pn pd) (fracQ qn qd) (fracQ rn rd) m (rngsE ps))) = ai at *
 generalize (adErr (fracsQ fs).length (fracQ pn pd) (fracQ qn qd) (fracQ rn rd) m (rngsE ps)) = ae at *
 generalize fracQ pn pd = le at *
 generalize fracQ qn qd = mo at *
 generalize fracQ rn rd = ri at *
 clear hsf hst hzl hll hzS hzp hzq hzr hza hkk hzk
 have HS := Lib.hid (Sx.init w)
 have HST := Lib.hid hs
 have HFS := Lib.hid hfs
 have HFR := Lib.hid hfr
 have HRps := Lib.hid rp
 obtain ⟨aps, cps, rfl, hEp⟩ := hp
 have HEps := Lib.hid hEp
 obtain ⟨afs, cfs, rfl, _⟩ := hfs
 clear hs h1 h2 h3 hfr hfl hEp rp
 by_cases ha4 : 5 < ps.length ∧ ps.length ≤ 64
 ·
  obtain ⟨ha5, ha6⟩ := ha4
  have t5a : decide ((ps.length : Int) > 5) = true := decide_eq_true (by omega)
  have t5b : decide (5 < ps.length) = true := decide_eq_true (by omega)
  have t64a : decide ((ps.length : Int) ≤ 64) = true := decide_eq_true (by omega)
  have t64b : decide (ps.length ≤ 64) = true := decide_eq_true (by omega)
  go_enter Tryz.func3, Tryz.ntmps3
  go_wp2_with fail
  generalize hW1 : ((w).alloc (.cells _ _)).alloc (.cells _ _) = W1 at *
  replace HS := Lib.hid ((((HS.out).alloc (B := w.heap.size) rfl (by rfl)).alloc (B := w.heap.size + 1) (by simp) (by rfl)).to hW1 (by (try simp only [nb5, nb6]); rfl))
  clear hW1
  by_cases hll0 : 12 < fs.length
  ·
   have HLL0 := Lib.hid hll0
   refine (list12_long fs _ _ (HFS.out.below HS.out.bel) HLL0.out).mono ?_
   rintro e w2 ⟨rfl, hb2⟩
   replace HS := Lib.hid (HS.out.below hb2)
   clear hb2
   go_wp2_with fail
   refine (awake05_any _).mono ?_
   rintro e w3 ⟨rfl, hb3⟩
   replace HS := Lib.hid (HS.out.below hb3)
   clear hb3
   go_wp2_with fail
   go_ret
   exact ⟨by simp, HS.out.bel⟩
  ·
   have HFL : Hid (fs.length ≤ 12) := by show _ ≤ _; omega
   cases hlu : lightUp fs fs.length with
   | false =>
    refine (list12_heavy fs _ _ (HFS.out.below HS.out.bel) HFL.out hlu).mono ?_
    rintro e w4 ⟨rfl, hb4⟩
    replace HS := Lib.hid (HS.out.below hb4)
    clear hb4
    go_wp2_with fail
    refine (awake05_any _).mono ?_
    rintro e w5 ⟨rfl, hb5⟩
    replace HS := Lib.hid (HS.out.below hb5)
    clear hb5
    go_wp2_with fail
    go_ret
    exact ⟨by simp, HS.out.bel⟩
   | true =>
    refine (list12_any fs _ _ (HFS.out.below HS.out.bel) HFL.out HFR.out hlu).mono ?_
    rintro e w6 ⟨va, vb, rfl, hta, htb, hb6⟩
    have HTA := Lib.hid hta
    have HTB := Lib.hid htb
    clear hta htb
    replace HS := Lib.hid (HS.out.below hb6)
    clear hb6
    have HMK := Lib.hid (Below.refl w6.heap.size w6)
    go_wp2_with fail
    refine (awake05_any _).mono ?_
    rintro e w7 ⟨rfl, hb7⟩
    replace HS := Lib.hid (HS.out.below hb7)
    replace HMK := Lib.hid (ext_trans HMK.out hb7)
    clear hb7
    go_wp2_with fail
    go_ret
    exact ⟨by simp, HS.out.bel⟩
 by_cases hb4 : 70 < ps.length
 ·
  have ha5 : 5 < ps.length := by omega
  have t5a : decide ((ps.length : Int) > 5) = true := decide_eq_true (by omega)
  have t5b : decide (5 < ps.length) = true := decide_eq_true (by omega)
  have t64a : decide ((ps.length : Int) ≤ 64) = false := decide_eq_false (by omega)
  have t64b : decide (ps.length ≤ 64) = false := decide_eq_false (by omega)
  have t70a : decide ((ps.length : Int) > 70) = true := decide_eq_true (by omega)
  have t70b : decide (70 < ps.length) = true := decide_eq_true (by omega)
  go_enter Tryz.func3, Tryz.ntmps3
  go_wp2_with fail
  generalize hW8 : ((w).alloc (.cells _ _)).alloc (.cells _ _) = W8 at *
  replace HS := Lib.hid ((((HS.out).alloc (B := w.heap.size) rfl (by rfl)).alloc (B := w.heap.size + 1) (by simp) (by rfl)).to hW8 (by (try simp only [nb5, nb6]); rfl))
  clear hW8
  by_cases hll0 : 12 < fs.length
  ·
   have HLL0 := Lib.hid hll0
   refine (list12_long fs _ _ (HFS.out.below HS.out.bel) HLL0.out).mono ?_
   rintro e w9 ⟨rfl, hb9⟩
   replace HS := Lib.hid (HS.out.below hb9)
   clear hb9
   go_wp2_with fail
   refine (awake05_any _).mono ?_
   rintro e w10 ⟨rfl, hb10⟩
   replace HS := Lib.hid (HS.out.below hb10)
   clear hb10
   go_wp2_with fail
   go_ret
   exact ⟨by simp, HS.out.bel⟩
  ·
   have HFL : Hid (fs.length ≤ 12) := by show _ ≤ _; omega
   cases hlu : lightUp fs fs.length with
   | false =>
    refine (list12_heavy fs _ _ (HFS.out.below HS.out.bel) HFL.out hlu).mono ?_
    rintro e w11 ⟨rfl, hb11⟩
    replace HS := Lib.hid (HS.out.below hb11)
    clear hb11
    go_wp2_with fail
    refine (awake05_any _).mono ?_
    rintro e w12 ⟨rfl, hb12⟩
    replace HS := Lib.hid (HS.out.below hb12)
    clear hb12
    go_wp2_with fail
    go_ret
    exact ⟨by simp, HS.out.bel⟩
   | true =>
    refine (list12_any fs _ _ (HFS.out.below HS.out.bel) HFL.out HFR.out hlu).mono ?_
    rintro e w13 ⟨va, vb, rfl, hta, htb, hb13⟩
    have HTA := Lib.hid hta
    have HTB := Lib.hid htb
    clear hta htb
    replace HS := Lib.hid (HS.out.below hb13)
    clear hb13
    have HMK := Lib.hid (Below.refl w13.heap.size w13)
    go_wp2_with fail
    refine (awake05_any _).mono ?_
    rintro e w14 ⟨rfl, hb14⟩
    replace HS := Lib.hid (HS.out.below hb14)
    replace HMK := Lib.hid (ext_trans HMK.out hb14)
    clear hb14
    go_wp2_with fail
    go_ret
    exact ⟨by simp, HS.out.bel⟩
 by_cases hk4 : 40 < k
 ·
  have hl70 : ps.length ≤ 70 := by omega
  obtain ⟨ba, bb, t5a, t5b, t64a, t64b, hab⟩ : ∃ ba bb : Bool, decide ((ps.length : Int) > 5) = ba ∧ decide (5 < ps.length) = ba ∧ decide ((ps.length : Int) ≤ 64) = bb ∧ decide (ps.length ≤ 64) = bb ∧ (ba = false ∨ (ba = true ∧ bb = false)) := by
   by_cases hq1 : 5 < ps.length
   ·
    exact ⟨true, false, decide_eq_true (by omega), decide_eq_true hq1, decide_eq_false (by omega), decide_eq_false (by omega), Or.inr ⟨rfl, rfl⟩⟩
   ·
    exact ⟨false, decide (ps.length ≤ 64), decide_eq_false (by omega), decide_eq_false hq1, by congr 1; exact propext ⟨fun h => by omega, fun h => by omega⟩, rfl, Or.inl rfl⟩
  have t70a : decide ((ps.length : Int) > 70) = false := decide_eq_false (by omega)
  have t70b : decide (70 < ps.length) = false := decide_eq_false (by omega)
  have tk1 : decide ((k : Int) > 40) = true := decide_eq_true (by omega)
  have tk2 : decide (40 < k) = true := decide_eq_true (by omega)
  have hwk : IntKind.i64.wrap (k : Int) = (k : Int) := IntWalk.i64_in _ (by omega)
  clear ha4 hb4
  rcases hab with rfl | ⟨rfl, rfl⟩
  all_goals
   go_enter Tryz.func3, Tryz.ntmps3
   go_wp2_with fail
   generalize hW15 : ((w).alloc (.cells _ _)).alloc (.cells _ _) = W15 at *
   replace HS := Lib.hid ((((HS.out).alloc (B := w.heap.size) rfl (by rfl)).alloc (B := w.heap.size + 1) (by simp) (by rfl)).to hW15 (by (try simp only [nb5, nb6]); rfl))
   clear hW15
   by_cases hll0 : 12 < fs.length
   ·
    have HLL0 := Lib.hid hll0
    refine (list12_long fs _ _ (HFS.out.below HS.out.bel) HLL0.out).mono ?_
    rintro e w16 ⟨rfl, hb16⟩
    replace HS := Lib.hid (HS.out.below hb16)
    clear hb16
    go_wp2_with fail
    refine (awake05_any _).mono ?_
    rintro e w17 ⟨rfl, hb17⟩
    replace HS := Lib.hid (HS.out.below hb17)
    clear hb17
    go_wp2_with fail
    go_ret
    exact ⟨by simp, HS.out.bel⟩
   ·
    have HFL : Hid (fs.length ≤ 12) := by show _ ≤ _; omega
    cases hlu : lightUp fs fs.length with
    | false =>
     refine (list12_heavy fs _ _ (HFS.out.below HS.out.bel) HFL.out hlu).mono ?_
     rintro e w18 ⟨rfl, hb18⟩
     replace HS := Lib.hid (HS.out.below hb18)
     clear hb18
     go_wp2_with fail
     refine (awake05_any _).mono ?_
     rintro e w19 ⟨rfl, hb19⟩
     replace HS := Lib.hid (HS.out.below hb19)
     clear hb19
     go_wp2_with fail
     go_ret
     exact ⟨by simp, HS.out.bel⟩
    | true =>
     refine (list12_any fs _ _ (HFS.out.below HS.out.bel) HFL.out HFR.out hlu).mono ?_
     rintro e w20 ⟨va, vb, rfl, hta, htb, hb20⟩
     have HTA := Lib.hid hta
     have HTB := Lib.hid htb
     clear hta htb
     replace HS := Lib.hid (HS.out.below hb20)
     clear hb20
     have HMK := Lib.hid (Below.refl w20.heap.size w20)
     have b0e := (HS.out.at 1 _ _ _ rfl)
     have b0c0 := blk_cell b0e 0 (.int .i64 sn) rfl
     have b0c1 := blk_cell b0e 1 (.int .i64 sd) rfl
     have b0f0 := blk_frozen b0e 0
     have b0f1 := blk_frozen b0e 1
     have b0l := blk_lt b0e
     clear b0e
     have b1e := (HS.out.at 0 _ _ _ rfl)
     have b1c0 := blk_cell b1e 0 (.int .i64 pn) rfl
     have b1c1 := blk_cell b1e 1 (.int .i64 pd) rfl
     have b1c2 := blk_cell b1e 2 (.int .i64 qn) rfl
     have b1c3 := blk_cell b1e 3 (.int .i64 qd) rfl
     have b1c4 := blk_cell b1e 4 (.int .i64 rn) rfl
     have b1c5 := blk_cell b1e 5 (.int .i64 rd) rfl
     have b1c6 := blk_cell b1e 6 (.int .i64 m) rfl
     have b1f0 := blk_frozen b1e 0
     have b1f1 := blk_frozen b1e 1
     have b1f2 := blk_frozen b1e 2
     have b1f3 := blk_frozen b1e 3
     have b1f4 := blk_frozen b1e 4
     have b1f5 := blk_frozen b1e 5
     have b1f6 := blk_frozen b1e 6
     have b1l := blk_lt b1e
     clear b1e
     go_wp2_with fail
     clear b0c0 b0c1 b0f0 b0f1 b0l b1c0 b1c1 b1c2 b1c3 b1c4 b1c5 b1c6 b1f0 b1f1 b1f2 b1f3 b1f4 b1f5 b1f6 b1l
     have HG22 : Hid (w20.heap.size ≤ w20.heap.size) := by first | exact HMK.out.size | (show _ ≤ _; have := HMK.out.size; omega)
     generalize hW21 : (w20).alloc (.cells _ _) = W21 at *
     replace HS := Lib.hid (((HS.out).alloc (B := w20.heap.size) rfl (by rfl)).to hW21 (by (try simp only [nb5, nb6]); rfl))
     replace HMK : Hid (Below w20.heap.size w20 W21) := by subst hW21; exact Lib.hid ((mk_alloc HMK.out))
     clear hW21
     cases t23 : lightUp [(sn, sd), (pn, pd), (qn, qd), (rn, rd)] 4 with
     | true =>
      refine (light4_any sn sd pn pd qn qd rn rd _ _ (pairs4 (HS.out.at 0 _ _ _ rfl))).mono ?_
      rw [t23]
      rintro e w24 ⟨rfl, hb24⟩
      replace HS := Lib.hid (HS.out.below hb24)
      replace HMK := Lib.hid (ext_trans HMK.out hb24)
      clear hb24
      go_wp2_with fail
      refine (awake05_any _).mono ?_
      rintro e w25 ⟨rfl, hb25⟩
      replace HS := Lib.hid (HS.out.below hb25)
      replace HMK := Lib.hid (ext_trans HMK.out hb25)
      clear hb25
      go_wp2_with fail
      go_ret
      exact ⟨by simp, HS.out.bel⟩
     | false =>
      refine (light4_any sn sd pn pd qn qd rn rd _ _ (pairs4 (HS.out.at 0 _ _ _ rfl))).mono ?_
      rw [t23]
      rintro e w26 ⟨rfl, hb26⟩
      replace HS := Lib.hid (HS.out.below hb26)
      replace HMK := Lib.hid (ext_trans HMK.out hb26)
      clear hb26
      go_wp2_with fail
      refine (awake05_any _).mono ?_
      rintro e w27 ⟨rfl, hb27⟩
      replace HS := Lib.hid (HS.out.below hb27)
      replace HMK := Lib.hid (ext_trans HMK.out hb27)
      clear hb27
      go_wp2_with fail
      go_ret
      exact ⟨by simp, HS.out.bel⟩
 ·
  have hl70 : ps.length ≤ 70 := by omega
  obtain ⟨ba, bb, t5a, t5b, t64a, t64b, hab⟩ : ∃ ba bb : Bool, decide ((ps.length : Int) > 5) = ba ∧ decide (5 < ps.length) = ba ∧ decide ((ps.length : Int) ≤ 64) = bb ∧ decide (ps.length ≤ 64) = bb ∧ (ba = false ∨ (ba = true ∧ bb = false)) := by
   by_cases hq1 : 5 < ps.length
   ·
    exact ⟨true, false, decide_eq_true (by omega), decide_eq_true hq1, decide_eq_false (by omega), decide_eq_false (by omega), Or.inr ⟨rfl, rfl⟩⟩
   ·
    exact ⟨false, decide (ps.length ≤ 64), decide_eq_false (by omega), decide_eq_false hq1, by congr 1; exact propext ⟨fun h => by omega, fun h => by omega⟩, rfl, Or.inl rfl⟩
  have t70a : decide ((ps.length : Int) > 70) = false := decide_eq_false (by omega)
  have t70b : decide (70 < ps.length) = false := decide_eq_false (by omega)
  have tk1 : decide ((k : Int) > 40) = false := decide_eq_false (by omega)
  have tk2 : decide (40 < k) = false := decide_eq_false (by omega)
  have hwk : IntKind.i64.wrap (k : Int) = (k : Int) := IntWalk.i64_in _ (by omega)
  clear ha4 hb4
  rcases hab with rfl | ⟨rfl, rfl⟩
  all_goals
   go_enter Tryz.func3, Tryz.ntmps3
   go_wp2_with fail
   generalize hW28 : ((w).alloc (.cells _ _)).alloc (.cells _ _) = W28 at *
   replace HS := Lib.hid ((((HS.out).alloc (B := w.heap.size) rfl (by rfl)).alloc (B := w.heap.size + 1) (by simp) (by rfl)).to hW28 (by (try simp only [nb5, nb6]); rfl))
   clear hW28
   by_cases hll0 : 12 < fs.length
   ·
    have HLL0 := Lib.hid hll0
    refine (list12_long fs _ _ (HFS.out.below HS.out.bel) HLL0.out).mono ?_
    rintro e w29 ⟨rfl, hb29⟩
    replace HS := Lib.hid (HS.out.below hb29)
    clear hb29
    go_wp2_with fail
    refine (awake05_any _).mono ?_
    rintro e w30 ⟨rfl, hb30⟩
    replace HS := Lib.hid (HS.out.below hb30)
    clear hb30
    go_wp2_with fail
    go_ret
    exact ⟨by simp, HS.out.bel⟩
   ·
    have HFL : Hid (fs.length ≤ 12) := by show _ ≤ _; omega
    cases hlu : lightUp fs fs.length with
    | false =>
     refine (list12_heavy fs _ _ (HFS.out.below HS.out.bel) HFL.out hlu).mono ?_
     rintro e w31 ⟨rfl, hb31⟩
     replace HS := Lib.hid (HS.out.below hb31)
     clear hb31
     go_wp2_with fail
     refine (awake05_any _).mono ?_
     rintro e w32 ⟨rfl, hb32⟩
     replace HS := Lib.hid (HS.out.below hb32)
     clear hb32
     go_wp2_with fail
     go_ret
     exact ⟨by simp, HS.out.bel⟩
    | true =>
     refine (list12_any fs _ _ (HFS.out.below HS.out.bel) HFL.out HFR.out hlu).mono ?_
     rintro e w33 ⟨va, vb, rfl, hta, htb, hb33⟩
     have HTA := Lib.hid hta
     have HTB := Lib.hid htb
     clear hta htb
     replace HS := Lib.hid (HS.out.below hb33)
     clear hb33
     have HMK := Lib.hid (Below.refl w33.heap.size w33)
     have b0e := (HS.out.at 1 _ _ _ rfl)
     have b0c0 := blk_cell b0e 0 (.int .i64 sn) rfl
     have b0c1 := blk_cell b0e 1 (.int .i64 sd) rfl
     have b0f0 := blk_frozen b0e 0
     have b0f1 := blk_frozen b0e 1
     have b0l := blk_lt b0e
     clear b0e
     have b1e := (HS.out.at 0 _ _ _ rfl)
     have b1c0 := blk_cell b1e 0 (.int .i64 pn) rfl
     have b1c1 := blk_cell b1e 1 (.int .i64 pd) rfl
     have b1c2 := blk_cell b1e 2 (.int .i64 qn) rfl
     have b1c3 := blk_cell b1e 3 (.int .i64 qd) rfl
     have b1c4 := blk_cell b1e 4 (.int .i64 rn) rfl
     have b1c5 := blk_cell b1e 5 (.int .i64 rd) rfl
     have b1c6 := blk_cell b1e 6 (.int .i64 m) rfl
     have b1f0 := blk_frozen b1e 0
     have b1f1 := blk_frozen b1e 1
     have b1f2 := blk_frozen b1e 2
     have b1f3 := blk_frozen b1e 3
     have b1f4 := blk_frozen b1e 4
     have b1f5 := blk_frozen b1e 5
     have b1f6 := blk_frozen b1e 6
     have b1l := blk_lt b1e
     clear b1e
     go_wp2_with fail
     clear b0c0 b0c1 b0f0 b0f1 b0l b1c0 b1c1 b1c2 b1c3 b1c4 b1c5 b1c6 b1f0 b1f1 b1f2 b1f3 b1f4 b1f5 b1f6 b1l
     have HG35 : Hid (w33.heap.size ≤ w33.heap.size) := by first | exact HMK.out.size | (show _ ≤ _; have := HMK.out.size; omega)
     generalize hW34 : (w33).alloc (.cells _ _) = W34 at *
     replace HS := Lib.hid (((HS.out).alloc (B := w33.heap.size) rfl (by rfl)).to hW34 (by (try simp only [nb5, nb6]); rfl))
     replace HMK : Hid (Below w33.heap.size w33 W34) := by subst hW34; exact Lib.hid ((mk_alloc HMK.out))
     clear hW34
     cases t36 : lightUp [(sn, sd), (pn, pd), (qn, qd), (rn, rd)] 4 with
     | true =>
      refine (light4_any sn sd pn pd qn qd rn rd _ _ (pairs4 (HS.out.at 0 _ _ _ rfl))).mono ?_
      rw [t36]
      rintro e w37 ⟨rfl, hb37⟩
      replace HS := Lib.hid (HS.out.below hb37)
      replace HMK := Lib.hid (ext_trans HMK.out hb37)
      clear hb37
      go_wp2_with fail
      have HG := Lib.hid (((GsR.nil w w37 [(w33.heap.size, #[.int .i64 sn, .int .i64 sd, .int .i64 pn, .int .i64 pd, .int .i64 qn, .int .i64 qd, .int .i64 rn, .int .i64 rd], 24), (w.heap.size + 1, #[.int .i64 pn, .int .i64 pd, .int .i64 qn, .int .i64 qd, .int .i64 rn, .int .i64 rd, .int .i64 m], 27), (w.heap.size, #[.int .i64 sn, .int .i64 sd], 24)]).add 46 true 2).add 54 false 2)
      go_wp2_with fail
      go_loopw [66, 14, 15] (fun u66 u14 u15 wr => ∃ (i : Nat) (va1 : Value) (xa : List Value) (vb1 : Value) (xb : List Value), i ≤ ps.length ∧ u66 = .int .i64 i ∧ va1 = u14 ∧ vb1 = u15 ∧ Hid (∀ c, va1.ownBlock = some c → w33.heap.size ≤ c) ∧ Hid (∀ c, vb1.ownBlock = some c → w33.heap.size ≤ c) ∧ Hid (Sx w wr [(w33.heap.size, #[.int .i64 sn, .int .i64 sd, .int .i64 pn, .int .i64 pd, .int .i64 qn, .int .i64 qd, .int .i64 rn, .int .i64 rd], 24), (w.heap.size + 1, #[.int .i64 pn, .int .i64 pd, .int .i64 qn, .int .i64 qd, .int .i64 rn, .int .i64 rd, .int .i64 m], 27), (w.heap.size, #[.int .i64 sn, .int .i64 sd], 24)] []) ∧ Hid (GsR w wr [(w33.heap.size, #[.int .i64 sn, .int .i64 sd, .int .i64 pn, .int .i64 pd, .int .i64 qn, .int .i64 qd, .int .i64 rn, .int .i64 rd], 24), (w.heap.size + 1, #[.int .i64 pn, .int .i64 pd, .int .i64 qn, .int .i64 qd, .int .i64 rn, .int .i64 rd, .int .i64 m], 27), (w.heap.size, #[.int .i64 sn, .int .i64 sd], 24)] [⟨54, false, 2, vb1, xb, (rngsE (ps.take i))⟩, ⟨46, true, 2, va1, xa, (rngsE (ps.take i))⟩]) ∧ Hid (Below w33.heap.size w33 wr))
       (fun u _ _ _ => ps.length - (intOf u).toNat)
      case atStart => exact ⟨0, .slice none 0 0, [], .slice none 0 0, [], Nat.zero_le _, rfl, rfl, rfl, Lib.hid (fun c h => by cases h), Lib.hid (fun c h => by cases h), Lib.hid (HS.out.bare), HG, HMK⟩
      case round =>
       obtain ⟨wr38, hwr38⟩ : ∃ z, z = wr := ⟨_, rfl⟩
       subst hwr38
       clear HS HG HMK
       obtain ⟨i, va1, xa, vb1, xb, hi, rfl, rfl, rfl, HRBa, HRBb, HS, HG, HMK⟩ := hrel
       by_cases hlt : i < ps.length
       ·
        have hlt' : (i : Int) < ps.length := by omega
        have hge' : (0 : Int) ≤ i := by omega
        have HLT := Lib.hid hlt
        obtain ⟨bps, ops, rfl, hbps, hEE⟩ := HEps.out (by omega)
        have HBLps := Lib.hid hbps
        obtain ⟨g0, g1, g2, g3⟩ := hEE i hlt
        have HRW := Lib.hid (HRps.out i hlt)
        have HTK := Lib.hid (rngsE_take ps i hlt)
        have hln := rngsE_tlen ps i hi
        have E0 := Lib.hid g0
        have E1 := Lib.hid g1
        have E2 := Lib.hid g2
        have E3 := Lib.hid g3
        clear g0 g1 g2 g3 hEE hbps
        have HLO : Hid (lo4r (ps.getD i ((0, 0), (0, 0))) = loQ (fracQ (ps.getD i ((0, 0), (0, 0))).1.1 (ps.getD i ((0, 0), (0, 0))).1.2) (fracQ (ps.getD i ((0, 0), (0, 0))).2.1 (ps.getD i ((0, 0), (0, 0))).2.2)) := rfl
        have HHI : Hid (hi4r (ps.getD i ((0, 0), (0, 0))) = hiQ (fracQ (ps.getD i ((0, 0), (0, 0))).1.1 (ps.getD i ((0, 0), (0, 0))).1.2) (fracQ (ps.getD i ((0, 0), (0, 0))).2.1 (ps.getD i ((0, 0), (0, 0))).2.2)) := rfl
        obtain ⟨hr1, hr2⟩ := HRW.out
        have hr1 : i64P ((ps.getD i ((0, 0), (0, 0))).1.1, (ps.getD i ((0, 0), (0, 0))).1.2) := hr1
        have hr2 : i64P ((ps.getD i ((0, 0), (0, 0))).2.1, (ps.getD i ((0, 0), (0, 0))).2.2) := hr2
        generalize lo4r (ps.getD i ((0, 0), (0, 0))) = lo at *
        generalize hi4r (ps.getD i ((0, 0), (0, 0))) = hi2 at *
        generalize (ps.getD i ((0, 0), (0, 0))).1.1 = a0 at *
        generalize (ps.getD i ((0, 0), (0, 0))).1.2 = b0 at *
        generalize (ps.getD i ((0, 0), (0, 0))).2.1 = a1 at *
        generalize (ps.getD i ((0, 0), (0, 0))).2.2 = b1 at *
        have HRP : Hid (∀ W, Calls Tryz.prog 13 #[.agg #[.int .i64 a0, .int .i64 b0, .int .i64 a1, .int .i64 b1]] W (RetRng lo hi2 W)) := fun W => by rw [HLO.out, HHI.out]; exact lrange_any a0 b0 a1 b1 W hr1 hr2
        have HRQ : Hid (∀ W, Calls Tryz.prog 14 #[.agg #[.int .i64 a0, .int .i64 b0, .int .i64 a1, .int .i64 b1]] W (RetRngQ lo hi2 W)) := fun W => by rw [HLO.out, HHI.out]; exact refrange_any a0 b0 a1 b1 W hr1 hr2
        clear hr1 hr2 HLO HHI HRW hlt
        have Ec0 := (HS.out.bel.cell (p := ⟨bps, ops + i * 4, none⟩) HBLps.out).trans E0.out
        have Ec1 := (HS.out.bel.cell (p := ⟨bps, ops + i * 4 + 1, none⟩) HBLps.out).trans E1.out
        have Ec2 := (HS.out.bel.cell (p := ⟨bps, ops + i * 4 + 2, none⟩) HBLps.out).trans E2.out
        have Ec3 := (HS.out.bel.cell (p := ⟨bps, ops + i * 4 + 3, none⟩) HBLps.out).trans E3.out
        go_wp2_with fail
        clear Ec0 Ec1 Ec2 Ec3
        have HG40 : Hid (w33.heap.size ≤ wr38.heap.size) := by first | exact HMK.out.size | (show _ ≤ _; have := HMK.out.size; omega)
        generalize hW39 : (wr38).alloc (.cells _ _) = W39 at *
        replace HG := Lib.hid (((HG.out).alloc (B := wr38.heap.size) rfl).to hW39 (by (try simp only [nb5, nb6]); rfl))
        replace HS := Lib.hid (((HS.out).alloc (B := wr38.heap.size) rfl (by rfl)).to hW39 (by (try simp only [nb5, nb6]); rfl))
        replace HMK : Hid (Below w33.heap.size w33 W39) := by subst hW39; exact Lib.hid ((mk_alloc HMK.out))
        clear hW39
        cases t41 : lightUp [(a0, b0), (a1, b1)] 2 with
        | true =>
         refine (light2_any a0 b0 a1 b1 _ _ (pairsB (HS.out.at 0 _ _ _ rfl))).mono ?_
         rw [t41]
         rintro e w42 ⟨rfl, hb42⟩
         replace HS := Lib.hid (HS.out.below hb42)
         replace HMK := Lib.hid (ext_trans HMK.out hb42)
         replace HG := Lib.hid (HG.out.below hb42)
         clear hb42
         go_wp2_with fail
         refine wp_region_held_drew (S := (fun w' => Sx w w' [(wr38.heap.size, #[.int .i64 a0, .int .i64 b0, .int .i64 a1, .int .i64 b1], 37), (w33.heap.size, #[.int .i64 sn, .int .i64 sd, .int .i64 pn, .int .i64 pd, .int .i64 qn, .int .i64 qd, .int .i64 rn, .int .i64 rd], 24), (w.heap.size + 1, #[.int .i64 pn, .int .i64 pd, .int .i64 qn, .int .i64 qd, .int .i64 rn, .int .i64 rd, .int .i64 m], 27), (w.heap.size, #[.int .i64 sn, .int .i64 sd], 24)] [])) (by kernel_rfl) ((HS.out.drew).bare) (fun hh => ?_)
         replace HS := Lib.hid HS.out.drew
         replace HMK := Lib.hid (ext_trans HMK.out (Below.refl _ _).drew)
         replace HG := Lib.hid (HG.out.below (Below.refl _ _).drew)
         refine tkB (i := 0) (v := ?_) rfl ?_ ?_
         rotate_left
         ·
          intro u hSu; go_simp <;> with_reducible rfl
         try simp only [nbs, Act.put]
         refine tkB (i := 1) (v := ?_) rfl ?_ ?_
         rotate_left
         ·
          intro u hSu; (try dsimp only at hSu); have qb3e := (hSu.at 0 _ _ _ rfl); have qb3c0 := blk_cell qb3e 0 (.int .i64 a0) rfl; have qb3c1 := blk_cell qb3e 1 (.int .i64 b0) rfl; have qb3c2 := blk_cell qb3e 2 (.int .i64 a1) rfl; have qb3c3 := blk_cell qb3e 3 (.int .i64 b1) rfl; clear qb3e; clear hSu; go_simp <;> with_reducible rfl
         try simp only [nbs, Act.put]
         refine tkB (i := 6) (v := ?_) rfl ?_ ?_
         rotate_left
         ·
          intro u hSu; go_simp <;> with_reducible rfl
         try simp only [nbs, Act.put]
         refine tkB (i := 7) (v := ?_) rfl ?_ ?_
         rotate_left
         ·
          intro u hSu; (try dsimp only at hSu); have qb3e := (hSu.at 0 _ _ _ rfl); have qb3c0 := blk_cell qb3e 0 (.int .i64 a0) rfl; have qb3c1 := blk_cell qb3e 1 (.int .i64 b0) rfl; have qb3c2 := blk_cell qb3e 2 (.int .i64 a1) rfl; have qb3c3 := blk_cell qb3e 3 (.int .i64 b1) rfl; clear qb3e; clear hSu; go_simp <;> with_reducible rfl
         try simp only [nbs, Act.put]
         refine rdA (i := 2) rfl (fun K hK => ?_)
         go_simp
         go_wp2_with (go_at_call 13; (with_reducible refine (HRP.out _).mono ?_); rintro e w48 ⟨v48, rfl, ⟨z48a, z48b, rfl, hv48, hw48⟩, hb48⟩)
         refine hK.out _ _ (Sx.below hh hb48) (fun hh => ?_)
         clear hK K
         try simp only [nbs, Act.put]
         replace HS := Lib.hid (HS.out.below hb48)
         replace HMK := Lib.hid (ext_trans HMK.out hb48)
         replace HG := Lib.hid (HG.out.below hb48)
         clear hb48
         replace HS := Lib.hid (HS.out.addP hv48)
         clear hv48
         replace HS := Lib.hid (HS.out.addP hw48)
         clear hw48
         refine tkB (i := 3) (v := ?_) rfl ?_ ?_
         rotate_left
         ·
          intro u hSu; go_simp <;> with_reducible rfl
         try simp only [nbs, Act.put]
         refine rdA (i := 4) rfl (fun K hK => ?_)
         go_simp
         refine hK.out _ _ (Sx.below hh ((Below.refl _ _).alloc (Nat.le_refl _) _)) (fun hh => ?_)
         clear hK K
         try simp only [nbs, Act.put]
         have HG51 : Hid (w33.heap.size ≤ w48.heap.size) := by first | exact HMK.out.size | (show _ ≤ _; have := HMK.out.size; omega)
         generalize hW50 : (w48).alloc (.cells _ _) = W50 at *
         replace HS := Lib.hid ((HS.out.alloc (B := w48.heap.size) rfl (by rfl)).to hW50 rfl)
         replace HG := Lib.hid ((HG.out.alloc (B := w48.heap.size) rfl).to hW50 rfl)
         replace HMK : Hid (Below w33.heap.size w33 W50) := by subst hW50; exact Lib.hid (mk_alloc HMK.out)
         clear hW50
         refine rdA (i := 5) rfl (fun K hK => ?_)
         obtain ⟨ii52, hi52, hz52, hs52, hy52⟩ := info_parts inf_cure_Tool
         have hzd52 : ∀ u ∈ (Value.agg #[.bool false, .slice none 0 0, .slice none 0 0, .bool false, .slice none 0 0, .slice none 0 0]).cells.toList, noDig u := by
          intro u hu
          have hu : u ∈ [.bool false, .slice none 0 0, .slice none 0 0, .bool false, .slice none 0 0, .slice none 0 0] := hu
          simp only [List.mem_cons, List.not_mem_nil, or_false] at hu
          rcases hu with rfl | rfl | rfl | rfl | rfl | rfl
          all_goals first | exact noDig_bool _ | exact noDig_slice _ _ _
         refine step_append_lrow _ rfl (.tmp 74) (.tmp 78) 34 rfl w.heap.size 46 ii52 _ 6 112 Tryz.underlying34 hi52 hz52 hs52 hy52 rfl (by decide) hzd52 _ _ _ rfl (HG.out.row 1 _ rfl) ⟨w48.heap.size, 0, none⟩ 1 1 [.bool z48a.b, .slice z48a.a z48a.n z48a.c, .slice z48a.d z48a.m z48a.e, .bool z48b.b, .slice z48b.a z48b.n z48b.c, .slice z48b.d z48b.m z48b.e] rfl rfl (cells_blk (HS.out.at 0 _ _ _ rfl)) (by simp [Value.oneCell']) (by intro u hu; simp only [List.mem_cons, List.not_mem_nil, or_false] at hu; rcases hu with rfl | rfl | rfl | rfl | rfl | rfl; all_goals first | exact noDig_bool _ | exact noDig_slice _ _ _) (by omega) (by dsimp only; unfold maxLen; omega) (by dsimp only; omega) HS.out.bel.size ?_
         intro g52 cap52 w52 hL52 hgr52 hat52
         obtain ⟨hs52', hg52'⟩ := Sx.append HS.out HG.out 1 rfl [z48a, z48b] [lo, hi2] rfl (fun j x hx => by match j, hx with
           | 0, hx => (simp at hx; subst hx; exact (HS.out.p 1 _ _ rfl))
           | 1, hx => (simp at hx; subst hx; exact (HS.out.p 0 _ _ rfl))
           | j + 2, hx => simp at hx) hL52 hgr52 (by intro c hc; simp [Value.ownBlock] at hc; subst hc; first | exact hat52 | simpa using hat52)
         have HRBa' : Hid (∀ c, (Value.slice (some ⟨g52, 0, none⟩) (((rngsE (ps.take i))).length + 1) cap52).ownBlock = some c → w33.heap.size ≤ c) := fun c hc => by
          simp [Value.ownBlock] at hc
          subst hc
          rcases hat52 with h | h
          ·
           exact HRBa.out _ h
          ·
           rw [h]; exact HMK.out.size
         replace HMK := Lib.hid (Below.grown HMK.out hgr52 HMK.out.size HRBa.out)
         clear HRBa
         have HRBa := HRBa'
         clear HRBa'
         replace HS : Hid (Sx w w52 [(w48.heap.size, arr6 z48a z48b, 46), (wr38.heap.size, #[.int .i64 a0, .int .i64 b0, .int .i64 a1, .int .i64 b1], 37), (w33.heap.size, #[.int .i64 sn, .int .i64 sd, .int .i64 pn, .int .i64 pd, .int .i64 qn, .int .i64 qd, .int .i64 rn, .int .i64 rd], 24), (w.heap.size + 1, #[.int .i64 pn, .int .i64 pd, .int .i64 qn, .int .i64 qd, .int .i64 rn, .int .i64 rd, .int .i64 m], 27), (w.heap.size, #[.int .i64 sn, .int .i64 sd], 24)] [(true, z48b.val, hi2), (true, z48a.val, lo)]) := hs52'
         replace HG : Hid (GsR w w52 [(w48.heap.size, arr6 z48a z48b, 46), (wr38.heap.size, #[.int .i64 a0, .int .i64 b0, .int .i64 a1, .int .i64 b1], 37), (w33.heap.size, #[.int .i64 sn, .int .i64 sd, .int .i64 pn, .int .i64 pd, .int .i64 qn, .int .i64 qd, .int .i64 rn, .int .i64 rd], 24), (w.heap.size + 1, #[.int .i64 pn, .int .i64 pd, .int .i64 qn, .int .i64 qd, .int .i64 rn, .int .i64 rd, .int .i64 m], 27), (w.heap.size, #[.int .i64 sn, .int .i64 sd], 24)] [⟨54, false, 2, vb1, xb, (rngsE (ps.take i))⟩, ⟨46, true, 2, (.slice (some ⟨g52, 0, none⟩) ((rngsE (ps.take i)).length + 1) cap52), (xa ++ cellsR [z48a, z48b]), ((rngsE (ps.take i)) ++ [[lo, hi2]])⟩]) := hg52'
         clear hs52' hg52' hL52 hgr52 hat52 hzd52 hi52 hz52 hs52 hy52
         refine hK.out _ _ ((HS.out).erase 0) (fun hh => ?_)
         clear hK K
         try simp only [nbs, Act.put]
         refine rdA (i := 8) rfl (fun K hK => ?_)
         go_simp
         go_wp2_with (go_at_call 14; (with_reducible refine (HRQ.out _).mono ?_); rintro e w53 ⟨v53, rfl, ⟨z53a, z53b, rfl, hv53, hw53⟩, hb53⟩)
         refine hK.out _ _ (Sx.below hh hb53) (fun hh => ?_)
         clear hK K
         try simp only [nbs, Act.put]
         replace HS := Lib.hid (HS.out.below hb53)
         replace HMK := Lib.hid (ext_trans HMK.out hb53)
         replace HG := Lib.hid (HG.out.below hb53)
         clear hb53
         replace HS := Lib.hid (HS.out.addQ hv53)
         clear hv53
         replace HS := Lib.hid (HS.out.addQ hw53)
         clear hw53
         refine tkB (i := 9) (v := ?_) rfl ?_ ?_
         rotate_left
         ·
          intro u hSu; go_simp <;> with_reducible rfl
         try simp only [nbs, Act.put]
         refine rdA (i := 10) rfl (fun K hK => ?_)
         go_simp
         refine hK.out _ _ (Sx.below hh ((Below.refl _ _).alloc (Nat.le_refl _) _)) (fun hh => ?_)
         clear hK K
         try simp only [nbs, Act.put]
         have HG56 : Hid (w33.heap.size ≤ w53.heap.size) := by first | exact HMK.out.size | (show _ ≤ _; have := HMK.out.size; omega)
         generalize hW55 : (w53).alloc (.cells _ _) = W55 at *
         replace HS := Lib.hid ((HS.out.alloc (B := w53.heap.size) rfl (by rfl)).to hW55 rfl)
         replace HG := Lib.hid ((HG.out.alloc (B := w53.heap.size) rfl).to hW55 rfl)
         replace HMK : Hid (Below w33.heap.size w33 W55) := by subst hW55; exact Lib.hid (mk_alloc HMK.out)
         clear hW55
         refine rdA (i := 11) rfl (fun K hK => ?_)
         obtain ⟨ii57, hi57, hz57, hs57, hy57⟩ := info_parts inf_wingworksref05_Tool
         have hzd57 : ∀ u ∈ (Value.agg #[.bool false, .slice none 0 0, .slice none 0 0, .bool false, .slice none 0 0, .slice none 0 0]).cells.toList, noDig u := by
          intro u hu
          have hu : u ∈ [.bool false, .slice none 0 0, .slice none 0 0, .bool false, .slice none 0 0, .slice none 0 0] := hu
          simp only [List.mem_cons, List.not_mem_nil, or_false] at hu
          rcases hu with rfl | rfl | rfl | rfl | rfl | rfl
          all_goals first | exact noDig_bool _ | exact noDig_slice _ _ _
         refine step_append_lrow _ rfl (.tmp 80) (.tmp 84) 35 rfl w.heap.size 54 ii57 _ 6 112 Tryz.underlying35 hi57 hz57 hs57 hy57 rfl (by decide) hzd57 _ _ _ rfl (HG.out.row 0 _ rfl) ⟨w53.heap.size, 0, none⟩ 1 1 [.bool z53a.b, .slice z53a.a z53a.n z53a.c, .slice z53a.d z53a.m z53a.e, .bool z53b.b, .slice z53b.a z53b.n z53b.c, .slice z53b.d z53b.m z53b.e] rfl rfl (cells_blk (HS.out.at 0 _ _ _ rfl)) (by simp [Value.oneCell']) (by intro u hu; simp only [List.mem_cons, List.not_mem_nil, or_false] at hu; rcases hu with rfl | rfl | rfl | rfl | rfl | rfl; all_goals first | exact noDig_bool _ | exact noDig_slice _ _ _) (by omega) (by dsimp only; unfold maxLen; omega) (by dsimp only; omega) HS.out.bel.size ?_
         intro g57 cap57 w57 hL57 hgr57 hat57
         obtain ⟨hs57', hg57'⟩ := Sx.append HS.out HG.out 0 rfl [z53a, z53b] [lo, hi2] rfl (fun j x hx => by match j, hx with
           | 0, hx => (simp at hx; subst hx; exact (HS.out.q 1 _ _ rfl))
           | 1, hx => (simp at hx; subst hx; exact (HS.out.q 0 _ _ rfl))
           | j + 2, hx => simp at hx) hL57 hgr57 (by intro c hc; simp [Value.ownBlock] at hc; subst hc; first | exact hat57 | simpa using hat57)
         have HRBb' : Hid (∀ c, (Value.slice (some ⟨g57, 0, none⟩) (((rngsE (ps.take i))).length + 1) cap57).ownBlock = some c → w33.heap.size ≤ c) := fun c hc => by
          simp [Value.ownBlock] at hc
          subst hc
          rcases hat57 with h | h
          ·
           exact HRBb.out _ h
          ·
           rw [h]; exact HMK.out.size
         replace HMK := Lib.hid (Below.grown HMK.out hgr57 HMK.out.size HRBb.out)
         clear HRBb
         have HRBb := HRBb'
         clear HRBb'
         replace HS : Hid (Sx w w57 [(w53.heap.size, arr6 z53a z53b, 54), (w48.heap.size, arr6 z48a z48b, 46), (wr38.heap.size, #[.int .i64 a0, .int .i64 b0, .int .i64 a1, .int .i64 b1], 37), (w33.heap.size, #[.int .i64 sn, .int .i64 sd, .int .i64 pn, .int .i64 pd, .int .i64 qn, .int .i64 qd, .int .i64 rn, .int .i64 rd], 24), (w.heap.size + 1, #[.int .i64 pn, .int .i64 pd, .int .i64 qn, .int .i64 qd, .int .i64 rn, .int .i64 rd, .int .i64 m], 27), (w.heap.size, #[.int .i64 sn, .int .i64 sd], 24)] [(false, z53b.val, hi2), (false, z53a.val, lo), (true, z48b.val, hi2), (true, z48a.val, lo)]) := hs57'
         replace HG : Hid (GsR w w57 [(w53.heap.size, arr6 z53a z53b, 54), (w48.heap.size, arr6 z48a z48b, 46), (wr38.heap.size, #[.int .i64 a0, .int .i64 b0, .int .i64 a1, .int .i64 b1], 37), (w33.heap.size, #[.int .i64 sn, .int .i64 sd, .int .i64 pn, .int .i64 pd, .int .i64 qn, .int .i64 qd, .int .i64 rn, .int .i64 rd], 24), (w.heap.size + 1, #[.int .i64 pn, .int .i64 pd, .int .i64 qn, .int .i64 qd, .int .i64 rn, .int .i64 rd, .int .i64 m], 27), (w.heap.size, #[.int .i64 sn, .int .i64 sd], 24)] [⟨54, false, 2, (.slice (some ⟨g57, 0, none⟩) ((rngsE (ps.take i)).length + 1) cap57), (xb ++ cellsR [z53a, z53b]), ((rngsE (ps.take i)) ++ [[lo, hi2]])⟩, ⟨46, true, 2, (.slice (some ⟨g52, 0, none⟩) ((rngsE (ps.take i)).length + 1) cap52), (xa ++ cellsR [z48a, z48b]), ((rngsE (ps.take i)) ++ [[lo, hi2]])⟩]) := hg57'
         clear hs57' hg57' hL57 hgr57 hat57 hzd57 hi57 hz57 hs57 hy57
         refine hK.out _ _ (((HS.out).erase 1).erase 0) (fun hh => ?_)
         clear hK K
         try simp only [nbs, Act.put]
         refine tkB (i := 12) (v := ?_) rfl ?_ ?_
         rotate_left
         ·
          intro u hSu; go_simp <;> with_reducible rfl
         try simp only [nbs, Act.put]
         refine tkB (i := 13) (v := ?_) rfl ?_ ?_
         rotate_left
         ·
          intro u hSu; go_simp <;> with_reducible rfl
         try simp only [nbs, Act.put]
         refine wpAnyH_done (by kernel_rfl) ?_ _
         go_wp2_with fail
         exact ⟨⟨i + 1, (.slice (some ⟨g52, 0, none⟩) ((rngsE (ps.take i)).length + 1) cap52), (xa ++ cellsR [z48a, z48b]), (.slice (some ⟨g57, 0, none⟩) ((rngsE (ps.take i)).length + 1) cap57), (xb ++ cellsR [z53a, z53b]), by have := HLT.out; omega, by go_num, by first | rfl | rw [hln], by first | rfl | rw [hln], HRBa, HRBb, Lib.hid ((((HS.out).erase 0).erase 0).erase 0), Lib.hid (by rw [HTK.out]; exact HG.out.mono (fun b hb => ⟨b, by simp only [List.mem_cons] at hb ⊢; first | exact hb | (repeat (first | exact hb | right)), rfl⟩)), HMK⟩, meas_up HLT.out⟩
        | false =>
         refine (light2_any a0 b0 a1 b1 _ _ (pairsB (HS.out.at 0 _ _ _ rfl))).mono ?_
         rw [t41]
         rintro e w60 ⟨rfl, hb60⟩
         replace HS := Lib.hid (HS.out.below hb60)
         replace HMK := Lib.hid (ext_trans HMK.out hb60)
         replace HG := Lib.hid (HG.out.below hb60)
         clear hb60
         go_wp2_with fail
         refine (awake05_any _).mono ?_
         rintro e w61 ⟨rfl, hb61⟩
         replace HS := Lib.hid (HS.out.below hb61)
         replace HMK := Lib.hid (ext_trans HMK.out hb61)
         replace HG := Lib.hid (HG.out.below hb61)
         clear hb61
         go_wp2_with fail
         go_ret
         exact ⟨by simp, HS.out.bel⟩
       ·
        obtain rfl : i = ps.length := by omega
        rw [List.take_length] at HG
        have b1e := (HS.out.at 1 _ _ _ rfl)
        have b1c0 := blk_cell b1e 0 (.int .i64 pn) rfl
        have b1c1 := blk_cell b1e 1 (.int .i64 pd) rfl
        have b1c2 := blk_cell b1e 2 (.int .i64 qn) rfl
        have b1c3 := blk_cell b1e 3 (.int .i64 qd) rfl
        have b1c4 := blk_cell b1e 4 (.int .i64 rn) rfl
        have b1c5 := blk_cell b1e 5 (.int .i64 rd) rfl
        have b1c6 := blk_cell b1e 6 (.int .i64 m) rfl
        have b1f0 := blk_frozen b1e 0
        have b1f1 := blk_frozen b1e 1
        have b1f2 := blk_frozen b1e 2
        have b1f3 := blk_frozen b1e 3
        have b1f4 := blk_frozen b1e 4
        have b1f5 := blk_frozen b1e 5
        have b1f6 := blk_frozen b1e 6
        have b1l := blk_lt b1e
        clear b1e
        go_wp2_with fail
        clear b1c0 b1c1 b1c2 b1c3 b1c4 b1c5 b1c6 b1f0 b1f1 b1f2 b1f3 b1f4 b1f5 b1f6 b1l
        refine (HND.out _).mono ?_
        rintro e w62 ⟨y62a, y62b, y62c, y62d, y62e, y62f, rfl, ⟨hy62a, hy62b, hy62c⟩, ⟨hy62d, hy62e, hy62f⟩, hb62⟩
        unfold needV
        replace HS := Lib.hid (HS.out.below hb62)
        replace HMK := Lib.hid (ext_trans HMK.out hb62)
        replace HG := Lib.hid (HG.out.below hb62)
        clear hb62
        replace HS := Lib.hid (HS.out.addP hy62a)
        clear hy62a
        replace HS := Lib.hid (HS.out.addP hy62b)
        clear hy62b
        replace HS := Lib.hid (HS.out.addP hy62c)
        clear hy62c
        replace HS := Lib.hid (HS.out.addQ hy62d)
        clear hy62d
        replace HS := Lib.hid (HS.out.addQ hy62e)
        clear hy62e
        replace HS := Lib.hid (HS.out.addQ hy62f)
        clear hy62f
        go_wp2_with fail
        have HG64 : Hid (w33.heap.size ≤ w62.heap.size) := by first | exact HMK.out.size | (show _ ≤ _; have := HMK.out.size; omega)
        have HG65 : Hid (w33.heap.size ≤ w62.heap.size + 1) := by first | exact HMK.out.size | (show _ ≤ _; have := HMK.out.size; omega)
        generalize hW63 : ((w62).alloc (.cells _ _)).alloc (.cells _ _) = W63 at *
        replace HG := Lib.hid ((((HG.out).alloc (B := w62.heap.size) rfl).alloc (B := w62.heap.size + 1) (by simp)).to hW63 (by (try simp only [nb5, nb6]); rfl))
        replace HS := Lib.hid ((((HS.out).alloc (B := w62.heap.size) rfl (by rfl)).alloc (B := w62.heap.size + 1) (by simp) (by rfl)).to hW63 (by (try simp only [nb5, nb6]); rfl))
        replace HMK : Hid (Below w33.heap.size w33 W63) := by subst hW63; exact Lib.hid ((mk_alloc (mk_alloc HMK.out)))
        clear hW63
        refine wp_region_held_drew (S := (fun w' => Sx w w' [(w62.heap.size + 1, #[.bool y62d.b, .slice y62d.a y62d.n y62d.c, .slice y62d.d y62d.m y62d.e, .bool y62e.b, .slice y62e.a y62e.n y62e.c, .slice y62e.d y62e.m y62e.e, .bool y62f.b, .slice y62f.a y62f.n y62f.c, .slice y62f.d y62f.m y62f.e, .int .i64 m], 58), (w62.heap.size, #[.bool y62a.b, .slice y62a.a y62a.n y62a.c, .slice y62a.d y62a.m y62a.e, .bool y62b.b, .slice y62b.a y62b.n y62b.c, .slice y62b.d y62b.m y62b.e, .bool y62c.b, .slice y62c.a y62c.n y62c.c, .slice y62c.d y62c.m y62c.e, .int .i64 m], 56), (w33.heap.size, #[.int .i64 sn, .int .i64 sd, .int .i64 pn, .int .i64 pd, .int .i64 qn, .int .i64 qd, .int .i64 rn, .int .i64 rd], 24), (w.heap.size + 1, #[.int .i64 pn, .int .i64 pd, .int .i64 qn, .int .i64 qd, .int .i64 rn, .int .i64 rd, .int .i64 m], 27), (w.heap.size, #[.int .i64 sn, .int .i64 sd], 24)] [])) (by kernel_rfl) ((HS.out.drew).bare) (fun hh => ?_)
        replace HS := Lib.hid HS.out.drew
        replace HMK := Lib.hid (ext_trans HMK.out (Below.refl _ _).drew)
        replace HG := Lib.hid (HG.out.below (Below.refl _ _).drew)
        refine tkB (i := 0) (v := ?_) rfl ?_ ?_
        rotate_left
        ·
         intro u hSu; go_simp <;> with_reducible rfl
        try simp only [nbs, Act.put]
        refine tkB (i := 1) (v := ?_) rfl ?_ ?_
        rotate_left
        ·
         intro u hSu; (try dsimp only at hSu); have qb0e := (hSu.at 4 _ _ _ rfl); have qb0c0 := blk_cell qb0e 0 (.int .i64 sn) rfl; have qb0c1 := blk_cell qb0e 1 (.int .i64 sd) rfl; clear qb0e; clear hSu; go_simp <;> with_reducible rfl
        try simp only [nbs, Act.put]
        refine tkB (i := 3) (v := ?_) rfl ?_ ?_
        rotate_left
        ·
         intro u hSu; go_simp <;> with_reducible rfl
        try simp only [nbs, Act.put]
        refine tkB (i := 4) (v := ?_) rfl ?_ ?_
        rotate_left
        ·
         intro u hSu; (try dsimp only at hSu); have qb3e := (hSu.at 1 _ _ _ rfl); have qb3c0 := blk_cell qb3e 0 (.bool y62a.b) rfl; have qb3c1 := blk_cell qb3e 1 (.slice y62a.a y62a.n y62a.c) rfl; have qb3c2 := blk_cell qb3e 2 (.slice y62a.d y62a.m y62a.e) rfl; have qb3c3 := blk_cell qb3e 3 (.bool y62b.b) rfl; have qb3c4 := blk_cell qb3e 4 (.slice y62b.a y62b.n y62b.c) rfl; have qb3c5 := blk_cell qb3e 5 (.slice y62b.d y62b.m y62b.e) rfl; have qb3c6 := blk_cell qb3e 6 (.bool y62c.b) rfl; have qb3c7 := blk_cell qb3e 7 (.slice y62c.a y62c.n y62c.c) rfl; have qb3c8 := blk_cell qb3e 8 (.slice y62c.d y62c.m y62c.e) rfl; have qb3c9 := blk_cell qb3e 9 (.int .i64 m) rfl; clear qb3e; clear hSu; go_simp <;> with_reducible rfl
        try simp only [nbs, Act.put]
        refine tkB (i := 5) (v := ?_) rfl ?_ ?_
        rotate_left
        ·
         intro u hSu; go_simp <;> with_reducible rfl
        try simp only [nbs, Act.put]
        refine tkB (i := 6) (v := ?_) rfl ?_ ?_
        rotate_left
        ·
         intro u hSu; go_simp <;> with_reducible rfl
        try simp only [nbs, Act.put]
        refine rdA (i := 2) rfl (fun K hK => ?_)
        go_simp
        go_wp2_with (go_at_call 17; (with_reducible refine (ofN_any sn sd _ HST.out).mono ?_); rintro e w73 ⟨v73, rfl, hv73, hb73⟩; obtain ⟨z73, rfl⟩ := hv73.open3)
        refine hK.out _ _ (Sx.below hh hb73) (fun hh => ?_)
        clear hK K
        try simp only [nbs, Act.put]
        replace HS := Lib.hid (HS.out.below hb73)
        replace HMK := Lib.hid (ext_trans HMK.out hb73)
        replace HG := Lib.hid (HG.out.below hb73)
        clear hb73
        replace HS := Lib.hid (HS.out.addP hv73)
        clear hv73
        refine rdA (i := 7) rfl (fun K hK => ?_)
        go_simp
        have a75 := HS.out.p 0 _ _ rfl
        have a76 := HS.out.p 6 _ _ rfl
        have a77 := HS.out.p 5 _ _ rfl
        have a78 := HS.out.p 4 _ _ rfl
        go_wp2_with (go_at_call 16; (with_reducible refine (HAP.out _ _ _ _ y62a y62b y62c HFL.out (RecsOf.ofRow (HG.out.row 1 _ rfl) (HG.out.mean 1 _ rfl)) a75 (HTA.out.bP HMK.out) a76 a77 a78).mono ?_); rintro e w74 ⟨rfl, hb74⟩)
        refine hK.out _ _ (Sx.below hh hb74) (fun hh => ?_)
        clear hK K
        try simp only [nbs, Act.put]
        replace HS := Lib.hid (HS.out.below hb74)
        replace HMK := Lib.hid (ext_trans HMK.out hb74)
        replace HG := Lib.hid (HG.out.below hb74)
        clear hb74 a75 a76 a77 a78
        refine tkB (i := 8) (v := ?_) rfl ?_ ?_
        rotate_left
        ·
         intro u hSu; go_simp <;> with_reducible rfl
        try simp only [nbs, Act.put]
        refine tkB (i := 9) (v := ?_) rfl ?_ ?_
        rotate_left
        ·
         intro u hSu; go_simp <;> with_reducible rfl
        try simp only [nbs, Act.put]
        refine tkB (i := 10) (v := ?_) rfl ?_ ?_
        rotate_left
        ·
         intro u hSu; go_simp <;> with_reducible rfl
        try simp only [nbs, Act.put]
        refine tkB (i := 11) (v := ?_) rfl ?_ ?_
        rotate_left
        ·
         intro u hSu; go_simp <;> with_reducible rfl
        try simp only [nbs, Act.put]
        refine tkB (i := 12) (v := ?_) rfl ?_ ?_
        rotate_left
        ·
         intro u hSu; go_simp <;> with_reducible rfl
        try simp only [nbs, Act.put]
        refine wpAnyH_done (by kernel_rfl) ?_ _
        go_wp2_with fail
        refine wp_region_held_drew (S := (fun w' => Sx w w' [(w62.heap.size + 1, #[.bool y62d.b, .slice y62d.a y62d.n y62d.c, .slice y62d.d y62d.m y62d.e, .bool y62e.b, .slice y62e.a y62e.n y62e.c, .slice y62e.d y62e.m y62e.e, .bool y62f.b, .slice y62f.a y62f.n y62f.c, .slice y62f.d y62f.m y62f.e, .int .i64 m], 58), (w62.heap.size, #[.bool y62a.b, .slice y62a.a y62a.n y62a.c, .slice y62a.d y62a.m y62a.e, .bool y62b.b, .slice y62b.a y62b.n y62b.c, .slice y62b.d y62b.m y62b.e, .bool y62c.b, .slice y62c.a y62c.n y62c.c, .slice y62c.d y62c.m y62c.e, .int .i64 m], 56), (w33.heap.size, #[.int .i64 sn, .int .i64 sd, .int .i64 pn, .int .i64 pd, .int .i64 qn, .int .i64 qd, .int .i64 rn, .int .i64 rd], 24), (w.heap.size + 1, #[.int .i64 pn, .int .i64 pd, .int .i64 qn, .int .i64 qd, .int .i64 rn, .int .i64 rd, .int .i64 m], 27), (w.heap.size, #[.int .i64 sn, .int .i64 sd], 24)] [])) (by kernel_rfl) ((HS.out.drew).bare) (fun hh => ?_)
        replace HS := Lib.hid HS.out.drew
        replace HMK := Lib.hid (ext_trans HMK.out (Below.refl _ _).drew)
        replace HG := Lib.hid (HG.out.below (Below.refl _ _).drew)
        refine tkB (i := 0) (v := ?_) rfl ?_ ?_
        rotate_left
        ·
         intro u hSu; go_simp <;> with_reducible rfl
        try simp only [nbs, Act.put]
        refine tkB (i := 1) (v := ?_) rfl ?_ ?_
        rotate_left
        ·
         intro u hSu; (try dsimp only at hSu); have qb0e := (hSu.at 4 _ _ _ rfl); have qb0c0 := blk_cell qb0e 0 (.int .i64 sn) rfl; have qb0c1 := blk_cell qb0e 1 (.int .i64 sd) rfl; clear qb0e; clear hSu; go_simp <;> with_reducible rfl
        try simp only [nbs, Act.put]
        refine tkB (i := 3) (v := ?_) rfl ?_ ?_
        rotate_left
        ·
         intro u hSu; go_simp <;> with_reducible rfl
        try simp only [nbs, Act.put]
        refine tkB (i := 4) (v := ?_) rfl ?_ ?_
        rotate_left
        ·
         intro u hSu; (try dsimp only at hSu); have qb4e := (hSu.at 0 _ _ _ rfl); have qb4c0 := blk_cell qb4e 0 (.bool y62d.b) rfl; have qb4c1 := blk_cell qb4e 1 (.slice y62d.a y62d.n y62d.c) rfl; have qb4c2 := blk_cell qb4e 2 (.slice y62d.d y62d.m y62d.e) rfl; have qb4c3 := blk_cell qb4e 3 (.bool y62e.b) rfl; have qb4c4 := blk_cell qb4e 4 (.slice y62e.a y62e.n y62e.c) rfl; have qb4c5 := blk_cell qb4e 5 (.slice y62e.d y62e.m y62e.e) rfl; have qb4c6 := blk_cell qb4e 6 (.bool y62f.b) rfl; have qb4c7 := blk_cell qb4e 7 (.slice y62f.a y62f.n y62f.c) rfl; have qb4c8 := blk_cell qb4e 8 (.slice y62f.d y62f.m y62f.e) rfl; have qb4c9 := blk_cell qb4e 9 (.int .i64 m) rfl; clear qb4e; clear hSu; go_simp <;> with_reducible rfl
        try simp only [nbs, Act.put]
        refine tkB (i := 5) (v := ?_) rfl ?_ ?_
        rotate_left
        ·
         intro u hSu; go_simp <;> with_reducible rfl
        try simp only [nbs, Act.put]
        refine tkB (i := 6) (v := ?_) rfl ?_ ?_
        rotate_left
        ·
         intro u hSu; go_simp <;> with_reducible rfl
        try simp only [nbs, Act.put]
        refine rdA (i := 2) rfl (fun K hK => ?_)
        go_simp
        go_wp2_with (go_at_call 19; (with_reducible refine (qofN_any sn sd _ HST.out).mono ?_); rintro e w91 ⟨v91, rfl, hv91, hb91⟩; obtain ⟨z91, rfl⟩ := hv91.open3)
        refine hK.out _ _ (Sx.below hh hb91) (fun hh => ?_)
        clear hK K
        try simp only [nbs, Act.put]
        replace HS := Lib.hid (HS.out.below hb91)
        replace HMK := Lib.hid (ext_trans HMK.out hb91)
        replace HG := Lib.hid (HG.out.below hb91)
        clear hb91
        replace HS := Lib.hid (HS.out.addQ hv91)
        clear hv91
        refine rdA (i := 7) rfl (fun K hK => ?_)
        go_simp
        have a93 := HS.out.q 0 _ _ rfl
        have a94 := HS.out.q 4 _ _ rfl
        have a95 := HS.out.q 3 _ _ rfl
        have a96 := HS.out.q 2 _ _ rfl
        go_wp2_with (go_at_call 18; (with_reducible refine (HAQ.out _ _ _ _ y62d y62e y62f HFL.out (RecsOf.ofRow (HG.out.row 0 _ rfl) (HG.out.mean 0 _ rfl)) a93 (HTB.out.bQ HMK.out) a94 a95 a96).mono ?_); rintro e w92 ⟨rfl, hb92⟩)
        refine hK.out _ _ (Sx.below hh hb92) (fun hh => ?_)
        clear hK K
        try simp only [nbs, Act.put]
        replace HS := Lib.hid (HS.out.below hb92)
        replace HMK := Lib.hid (ext_trans HMK.out hb92)
        replace HG := Lib.hid (HG.out.below hb92)
        clear hb92 a93 a94 a95 a96
        refine tkB (i := 8) (v := ?_) rfl ?_ ?_
        rotate_left
        ·
         intro u hSu; go_simp <;> with_reducible rfl
        try simp only [nbs, Act.put]
        refine tkB (i := 9) (v := ?_) rfl ?_ ?_
        rotate_left
        ·
         intro u hSu; go_simp <;> with_reducible rfl
        try simp only [nbs, Act.put]
        refine tkB (i := 10) (v := ?_) rfl ?_ ?_
        rotate_left
        ·
         intro u hSu; go_simp <;> with_reducible rfl
        try simp only [nbs, Act.put]
        refine tkB (i := 11) (v := ?_) rfl ?_ ?_
        rotate_left
        ·
         intro u hSu; go_simp <;> with_reducible rfl
        try simp only [nbs, Act.put]
        refine tkB (i := 12) (v := ?_) rfl ?_ ?_
        rotate_left
        ·
         intro u hSu; go_simp <;> with_reducible rfl
        try simp only [nbs, Act.put]
        refine wpAnyH_done (by kernel_rfl) ?_ _
        go_wp2_with fail
        refine (awake05_any _).mono ?_
        rintro e w102 ⟨rfl, hb102⟩
        replace HS := Lib.hid (HS.out.below hb102)
        replace HMK := Lib.hid (ext_trans HMK.out hb102)
        replace HG := Lib.hid (HG.out.below hb102)
        clear hb102
        go_wp2_with fail
        go_ret
        exact ⟨by simp, HS.out.bel⟩
     | false =>
      refine (light4_any sn sd pn pd qn qd rn rd _ _ (pairs4 (HS.out.at 0 _ _ _ rfl))).mono ?_
      rw [t36]
      rintro e w103 ⟨rfl, hb103⟩
      replace HS := Lib.hid (HS.out.below hb103)
      replace HMK := Lib.hid (ext_trans HMK.out hb103)
      clear hb103
      go_wp2_with fail
      refine (awake05_any _).mono ?_
      rintro e w104 ⟨rfl, hb104⟩
      replace HS := Lib.hid (HS.out.below hb104)
      replace HMK := Lib.hid (ext_trans HMK.out hb104)
      clear hb104
      go_wp2_with fail
      go_ret
      exact ⟨by simp, HS.out.bel⟩
end Go.Proofs.YtfjcccpibhhncaaGreat
