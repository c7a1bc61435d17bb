/- Part h of the lemmas and walks. -/
import Derived.Test.YthdgeindjphklaaGreatFg

namespace Go.Proofs.YthdgeindjphklaaGreat
open Go.RowKit

theorem mtPre_sz {S : Rat} {ts : List (List Rat)} (hS : szR S 1000) (h : ∀ i j, szR ((ts.getD i []).getD j 0) 1000) : ∀ i, szR (mtPre S ts i) 1000
 | 0 => hS
 | i + 1 => h i 0
theorem flT_len {qs : List (List Rat)} (er : Int) : (flT qs er).length ≤ qs.length := by
 unfold flT
 split
 ·
  exact Nat.le_refl _
 ·
  exact Nat.zero_le _
def meErr (l0 l1 : Rat) (n : Nat) (le mo ri : Rat) (m : Int) : Int := if flErr l0 l1 n ≠ 0 then flErr l0 l1 n else ndErr le mo ri m
def meOf (S le mo ri : Rat) (m : Int) (ts : List (List Rat)) (er : Int) : Bool := if er = 0 then mtOf S le mo ri m ts else false
def RetBE (b : Bool) (er : Int) (w : World) (e : Ending) (w' : World) : Prop := e = .returned (.tuple #[.bool b, .int .i64 er]) ∧ Below w.heap.size w w'
set_option maxRecDepth 100000 in
set_option maxHeartbeats 8000000 in
theorem nmeets_any (S le mo ri : Rat) (m : Int) (ts : List (List Rat)) (y1 y2 y3 : R3) (vS vt : Value) (w : World) (h1 : IsRat w y1.val le) (h2 : IsRat w y2.val mo) (h3 : IsRat w y3.val ri) (hS : IsRat w vS S) (ht : RecsOf true 2 w vt ts) (hl : ts.length ≤ 300) (s1 : szR le 1000) (s2 : szR mo 1000) (s3 : szR ri 1000) (sS : szR S 1000) (sT : ∀ i j, szR ((ts.getD i []).getD j 0) 1000) :
  Calls Tryz.prog 88 #[.agg #[.bool y1.b, .slice y1.a y1.n y1.c, .slice y1.d y1.m y1.e, .bool y2.b, .slice y2.a y2.n y2.c, .slice y2.d y2.m y2.e, .bool y3.b, .slice y3.a y3.n y3.c, .slice y3.d y3.m y3.e, .int .i64 m], vS, vt] w (RetBool (mtOf S le mo ri m ts) w) := by
 obtain ⟨x3, rfl⟩ := hS.open3
 have HS := Lib.hid (((((Sx.init w).addP h1).addP h2).addP h3).addP hS)
 have SE := Lib.hid s1
 have SM := Lib.hid s2
 have SI := Lib.hid s3
 have SS := Lib.hid sS
 have HZT := Lib.hid sT
 obtain ⟨ao, cap, rfl, hE⟩ := ht
 have HE := Lib.hid hE
 clear h1 h2 h3 hS s1 s2 s3 sS sT hE
 go_enter Tryz.func88, Tryz.ntmps88
 go_wp2_with fail
 generalize hW1 : (((w).alloc (.cells _ _)).alloc (.cells _ _)).alloc (.cells _ _) = W1 at *
 replace HS := Lib.hid (((((HS.out).alloc (B := w.heap.size) rfl (by rfl)).alloc (B := w.heap.size + 1) (by simp) (by rfl)).alloc (B := w.heap.size + 2) (by simp) (by rfl)).to hW1 (by (try simp only [nb5, nb6]); rfl))
 clear hW1
 go_wp2_with fail
 go_loopw [15, 8, 9] (fun u15 u8 u9 wr => ∃ (i : Nat) (ah0 : R3), i ≤ ts.length ∧ u15 = .int .i64 i ∧ u8 = .int .i64 ((mtNow le ts i : Nat) : Int) ∧ u9 = .int .i64 ((mtBest le ts i : Nat) : Int) ∧ Hid (mtOk S mo ri ts i = true) ∧ Hid (Sx w wr [(w.heap.size + 2, ah0.arr, 34), (w.heap.size + 1, x3.arr, 34), (w.heap.size, #[.bool y1.b, .slice y1.a y1.n y1.c, .slice y1.d y1.m y1.e, .bool y2.b, .slice y2.a y2.n y2.c, .slice y2.d y2.m y2.e, .bool y3.b, .slice y3.a y3.n y3.c, .slice y3.d y3.m y3.e, .int .i64 m], 65)] [(true, ah0.val, (mtPre S ts i)), (true, x3.val, S), (true, y3.val, ri), (true, y2.val, mo), (true, y1.val, le)]))
  (fun u _ _ _ => ts.length - (intOf u).toNat)
 case atStart => exact ⟨0, x3, Nat.zero_le _, rfl, rfl, rfl, Lib.hid rfl, Lib.hid ((((((HS.out.bare).addP (HS.out.p 3 _ _ rfl)).addP (HS.out.p 2 _ _ rfl)).addP (HS.out.p 1 _ _ rfl)).addP (HS.out.p 0 _ _ rfl)).addP (HS.out.p 0 _ _ rfl))⟩
 case round =>
  obtain ⟨wr2, hwr2⟩ : ∃ z, z = wr := ⟨_, rfl⟩
  subst hwr2
  clear HS
  obtain ⟨i, ah0, hi, rfl, rfl, rfl, HOK, HS⟩ := hrel
  by_cases hlt : i < ts.length
  ·
   have hlt' : (i : Int) < ts.length := by omega
   have hge' : (0 : Int) ≤ i := by omega
   have HLT := Lib.hid hlt
   obtain ⟨b, off, rfl, hbl, hEE⟩ := HE.out (by omega)
   have HBL := Lib.hid hbl
   have hnw := mtNow_le le ts i
   have hbt := mtBest_le le ts i
   obtain ⟨Tx, Tg0, Tg1, Tg2, Thx⟩ := hEE i hlt 0 (by omega)
   have T0 : Hid (w.cell? ⟨b, off + i * 6, none⟩ = some (.bool Tx.b)) := Tg0
   have T1 : Hid (w.cell? ⟨b, off + i * 6 + 1, none⟩ = some (.slice Tx.a Tx.n Tx.c)) := Tg1
   have T2 : Hid (w.cell? ⟨b, off + i * 6 + 2, none⟩ = some (.slice Tx.d Tx.m Tx.e)) := Tg2
   clear Tg0 Tg1 Tg2
   obtain ⟨Ty, Tg0, Tg1, Tg2, Thy⟩ := hEE i hlt 1 (by omega)
   have T3 : Hid (w.cell? ⟨b, off + i * 6 + 3, none⟩ = some (.bool Ty.b)) := Tg0
   have T4 : Hid (w.cell? ⟨b, off + i * 6 + 4, none⟩ = some (.slice Ty.a Ty.n Ty.c)) := Tg1
   have T5 : Hid (w.cell? ⟨b, off + i * 6 + 5, none⟩ = some (.slice Ty.d Ty.m Ty.e)) := Tg2
   clear Tg0 Tg1 Tg2
   replace HS := Lib.hid ((HS.out.addP (Fr.below Thx HS.out.bel)).addP (Fr.below Thy HS.out.bel))
   clear Thx Thy hbl hEE
   have SH0 := Lib.hid (HZT.out i 0)
   have SH1 := Lib.hid (HZT.out i 1)
   have SAH := Lib.hid (mtPre_sz SS.out HZT.out i)
   have HN1 : Hid (mtNow le ts (i + 1) = if cmpR ((ts.getD i []).getD 0 0) le < 0 then 0 else mtNow le ts i + 1) := rfl
   have HB1 : Hid (mtBest le ts (i + 1) = max (mtBest le ts i) (mtNow le ts (i + 1))) := rfl
   have HP1 : Hid (mtPre S ts (i + 1) = (ts.getD i []).getD 0 0) := rfl
   have HBD : Hid (mtBad S mo ri ts i = (decide (cmpR ((ts.getD i []).getD 1 0) mo > 0) || decide (cmpR ((ts.getD i []).getD 1 0 - mtPre S ts i) ri > 0))) := rfl
   have HO1 : Hid (mtOk S mo ri ts (i + 1) = (mtOk S mo ri ts i && !mtBad S mo ri ts i)) := rfl
   generalize mtNow le ts i = nw at *
   generalize mtBest le ts i = bt at *
   generalize mtPre S ts i = ah at *
   generalize (ts.getD i []).getD 0 0 = h0 at *
   generalize (ts.getD i []).getD 1 0 = h1 at *
   obtain ⟨n1, hn1⟩ : ∃ j, j = nw + 1 := ⟨_, rfl⟩
   have HQ1 := Lib.hid hn1
   have hw1 : IntKind.i64.wrap ((nw : Int) + 1) = (n1 : Int) := (IntWalk.i64_in _ (by omega)).trans (by omega)
   clear hn1 hlt
   have Tc0 := (HS.out.bel.cell (p := ⟨b, off + i * 6, none⟩) HBL.out).trans T0.out
   have Tc1 := (HS.out.bel.cell (p := ⟨b, off + i * 6 + 1, none⟩) HBL.out).trans T1.out
   have Tc2 := (HS.out.bel.cell (p := ⟨b, off + i * 6 + 2, none⟩) HBL.out).trans T2.out
   have Tc3 := (HS.out.bel.cell (p := ⟨b, off + i * 6 + 3, none⟩) HBL.out).trans T3.out
   have Tc4 := (HS.out.bel.cell (p := ⟨b, off + i * 6 + 4, none⟩) HBL.out).trans T4.out
   have Tc5 := (HS.out.bel.cell (p := ⟨b, off + i * 6 + 5, none⟩) HBL.out).trans T5.out
   go_wp2_with fail
   clear Tc0 Tc1 Tc2 Tc3 Tc4 Tc5
   generalize hW3 : (wr2).alloc (.cells _ _) = W3 at *
   replace HS := Lib.hid (((HS.out).alloc (B := wr2.heap.size) rfl (by rfl)).to hW3 (by (try simp only [nb5, nb6]); rfl))
   clear hW3
   refine wp_region_held_drew (S := (fun w' => Sx w w' [(wr2.heap.size, arr6 Tx Ty, 36), (w.heap.size + 2, ah0.arr, 34), (w.heap.size + 1, x3.arr, 34), (w.heap.size, #[.bool y1.b, .slice y1.a y1.n y1.c, .slice y1.d y1.m y1.e, .bool y2.b, .slice y2.a y2.n y2.c, .slice y2.d y2.m y2.e, .bool y3.b, .slice y3.a y3.n y3.c, .slice y3.d y3.m y3.e, .int .i64 m], 65)] [])) (by kernel_rfl) ((HS.out.drew).bare) (fun hh => ?_)
   replace HS := Lib.hid HS.out.drew
   refine tkB (i := 0) (v := ?vk5) rfl ?hk5 ?rk5
   case hk5 => intro u hSu; (try dsimp only at hSu); obtain ⟨qb3c0, qb3c1, qb3c2, qb3c3, qb3c4, qb3c5, _⟩ := fac6 (x := Tx) (y := Ty) (hSu.at 0 _ _ _ rfl); clear hSu; go_simp <;> with_reducible rfl
   try simp only [nbs, Act.put]
   refine tkB (i := 2) (v := ?vk6) rfl ?hk6 ?rk6
   case hk6 => intro u hSu; go_simp <;> with_reducible rfl
   try simp only [nbs, Act.put]
   refine tkB (i := 3) (v := ?vk7) rfl ?hk7 ?rk7
   case hk7 => intro u hSu; (try dsimp only at hSu); have qb0e := (hSu.at 3 _ _ _ rfl); have qb0c0 := blk_cell qb0e 0 (.bool y1.b) rfl; have qb0c1 := blk_cell qb0e 1 (.slice y1.a y1.n y1.c) rfl; have qb0c2 := blk_cell qb0e 2 (.slice y1.d y1.m y1.e) rfl; have qb0c3 := blk_cell qb0e 3 (.bool y2.b) rfl; have qb0c4 := blk_cell qb0e 4 (.slice y2.a y2.n y2.c) rfl; have qb0c5 := blk_cell qb0e 5 (.slice y2.d y2.m y2.e) rfl; have qb0c6 := blk_cell qb0e 6 (.bool y3.b) rfl; have qb0c7 := blk_cell qb0e 7 (.slice y3.a y3.n y3.c) rfl; have qb0c8 := blk_cell qb0e 8 (.slice y3.d y3.m y3.e) rfl; have qb0c9 := blk_cell qb0e 9 (.int .i64 m) rfl; clear qb0e; clear hSu; go_simp <;> with_reducible rfl
   try simp only [nbs, Act.put]
   refine rdA (i := 1) rfl (fun K hK => ?_)
   go_simp
   have a9 := HS.out.p 1 _ _ rfl
   have a10 := HS.out.p 0 _ _ rfl
   go_wp2_with (go_at_call 80; (with_reducible refine (rhi_any h0 h1 _ _ (rngP a9 a10)).mono ?_); rintro e w8 ⟨v8, rfl, hv8, hb8⟩; obtain ⟨z8, rfl⟩ := hv8.open3)
   refine hK.out _ _ (Sx.below hh hb8) (fun hh => ?_)
   clear hK K
   try simp only [nbs, Act.put]
   replace HS := Lib.hid (HS.out.below hb8)
   clear hb8 a9 a10
   replace HS := Lib.hid (HS.out.addP hv8)
   clear hv8
   refine rdA (i := 4) rfl (fun K hK => ?_)
   go_simp
   obtain ⟨c11, hc11⟩ : ∃ κ, κ = cmpR h1 mo := ⟨_, rfl⟩
   have HC11 := Lib.hid hc11
   clear hc11
   have a12 := HS.out.p 0 _ _ rfl
   have a13 := HS.out.p 6 _ _ rfl
   go_wp2_with (go_at_call 57; (with_reducible refine (cmpRat_any h1 mo _ _ _ a12 a13 (szR_mono SH1.out (by omega)) (szR_mono SM.out (by omega))).mono ?_); rw [← HC11.out]; rintro e w11 ⟨rfl, hb11⟩)
   refine hK.out _ _ (Sx.below hh hb11) (fun hh => ?_)
   clear hK K
   try simp only [nbs, Act.put]
   replace HS := Lib.hid (HS.out.below hb11)
   clear hb11 a12 a13
   by_cases t14p : c11 > 0
   ·
    have t14 : decide (c11 > 0) = true := decide_eq_true t14p
    have T14 := Lib.hid t14p
    clear t14p
    refine tkB (i := 5) (v := ?vk15) rfl ?hk15 ?rk15
    case hk15 => intro u hSu; go_simp <;> with_reducible rfl
    try simp only [nbs, Act.put]
    refine tkB (i := 6) (v := ?vk16) rfl ?hk16 ?rk16
    case hk16 => intro u hSu; go_simp <;> with_reducible rfl
    try simp only [nbs, Act.put]
    refine tkC (i := 7) rfl ?_
    try simp only [nbs, Act.put]
    refine tkC (i := 8) rfl ?_
    try simp only [nbs, Act.put]
    refine tkC (i := 9) rfl ?_
    try simp only [nbs, Act.put]
    refine tkC (i := 10) rfl ?_
    try simp only [nbs, Act.put]
    refine tkC (i := 11) rfl ?_
    try simp only [nbs, Act.put]
    refine tkC (i := 12) rfl ?_
    try simp only [nbs, Act.put]
    refine tkC (i := 13) rfl ?_
    try simp only [nbs, Act.put]
    refine tkC (i := 14) rfl ?_
    try simp only [nbs, Act.put]
    refine tkB (i := 15) (v := ?vk17) rfl ?hk17 ?rk17
    case hk17 => intro u hSu; go_simp <;> with_reducible rfl
    try simp only [nbs, Act.put]
    refine wpAnyH_done (by kernel_rfl) ?_ _
    go_wp2_with fail
    have HNB : Hid (mtBad S mo ri ts i = true) := Lib.hid (by first | (rw [HBD.out]; simp only [← HC11.out, t14, Bool.and_true, Bool.true_and, Bool.and_false, Bool.false_and, Bool.or_true, Bool.true_or, Bool.or_false, Bool.false_or, Bool.not_true, Bool.not_false, cond_true, cond_false]) | (rw [HBD.out]; simp [← HC11.out, t14]))
    have HR : Hid (mtOf S le mo ri m ts = false) := by show _ = _; unfold mtOf; rw [mtOk_no HNB.out HLT.out]; rfl
    go_ret
    exact ⟨by rw [HR.out] <;> rfl, HS.out.bel⟩
   ·
    have t14 : decide (c11 > 0) = false := decide_eq_false t14p
    have T14 := Lib.hid t14p
    clear t14p
    refine tkB (i := 5) (v := ?vk18) rfl ?hk18 ?rk18
    case hk18 => intro u hSu; go_simp <;> with_reducible rfl
    try simp only [nbs, Act.put]
    refine tkB (i := 6) (v := ?vk19) rfl ?hk19 ?rk19
    case hk19 => intro u hSu; go_simp <;> with_reducible rfl
    try simp only [nbs, Act.put]
    refine tkB (i := 7) (v := ?vk20) rfl ?hk20 ?rk20
    case hk20 => intro u hSu; (try dsimp only at hSu); obtain ⟨qb3c0, qb3c1, qb3c2, qb3c3, qb3c4, qb3c5, _⟩ := fac6 (x := Tx) (y := Ty) (hSu.at 0 _ _ _ rfl); clear hSu; go_simp <;> with_reducible rfl
    try simp only [nbs, Act.put]
    refine tkB (i := 9) (v := ?vk21) rfl ?hk21 ?rk21
    case hk21 => intro u hSu; (try dsimp only at hSu); obtain ⟨qb2c0, qb2c1, qb2c2, _⟩ := fac3 (x := ah0) (hSu.at 1 _ _ _ rfl); clear hSu; go_simp <;> with_reducible rfl
    try simp only [nbs, Act.put]
    refine tkB (i := 11) (v := ?vk22) rfl ?hk22 ?rk22
    case hk22 => intro u hSu; go_simp <;> with_reducible rfl
    try simp only [nbs, Act.put]
    refine tkB (i := 12) (v := ?vk23) rfl ?hk23 ?rk23
    case hk23 => intro u hSu; (try dsimp only at hSu); have qb0e := (hSu.at 3 _ _ _ rfl); have qb0c0 := blk_cell qb0e 0 (.bool y1.b) rfl; have qb0c1 := blk_cell qb0e 1 (.slice y1.a y1.n y1.c) rfl; have qb0c2 := blk_cell qb0e 2 (.slice y1.d y1.m y1.e) rfl; have qb0c3 := blk_cell qb0e 3 (.bool y2.b) rfl; have qb0c4 := blk_cell qb0e 4 (.slice y2.a y2.n y2.c) rfl; have qb0c5 := blk_cell qb0e 5 (.slice y2.d y2.m y2.e) rfl; have qb0c6 := blk_cell qb0e 6 (.bool y3.b) rfl; have qb0c7 := blk_cell qb0e 7 (.slice y3.a y3.n y3.c) rfl; have qb0c8 := blk_cell qb0e 8 (.slice y3.d y3.m y3.e) rfl; have qb0c9 := blk_cell qb0e 9 (.int .i64 m) rfl; clear qb0e; clear hSu; go_simp <;> with_reducible rfl
    try simp only [nbs, Act.put]
    refine rdA (i := 8) rfl (fun K hK => ?_)
    go_simp
    have a25 := HS.out.p 2 _ _ rfl
    have a26 := HS.out.p 1 _ _ rfl
    go_wp2_with (go_at_call 80; (with_reducible refine (rhi_any h0 h1 _ _ (rngP a25 a26)).mono ?_); rintro e w24 ⟨v24, rfl, hv24, hb24⟩; obtain ⟨z24, rfl⟩ := hv24.open3)
    refine hK.out _ _ (Sx.below hh hb24) (fun hh => ?_)
    clear hK K
    try simp only [nbs, Act.put]
    replace HS := Lib.hid (HS.out.below hb24)
    clear hb24 a25 a26
    replace HS := Lib.hid (HS.out.addP hv24)
    clear hv24
    refine rdA (i := 10) rfl (fun K hK => ?_)
    go_simp
    have a28 := HS.out.p 0 _ _ rfl
    have a29 := HS.out.p 4 _ _ rfl
    go_wp2_with (go_at_call 48; (with_reducible refine (subRat_any h1 ah _ _ _ a28 a29 (szR_mono SH1.out (by omega)) (szR_mono SAH.out (by omega))).mono ?_); rintro e w27 ⟨v27, rfl, hv27, hb27⟩; obtain ⟨z27, rfl⟩ := hv27.open3)
    refine hK.out _ _ (Sx.below hh hb27) (fun hh => ?_)
    clear hK K
    try simp only [nbs, Act.put]
    replace HS := Lib.hid (HS.out.below hb27)
    clear hb27 a28 a29
    replace HS := Lib.hid (HS.out.addP hv27)
    clear hv27
    refine rdA (i := 13) rfl (fun K hK => ?_)
    go_simp
    obtain ⟨c30, hc30⟩ : ∃ κ, κ = cmpR (h1 - ah) ri := ⟨_, rfl⟩
    have HC30 := Lib.hid hc30
    clear hc30
    have a31 := HS.out.p 0 _ _ rfl
    have a32 := HS.out.p 7 _ _ rfl
    go_wp2_with (go_at_call 57; (with_reducible refine (cmpRat_any (h1 - ah) ri _ _ _ a31 a32 (szR_mono (szR_sub SH1.out SAH.out) (by omega)) (szR_mono SI.out (by omega))).mono ?_); rw [← HC30.out]; rintro e w30 ⟨rfl, hb30⟩)
    refine hK.out _ _ (Sx.below hh hb30) (fun hh => ?_)
    clear hK K
    try simp only [nbs, Act.put]
    replace HS := Lib.hid (HS.out.below hb30)
    clear hb30 a31 a32
    by_cases t33p : c30 > 0
    ·
     have t33 : decide (c30 > 0) = true := decide_eq_true t33p
     have T33 := Lib.hid t33p
     clear t33p
     refine tkB (i := 14) (v := ?vk34) rfl ?hk34 ?rk34
     case hk34 => intro u hSu; go_simp <;> with_reducible rfl
     try simp only [nbs, Act.put]
     refine tkB (i := 15) (v := ?vk35) rfl ?hk35 ?rk35
     case hk35 => intro u hSu; go_simp <;> with_reducible rfl
     try simp only [nbs, Act.put]
     refine wpAnyH_done (by kernel_rfl) ?_ _
     go_wp2_with fail
     have HNB : Hid (mtBad S mo ri ts i = true) := Lib.hid (by first | (rw [HBD.out]; simp only [← HC11.out, ← HC30.out, t14, t33, Bool.and_true, Bool.true_and, Bool.and_false, Bool.false_and, Bool.or_true, Bool.true_or, Bool.or_false, Bool.false_or, Bool.not_true, Bool.not_false, cond_true, cond_false]) | (rw [HBD.out]; simp [← HC11.out, ← HC30.out, t14, t33]))
     have HR : Hid (mtOf S le mo ri m ts = false) := by show _ = _; unfold mtOf; rw [mtOk_no HNB.out HLT.out]; rfl
     go_ret
     exact ⟨by rw [HR.out] <;> rfl, HS.out.bel⟩
    ·
     have t33 : decide (c30 > 0) = false := decide_eq_false t33p
     have T33 := Lib.hid t33p
     clear t33p
     refine tkB (i := 14) (v := ?vk36) rfl ?hk36 ?rk36
     case hk36 => intro u hSu; go_simp <;> with_reducible rfl
     try simp only [nbs, Act.put]
     refine tkB (i := 15) (v := ?vk37) rfl ?hk37 ?rk37
     case hk37 => intro u hSu; go_simp <;> with_reducible rfl
     try simp only [nbs, Act.put]
     refine wpAnyH_done (by kernel_rfl) ?_ _
     obtain ⟨b3c0, b3c1, b3c2, b3c3, b3c4, b3c5, b3f0, b3f1, b3f2, b3f3, b3f4, b3f5⟩ := fac6 (x := Tx) (y := Ty) (HS.out.at 0 _ _ _ rfl)
     have b3l := blk_lt (HS.out.at 0 _ _ _ rfl)
     go_wp2_with fail
     clear b3c0 b3c1 b3c2 b3c3 b3c4 b3c5 b3f0 b3f1 b3f2 b3f3 b3f4 b3f5 b3l
     refine (rlo_any h0 h1 _ _ (rngP (HS.out.p 4 _ _ rfl) (HS.out.p 3 _ _ rfl))).mono ?_
     rintro e w38 ⟨v38, rfl, hv38, hb38⟩
     obtain ⟨z38, rfl⟩ := hv38.open3
     replace HS := Lib.hid (HS.out.below hb38)
     clear hb38
     replace HS := Lib.hid (HS.out.addP hv38)
     clear hv38
     obtain ⟨b2c0, b2c1, b2c2, b2f0, b2f1, b2f2⟩ := fac3 (x := ah0) (HS.out.at 1 _ _ _ rfl)
     have b2l := blk_lt (HS.out.at 1 _ _ _ rfl)
     have b0e := (HS.out.at 3 _ _ _ rfl)
     have b0c0 := blk_cell b0e 0 (.bool y1.b) rfl
     have b0c1 := blk_cell b0e 1 (.slice y1.a y1.n y1.c) rfl
     have b0c2 := blk_cell b0e 2 (.slice y1.d y1.m y1.e) rfl
     have b0c3 := blk_cell b0e 3 (.bool y2.b) rfl
     have b0c4 := blk_cell b0e 4 (.slice y2.a y2.n y2.c) rfl
     have b0c5 := blk_cell b0e 5 (.slice y2.d y2.m y2.e) rfl
     have b0c6 := blk_cell b0e 6 (.bool y3.b) rfl
     have b0c7 := blk_cell b0e 7 (.slice y3.a y3.n y3.c) rfl
     have b0c8 := blk_cell b0e 8 (.slice y3.d y3.m y3.e) rfl
     have b0c9 := blk_cell b0e 9 (.int .i64 m) rfl
     have b0f0 := blk_frozen b0e 0
     have b0f1 := blk_frozen b0e 1
     have b0f2 := blk_frozen b0e 2
     have b0f3 := blk_frozen b0e 3
     have b0f4 := blk_frozen b0e 4
     have b0f5 := blk_frozen b0e 5
     have b0f6 := blk_frozen b0e 6
     have b0f7 := blk_frozen b0e 7
     have b0f8 := blk_frozen b0e 8
     have b0f9 := blk_frozen b0e 9
     have b0l := blk_lt b0e
     clear b0e
     go_wp2_with fail
     clear b2c0 b2c1 b2c2 b2f0 b2f1 b2f2 b2l b0c0 b0c1 b0c2 b0c3 b0c4 b0c5 b0c6 b0c7 b0c8 b0c9 b0f0 b0f1 b0f2 b0f3 b0f4 b0f5 b0f6 b0f7 b0f8 b0f9 b0l
     generalize hW39 : (((w38).setCell _ _).setCell _ _).setCell _ _ = W39 at *
     replace HS := Lib.hid (((HS.out).st_R 1 ah0 z38 rfl).to hW39 (by (try simp only [nb5, nb6]); rfl))
     clear hW39
     obtain ⟨c40, hc40⟩ : ∃ κ, κ = cmpR h0 le := ⟨_, rfl⟩
     have HC40 := Lib.hid hc40
     clear hc40
     refine (cmpRat_any h0 le _ _ _ (HS.out.p 0 _ _ rfl) (HS.out.p 10 _ _ rfl) (szR_mono SH0.out (by omega)) (szR_mono SE.out (by omega))).mono ?_
     rw [← HC40.out]
     rintro e w40 ⟨rfl, hb40⟩
     replace HS := Lib.hid (HS.out.below hb40)
     clear hb40
     by_cases t41p : c40 < 0
     ·
      have t41 : decide (c40 < 0) = true := decide_eq_true t41p
      have T41 := Lib.hid t41p
      clear t41p
      go_wp2_with fail
      have HNB : Hid (mtBad S mo ri ts i = false) := Lib.hid (by first | (rw [HBD.out]; simp only [← HC11.out, ← HC30.out, ← HC40.out, t14, t33, t41, Bool.and_true, Bool.true_and, Bool.and_false, Bool.false_and, Bool.or_true, Bool.true_or, Bool.or_false, Bool.false_or, Bool.not_true, Bool.not_false, cond_true, cond_false]) | (rw [HBD.out]; simp [← HC11.out, ← HC30.out, ← HC40.out, t14, t33, t41]))
      have HNW : Hid (mtNow le ts (i + 1) = 0) := HN1.out.trans (if_pos (by rw [← HC40.out]; have := T41.out; omega))
      exact ⟨⟨i + 1, z38, by have := HLT.out; omega, by go_num, (by rw [HNW.out] <;> first | rfl | go_num), (by rw [HB1.out, HNW.out] <;> first | rfl | (congr 1; omega) | go_num), (by show _ = _; rw [HO1.out, HOK.out, HNB.out]; rfl), Lib.hid (((((((HS.out).erase 0).addP (HS.out.p 10 _ _ rfl)).addP (HS.out.p 9 _ _ rfl)).addP (HS.out.p 8 _ _ rfl)).addP (HS.out.p 7 _ _ rfl)).addP (by rw [HP1.out]; exact (HS.out.p 0 _ _ rfl)))⟩, meas_up HLT.out⟩
     ·
      have t41 : decide (c40 < 0) = false := decide_eq_false t41p
      have T41 := Lib.hid t41p
      clear t41p
      go_wp2_with fail
      have HNB : Hid (mtBad S mo ri ts i = false) := Lib.hid (by first | (rw [HBD.out]; simp only [← HC11.out, ← HC30.out, ← HC40.out, t14, t33, t41, Bool.and_true, Bool.true_and, Bool.and_false, Bool.false_and, Bool.or_true, Bool.true_or, Bool.or_false, Bool.false_or, Bool.not_true, Bool.not_false, cond_true, cond_false]) | (rw [HBD.out]; simp [← HC11.out, ← HC30.out, ← HC40.out, t14, t33, t41]))
      have HNW : Hid (mtNow le ts (i + 1) = n1) := (HN1.out.trans (if_neg (by rw [← HC40.out]; have := T41.out; omega))).trans HQ1.out.symm
      exact ⟨⟨i + 1, z38, by have := HLT.out; omega, by go_num, (by rw [HNW.out] <;> first | rfl | go_num), (by rw [HB1.out, HNW.out] <;> first | rfl | (congr 1; omega) | go_num), (by show _ = _; rw [HO1.out, HOK.out, HNB.out]; rfl), Lib.hid (((((((HS.out).erase 0).addP (HS.out.p 10 _ _ rfl)).addP (HS.out.p 9 _ _ rfl)).addP (HS.out.p 8 _ _ rfl)).addP (HS.out.p 7 _ _ rfl)).addP (by rw [HP1.out]; exact (HS.out.p 0 _ _ rfl)))⟩, meas_up HLT.out⟩
  ·
   obtain rfl : i = ts.length := by omega
   have b0e := (HS.out.at 2 _ _ _ rfl)
   have b0c0 := blk_cell b0e 0 (.bool y1.b) rfl
   have b0c1 := blk_cell b0e 1 (.slice y1.a y1.n y1.c) rfl
   have b0c2 := blk_cell b0e 2 (.slice y1.d y1.m y1.e) rfl
   have b0c3 := blk_cell b0e 3 (.bool y2.b) rfl
   have b0c4 := blk_cell b0e 4 (.slice y2.a y2.n y2.c) rfl
   have b0c5 := blk_cell b0e 5 (.slice y2.d y2.m y2.e) rfl
   have b0c6 := blk_cell b0e 6 (.bool y3.b) rfl
   have b0c7 := blk_cell b0e 7 (.slice y3.a y3.n y3.c) rfl
   have b0c8 := blk_cell b0e 8 (.slice y3.d y3.m y3.e) rfl
   have b0c9 := blk_cell b0e 9 (.int .i64 m) rfl
   have b0f0 := blk_frozen b0e 0
   have b0f1 := blk_frozen b0e 1
   have b0f2 := blk_frozen b0e 2
   have b0f3 := blk_frozen b0e 3
   have b0f4 := blk_frozen b0e 4
   have b0f5 := blk_frozen b0e 5
   have b0f6 := blk_frozen b0e 6
   have b0f7 := blk_frozen b0e 7
   have b0f8 := blk_frozen b0e 8
   have b0f9 := blk_frozen b0e 9
   have b0l := blk_lt b0e
   clear b0e
   go_wp2_with fail
   clear b0c0 b0c1 b0c2 b0c3 b0c4 b0c5 b0c6 b0c7 b0c8 b0c9 b0f0 b0f1 b0f2 b0f3 b0f4 b0f5 b0f6 b0f7 b0f8 b0f9 b0l
   have HR : Hid (mtOf S le mo ri m ts = decide (m ≤ ((mtBest le ts ts.length : Nat) : Int))) := by show _ = _; unfold mtOf; rw [HOK.out, Bool.true_and]
   go_ret
   exact ⟨by rw [HR.out] <;> rfl, HS.out.bel⟩
set_option maxRecDepth 100000 in
set_option maxHeartbeats 8000000 in
theorem pmeets_any (l0 l1 S le mo ri : Rat) (m : Int) (aq : List Rat) (k : Nat) (hk : k ≤ 256) (z : Int) (hz : min (max z 0) 256 = (k : Int)) (y1 y2 y3 : R3) (vx vS va : Value) (w : World) (hx : IsRng w vx l0 l1) (hS : IsRat w vS S) (ha : FrcsOf IsRat w va aq) (h1 : IsRat w y1.val le) (h2 : IsRat w y2.val mo) (h3 : IsRat w y3.val ri) (hl : aq.length ≤ 300) (s0 : szR l0 1000) (s1 : szR l1 1000) (sS : szR S 1000) (sa : ∀ i, szR (aq.getD i 0) 1000) (s4 : szR le 1000) (s5 : szR mo 1000) (s6 : szR ri 1000) (sF : flErr l0 l1 aq.length = 0 → ∀ i, szR (flUp S l0 l1 k aq i).1 1000 ∧ szR (flUp S l0 l1 k aq i).2 1000) (sT : flErr l0 l1 aq.length = 0 → ∀ i j, szR (((flR S l0 l1 k aq aq.length).getD i []).getD j 0) 1000) :
  Calls Tryz.prog 26 #[vx, vS, va, .agg #[.bool y1.b, .slice y1.a y1.n y1.c, .slice y1.d y1.m y1.e, .bool y2.b, .slice y2.a y2.n y2.c, .slice y2.d y2.m y2.e, .bool y3.b, .slice y3.a y3.n y3.c, .slice y3.d y3.m y3.e, .int .i64 m], .int .i64 z] w (RetBE (meOf S le mo ri m (flR S l0 l1 k aq aq.length) (meErr l0 l1 aq.length le mo ri m)) (meErr l0 l1 aq.length le mo ri m) w) := by
 obtain ⟨x1, x2, rfl, hx1, hx2⟩ := hx
 obtain ⟨x3, rfl⟩ := hS.open3
 have HS := Lib.hid (((((((Sx.init w).addP hx1).addP hx2).addP hS).addP h1).addP h2).addP h3)
 have SL0 := Lib.hid s0
 have SL1 := Lib.hid s1
 have SS := Lib.hid sS
 have SE := Lib.hid s4
 have SM := Lib.hid s5
 have SI := Lib.hid s6
 have HZA := Lib.hid sa
 have HZF0 := Lib.hid sF
 have HZT := Lib.hid sT
 have HK := Lib.hid hk
 have HZK := Lib.hid hz
 have HA := Lib.hid ha
 have HLE := Lib.hid hl
 obtain ⟨aa, ca, rfl, _⟩ := ha
 clear hx1 hx2 hS h1 h2 h3 s0 s1 sS s4 s5 s6 sa sF sT hk hz hl
 go_enter Tryz.func26, Tryz.ntmps26
 go_wp2_with fail
 generalize hW1 : (((w).alloc (.cells _ _)).alloc (.cells _ _)).alloc (.cells _ _) = W1 at *
 replace HS := Lib.hid (((((HS.out).alloc (B := w.heap.size) rfl (by rfl)).alloc (B := w.heap.size + 1) (by simp) (by rfl)).alloc (B := w.heap.size + 2) (by simp) (by rfl)).to hW1 (by (try simp only [nb5, nb6]); rfl))
 clear hW1
 by_cases hz2 : flErr l0 l1 aq.length = 0
 ·
  have HZ2 := Lib.hid hz2
  clear hz2
  refine (tcheck_any l0 l1 aq.length _ _ _ _ (rngP (HS.out.p 5 _ _ rfl) (HS.out.p 4 _ _ rfl)) SL1.out).mono ?_
  rw [HZ2.out]
  rintro e w3 ⟨rfl, hb3⟩
  replace HS := Lib.hid (HS.out.below hb3)
  clear hb3
  have b2e := (HS.out.at 0 _ _ _ rfl)
  have b2c0 := blk_cell b2e 0 (.bool y1.b) rfl
  have b2c1 := blk_cell b2e 1 (.slice y1.a y1.n y1.c) rfl
  have b2c2 := blk_cell b2e 2 (.slice y1.d y1.m y1.e) rfl
  have b2c3 := blk_cell b2e 3 (.bool y2.b) rfl
  have b2c4 := blk_cell b2e 4 (.slice y2.a y2.n y2.c) rfl
  have b2c5 := blk_cell b2e 5 (.slice y2.d y2.m y2.e) rfl
  have b2c6 := blk_cell b2e 6 (.bool y3.b) rfl
  have b2c7 := blk_cell b2e 7 (.slice y3.a y3.n y3.c) rfl
  have b2c8 := blk_cell b2e 8 (.slice y3.d y3.m y3.e) rfl
  have b2c9 := blk_cell b2e 9 (.int .i64 m) rfl
  have b2f0 := blk_frozen b2e 0
  have b2f1 := blk_frozen b2e 1
  have b2f2 := blk_frozen b2e 2
  have b2f3 := blk_frozen b2e 3
  have b2f4 := blk_frozen b2e 4
  have b2f5 := blk_frozen b2e 5
  have b2f6 := blk_frozen b2e 6
  have b2f7 := blk_frozen b2e 7
  have b2f8 := blk_frozen b2e 8
  have b2f9 := blk_frozen b2e 9
  have b2l := blk_lt b2e
  clear b2e
  go_wp2_with fail
  clear b2c0 b2c1 b2c2 b2c3 b2c4 b2c5 b2c6 b2c7 b2c8 b2c9 b2f0 b2f1 b2f2 b2f3 b2f4 b2f5 b2f6 b2f7 b2f8 b2f9 b2l
  by_cases hz4 : ndErr le mo ri m = 0
  ·
   have HZ4 := Lib.hid hz4
   clear hz4
   refine (ncheck_any le mo ri m y1 y2 y3 _ (HS.out.p 2 _ _ rfl) (HS.out.p 1 _ _ rfl) (HS.out.p 0 _ _ rfl) SE.out SM.out SI.out).mono ?_
   rw [HZ4.out]
   rintro e w5 ⟨rfl, hb5⟩
   replace HS := Lib.hid (HS.out.below hb5)
   clear hb5
   go_wp2_with fail
   have HFE : Hid (flErr l0 l1 aq.length = 0) := HZ2.out
   refine wp_region_held_drew (S := (fun w' => Sx w w' [(w.heap.size + 2, #[.bool y1.b, .slice y1.a y1.n y1.c, .slice y1.d y1.m y1.e, .bool y2.b, .slice y2.a y2.n y2.c, .slice y2.d y2.m y2.e, .bool y3.b, .slice y3.a y3.n y3.c, .slice y3.d y3.m y3.e, .int .i64 m], 65), (w.heap.size + 1, x3.arr, 34), (w.heap.size, arr6 x1 x2, 61)] [])) (by kernel_rfl) ((HS.out.drew).bare) (fun hh => ?_)
   replace HS := Lib.hid HS.out.drew
   refine tkB (i := 0) (v := ?vk7) rfl ?hk7 ?rk7
   case hk7 => intro u hSu; (try dsimp only at hSu); have qb2e := (hSu.at 0 _ _ _ rfl); have qb2c0 := blk_cell qb2e 0 (.bool y1.b) rfl; have qb2c1 := blk_cell qb2e 1 (.slice y1.a y1.n y1.c) rfl; have qb2c2 := blk_cell qb2e 2 (.slice y1.d y1.m y1.e) rfl; have qb2c3 := blk_cell qb2e 3 (.bool y2.b) rfl; have qb2c4 := blk_cell qb2e 4 (.slice y2.a y2.n y2.c) rfl; have qb2c5 := blk_cell qb2e 5 (.slice y2.d y2.m y2.e) rfl; have qb2c6 := blk_cell qb2e 6 (.bool y3.b) rfl; have qb2c7 := blk_cell qb2e 7 (.slice y3.a y3.n y3.c) rfl; have qb2c8 := blk_cell qb2e 8 (.slice y3.d y3.m y3.e) rfl; have qb2c9 := blk_cell qb2e 9 (.int .i64 m) rfl; clear qb2e; clear hSu; go_simp <;> with_reducible rfl
   try simp only [nbs, Act.put]
   refine tkB (i := 1) (v := ?vk8) rfl ?hk8 ?rk8
   case hk8 => intro u hSu; (try dsimp only at hSu); obtain ⟨qb1c0, qb1c1, qb1c2, _⟩ := fac3 (x := x3) (hSu.at 1 _ _ _ rfl); clear hSu; go_simp <;> with_reducible rfl
   try simp only [nbs, Act.put]
   refine tkB (i := 2) (v := ?vk9) rfl ?hk9 ?rk9
   case hk9 => intro u hSu; (try dsimp only at hSu); obtain ⟨qb0c0, qb0c1, qb0c2, qb0c3, qb0c4, qb0c5, _⟩ := fac6 (x := x1) (y := x2) (hSu.at 2 _ _ _ rfl); clear hSu; go_simp <;> with_reducible rfl
   try simp only [nbs, Act.put]
   refine tkB (i := 3) (v := ?vk10) rfl ?hk10 ?rk10
   case hk10 => intro u hSu; (try dsimp only at hSu); obtain ⟨qb1c0, qb1c1, qb1c2, _⟩ := fac3 (x := x3) (hSu.at 1 _ _ _ rfl); clear hSu; go_simp <;> with_reducible rfl
   try simp only [nbs, Act.put]
   refine tkB (i := 4) (v := ?vk11) rfl ?hk11 ?rk11
   case hk11 => intro u hSu; go_simp <;> with_reducible rfl
   try simp only [nbs, Act.put]
   refine tkB (i := 5) (v := ?vk12) rfl ?hk12 ?rk12
   case hk12 => intro u hSu; go_simp <;> with_reducible rfl
   try simp only [nbs, Act.put]
   refine rdA (i := 6) rfl (fun K hK => ?_)
   go_simp
   have a14 := HS.out.p 5 _ _ rfl
   have a15 := HS.out.p 4 _ _ rfl
   have a16 := HS.out.p 3 _ _ rfl
   go_wp2_with (go_at_call 82; (with_reducible refine (follow_any l0 l1 S aq k HK.out z HZK.out _ _ _ _ (rngP a14 a15) a16 (HA.out.bP HS.out.bel) HLE.out SL0.out SL1.out SS.out HZA.out (HZF0.out HFE.out)).mono ?_); rintro e w13 ⟨v13, rfl, hv13, hb13⟩; have HV13 := Lib.hid hv13; clear hv13)
   refine hK.out _ _ (Sx.below hh hb13) (fun hh => ?_)
   clear hK K
   try simp only [nbs, Act.put]
   replace HS := Lib.hid (HS.out.below hb13)
   clear hb13 a14 a15 a16
   refine rdA (i := 7) rfl (fun K hK => ?_)
   go_simp
   have a18 := HS.out.p 2 _ _ rfl
   have a19 := HS.out.p 1 _ _ rfl
   have a20 := HS.out.p 0 _ _ rfl
   have a21 := HS.out.p 3 _ _ rfl
   go_wp2_with (go_at_call 88; (with_reducible refine (nmeets_any S le mo ri m _ y1 y2 y3 _ _ _ a18 a19 a20 a21 HV13.out (by rw [flR_len]; exact HLE.out) SE.out SM.out SI.out SS.out (HZT.out HFE.out)).mono ?_); rintro e w17 ⟨rfl, hb17⟩)
   refine hK.out _ _ (Sx.below hh hb17) (fun hh => ?_)
   clear hK K
   try simp only [nbs, Act.put]
   replace HS := Lib.hid (HS.out.below hb17)
   clear hb17 a18 a19 a20 a21
   cases t22 : (mtOf S le mo ri m (flR S l0 l1 k aq aq.length)) with
   | true =>
    refine tkB (i := 8) (v := ?vk23) rfl ?hk23 ?rk23
    case hk23 => intro u hSu; go_simp <;> with_reducible rfl
    try simp only [nbs, Act.put]
    refine tkB (i := 9) (v := ?vk24) rfl ?hk24 ?rk24
    case hk24 => intro u hSu; go_simp <;> with_reducible rfl
    try simp only [nbs, Act.put]
    refine wpAnyH_done (by kernel_rfl) ?_ _
    go_wp2_with fail
    have HR : Hid (meErr l0 l1 aq.length le mo ri m = 0) := by show _ = _; unfold meErr; rw [if_neg (by rw [HZ2.out]; simp), HZ4.out]
    go_ret2
    exact (by rw [HR.out, show meOf S le mo ri m (flR S l0 l1 k aq aq.length) 0 = mtOf S le mo ri m (flR S l0 l1 k aq aq.length) from if_pos rfl, t22]; exact ⟨rfl, HS.out.bel⟩)
   | false =>
    refine tkB (i := 8) (v := ?vk25) rfl ?hk25 ?rk25
    case hk25 => intro u hSu; go_simp <;> with_reducible rfl
    try simp only [nbs, Act.put]
    refine tkB (i := 9) (v := ?vk26) rfl ?hk26 ?rk26
    case hk26 => intro u hSu; go_simp <;> with_reducible rfl
    try simp only [nbs, Act.put]
    refine wpAnyH_done (by kernel_rfl) ?_ _
    go_wp2_with fail
    have HR : Hid (meErr l0 l1 aq.length le mo ri m = 0) := by show _ = _; unfold meErr; rw [if_neg (by rw [HZ2.out]; simp), HZ4.out]
    go_ret2
    exact (by rw [HR.out, show meOf S le mo ri m (flR S l0 l1 k aq aq.length) 0 = mtOf S le mo ri m (flR S l0 l1 k aq aq.length) from if_pos rfl, t22]; exact ⟨rfl, HS.out.bel⟩)
  ·
   obtain ⟨er4, her4⟩ : ∃ c, c = ndErr le mo ri m := ⟨_, rfl⟩
   have HER4 := Lib.hid her4
   rw [← her4] at hz4
   have en4 : (er4 == 0) = false := beq_eq_false_iff_ne.2 hz4
   have eo4 : (er4 != 0) = true := bne_iff_ne.2 hz4
   have ep4 : decide (er4 = 0) = false := decide_eq_false hz4
   have HNZ4 := Lib.hid hz4
   clear her4 hz4
   refine (ncheck_any le mo ri m y1 y2 y3 _ (HS.out.p 2 _ _ rfl) (HS.out.p 1 _ _ rfl) (HS.out.p 0 _ _ rfl) SE.out SM.out SI.out).mono ?_
   rw [← HER4.out]
   rintro e w27 ⟨rfl, hb27⟩
   replace HS := Lib.hid (HS.out.below hb27)
   clear hb27
   go_wp2_with fail
   have HR : Hid (meErr l0 l1 aq.length le mo ri m = er4) := by show _ = _; unfold meErr; rw [if_neg (by rw [HZ2.out]; simp), ← HER4.out]
   go_ret2
   exact (by rw [HR.out]; exact ⟨by unfold meOf; rw [if_neg HNZ4.out] <;> rfl, HS.out.bel⟩)
 ·
  obtain ⟨er2, her2⟩ : ∃ c, c = flErr l0 l1 aq.length := ⟨_, rfl⟩
  have HER2 := Lib.hid her2
  rw [← her2] at hz2
  have en2 : (er2 == 0) = false := beq_eq_false_iff_ne.2 hz2
  have eo2 : (er2 != 0) = true := bne_iff_ne.2 hz2
  have ep2 : decide (er2 = 0) = false := decide_eq_false hz2
  have HNZ2 := Lib.hid hz2
  clear her2 hz2
  refine (tcheck_any l0 l1 aq.length _ _ _ _ (rngP (HS.out.p 5 _ _ rfl) (HS.out.p 4 _ _ rfl)) SL1.out).mono ?_
  rw [← HER2.out]
  rintro e w28 ⟨rfl, hb28⟩
  replace HS := Lib.hid (HS.out.below hb28)
  clear hb28
  go_wp2_with fail
  have HR : Hid (meErr l0 l1 aq.length le mo ri m = er2) := by show _ = _; unfold meErr; rw [← HER2.out, if_pos HNZ2.out]
  go_ret2
  exact (by rw [HR.out]; exact ⟨by unfold meOf; rw [if_neg HNZ2.out] <;> rfl, HS.out.bel⟩)
end Go.Proofs.YthdgeindjphklaaGreat

namespace Go.Proofs.YthdgeindjphklaaGreat
open Go.RowKit

def mtPreH (S : Rat) (ts : List (List Rat)) : Nat → Rat
 | 0 => S
 | n + 1 => (ts.getD n []).getD 1 0
theorem mt_long {m : Int} {a b : Nat} : decide (m ≤ ((max a b : Nat) : Int)) = (decide (m ≤ (a : Int)) || decide (m ≤ (b : Int))) := by
 by_cases h1 : m ≤ (a : Int)
 ·
  rw [decide_eq_true h1, decide_eq_true (by omega)]; rfl
 ·
  by_cases h2 : m ≤ (b : Int)
  ·
   rw [decide_eq_true h2, decide_eq_true (by omega)]; simp
  ·
   rw [decide_eq_false h1, decide_eq_false h2, decide_eq_false (by omega)]; rfl
theorem mt_gt (c : Int) : decide (c > 0) = !decide (c ≤ 0) := by
 by_cases h : c ≤ 0
 ·
  rw [decide_eq_true h, decide_eq_false (by omega)]; rfl
 ·
  rw [decide_eq_false h, decide_eq_true (by omega)]; rfl
theorem mtBad_le {S mo ri : Rat} {ts : List (List Rat)} {i : Nat} : mtBad S mo ri ts i = (!decide (cmpR ((ts.getD i []).getD 1 0) mo ≤ 0) || !decide (cmpR ((ts.getD i []).getD 1 0 - mtPre S ts i) ri ≤ 0)) := by
 unfold mtBad
 rw [mt_gt, mt_gt]
set_option maxRecDepth 100000 in
set_option maxHeartbeats 8000000 in
theorem qmeets_any (l0 l1 S le mo ri : Rat) (m : Int) (aq : List Rat) (k : Nat) (hk : k ≤ 256) (z : Int) (hz : min (max z 0) 256 = (k : Int)) (y1 y2 y3 : R3) (vx vS va : Value) (w : World) (hx : IsRngQ w vx l0 l1) (hll : l0 ≤ l1) (hS : IsR w vS S) (ha : FrcsOf IsR w va aq) (h1 : IsR w y1.val le) (h2 : IsR w y2.val mo) (h3 : IsR w y3.val ri) (hl : aq.length ≤ 300) (s0 : szR l0 1000) (s1 : szR l1 1000) (sS : szR S 1000) (sa : ∀ i, szR (aq.getD i 0) 1000) (s4 : szR le 1000) (s5 : szR mo 1000) (s6 : szR ri 1000) (sF : flErr l0 l1 aq.length = 0 → ∀ i, szR (flUp S l0 l1 k aq i).1 1000 ∧ szR (flUp S l0 l1 k aq i).2 1000) (sT : flErr l0 l1 aq.length = 0 → ∀ i j, szR (((flR S l0 l1 k aq aq.length).getD i []).getD j 0) 1000) :
  Calls Tryz.prog 27 #[vx, vS, va, .agg #[.bool y1.b, .slice y1.a y1.n y1.c, .slice y1.d y1.m y1.e, .bool y2.b, .slice y2.a y2.n y2.c, .slice y2.d y2.m y2.e, .bool y3.b, .slice y3.a y3.n y3.c, .slice y3.d y3.m y3.e, .int .i64 m], .int .i64 z] w (RetBE (meOf S le mo ri m (flR S l0 l1 k aq aq.length) (meErr l0 l1 aq.length le mo ri m)) (meErr l0 l1 aq.length le mo ri m) w) := by
 obtain ⟨x1, x2, rfl, hx1, hx2⟩ := hx
 obtain ⟨x3, rfl⟩ := hS.open3
 have HS := Lib.hid (((((((Sx.init w).addQ hx1).addQ hx2).addQ hS).addQ h1).addQ h2).addQ h3)
 have SL0 := Lib.hid s0
 have SL1 := Lib.hid s1
 have SS := Lib.hid sS
 have SE := Lib.hid s4
 have SM := Lib.hid s5
 have SI := Lib.hid s6
 have HZA := Lib.hid sa
 have HZF0 := Lib.hid sF
 have HZT0 := Lib.hid sT
 have HK := Lib.hid hk
 have HZK := Lib.hid hz
 have HLL := Lib.hid hll
 have HA := Lib.hid ha
 have HLE := Lib.hid hl
 obtain ⟨aa, ca, rfl, _⟩ := ha
 clear hx1 hx2 hS h1 h2 h3 s0 s1 sS s4 s5 s6 sa sF sT hk hz hll hl
 go_enter Tryz.func27, Tryz.ntmps27
 go_wp2_with fail
 generalize hW1 : (((w).alloc (.cells _ _)).alloc (.cells _ _)).alloc (.cells _ _) = W1 at *
 replace HS := Lib.hid (((((HS.out).alloc (B := w.heap.size) rfl (by rfl)).alloc (B := w.heap.size + 1) (by simp) (by rfl)).alloc (B := w.heap.size + 2) (by simp) (by rfl)).to hW1 (by (try simp only [nb5, nb6]); rfl))
 clear hW1
 by_cases hz2 : flErr l0 l1 aq.length = 0
 ·
  have HZ2 := Lib.hid hz2
  clear hz2
  refine (qfollow_any l0 l1 S aq k HK.out z HZK.out _ _ _ _ (rngQ (HS.out.q 5 _ _ rfl) (HS.out.q 4 _ _ rfl)) HLL.out (HS.out.q 3 _ _ rfl) (HA.out.bQ HS.out.bel) HLE.out SL0.out SL1.out SS.out HZA.out HZF0.out).mono ?_
  rintro e w3 ⟨v3, rfl, hv3, hb3⟩
  rw [HZ2.out] at hv3
  have hv3' : RecsOf false 2 w3 v3 (flR S l0 l1 k aq aq.length) := hv3
  obtain ⟨ao, cap, rfl, hE⟩ := hv3'
  have HEL := Lib.hid (flR_len S l0 l1 k aq aq.length)
  have HZT := Lib.hid (HZT0.out HZ2.out)
  generalize flR S l0 l1 k aq aq.length = ts at *
  have HE := Lib.hid hE
  clear hE hv3
  rw [HZ2.out]
  replace HS := Lib.hid (HS.out.below hb3)
  clear hb3
  have HMK := Lib.hid (Below.refl w3.heap.size w3)
  by_cases t4p : m < 1
  ·
   have t4 : decide (m < 1) = true := decide_eq_true t4p
   have T4 := Lib.hid t4p
   clear t4p
   have b2e := (HS.out.at 0 _ _ _ rfl)
   have b2c0 := blk_cell b2e 0 (.bool y1.b) rfl
   have b2c1 := blk_cell b2e 1 (.slice y1.a y1.n y1.c) rfl
   have b2c2 := blk_cell b2e 2 (.slice y1.d y1.m y1.e) rfl
   have b2c3 := blk_cell b2e 3 (.bool y2.b) rfl
   have b2c4 := blk_cell b2e 4 (.slice y2.a y2.n y2.c) rfl
   have b2c5 := blk_cell b2e 5 (.slice y2.d y2.m y2.e) rfl
   have b2c6 := blk_cell b2e 6 (.bool y3.b) rfl
   have b2c7 := blk_cell b2e 7 (.slice y3.a y3.n y3.c) rfl
   have b2c8 := blk_cell b2e 8 (.slice y3.d y3.m y3.e) rfl
   have b2c9 := blk_cell b2e 9 (.int .i64 m) rfl
   have b2f0 := blk_frozen b2e 0
   have b2f1 := blk_frozen b2e 1
   have b2f2 := blk_frozen b2e 2
   have b2f3 := blk_frozen b2e 3
   have b2f4 := blk_frozen b2e 4
   have b2f5 := blk_frozen b2e 5
   have b2f6 := blk_frozen b2e 6
   have b2f7 := blk_frozen b2e 7
   have b2f8 := blk_frozen b2e 8
   have b2f9 := blk_frozen b2e 9
   have b2l := blk_lt b2e
   clear b2e
   go_wp2_with fail
   clear b2c0 b2c1 b2c2 b2c3 b2c4 b2c5 b2c6 b2c7 b2c8 b2c9 b2f0 b2f1 b2f2 b2f3 b2f4 b2f5 b2f6 b2f7 b2f8 b2f9 b2l
   have HR : Hid (meErr l0 l1 aq.length le mo ri m = 1) := by
    show _ = _
    unfold meErr ndErr
    have t4q := T4.out
    rw [if_neg (by rw [HZ2.out]; simp), if_pos (by omega)]
   go_ret2
   exact (by rw [HR.out]; exact ⟨by unfold meOf; rw [if_neg (by decide)] <;> rfl, HS.out.bel⟩)
  ·
   have t4 : decide (m < 1) = false := decide_eq_false t4p
   have T4 := Lib.hid t4p
   clear t4p
   by_cases t5p : m > 256
   ·
    have t5 : decide (m > 256) = true := decide_eq_true t5p
    have T5 := Lib.hid t5p
    clear t5p
    have b2e := (HS.out.at 0 _ _ _ rfl)
    have b2c0 := blk_cell b2e 0 (.bool y1.b) rfl
    have b2c1 := blk_cell b2e 1 (.slice y1.a y1.n y1.c) rfl
    have b2c2 := blk_cell b2e 2 (.slice y1.d y1.m y1.e) rfl
    have b2c3 := blk_cell b2e 3 (.bool y2.b) rfl
    have b2c4 := blk_cell b2e 4 (.slice y2.a y2.n y2.c) rfl
    have b2c5 := blk_cell b2e 5 (.slice y2.d y2.m y2.e) rfl
    have b2c6 := blk_cell b2e 6 (.bool y3.b) rfl
    have b2c7 := blk_cell b2e 7 (.slice y3.a y3.n y3.c) rfl
    have b2c8 := blk_cell b2e 8 (.slice y3.d y3.m y3.e) rfl
    have b2c9 := blk_cell b2e 9 (.int .i64 m) rfl
    have b2f0 := blk_frozen b2e 0
    have b2f1 := blk_frozen b2e 1
    have b2f2 := blk_frozen b2e 2
    have b2f3 := blk_frozen b2e 3
    have b2f4 := blk_frozen b2e 4
    have b2f5 := blk_frozen b2e 5
    have b2f6 := blk_frozen b2e 6
    have b2f7 := blk_frozen b2e 7
    have b2f8 := blk_frozen b2e 8
    have b2f9 := blk_frozen b2e 9
    have b2l := blk_lt b2e
    clear b2e
    go_wp2_with fail
    clear b2c0 b2c1 b2c2 b2c3 b2c4 b2c5 b2c6 b2c7 b2c8 b2c9 b2f0 b2f1 b2f2 b2f3 b2f4 b2f5 b2f6 b2f7 b2f8 b2f9 b2l
    have HR : Hid (meErr l0 l1 aq.length le mo ri m = 1) := by
     show _ = _
     unfold meErr ndErr
     have t4q := T4.out
     have t5q := T5.out
     rw [if_neg (by rw [HZ2.out]; simp), if_pos (by omega)]
    go_ret2
    exact (by rw [HR.out]; exact ⟨by unfold meOf; rw [if_neg (by decide)] <;> rfl, HS.out.bel⟩)
   ·
    have t5 : decide (m > 256) = false := decide_eq_false t5p
    have T5 := Lib.hid t5p
    clear t5p
    have b2e := (HS.out.at 0 _ _ _ rfl)
    have b2c0 := blk_cell b2e 0 (.bool y1.b) rfl
    have b2c1 := blk_cell b2e 1 (.slice y1.a y1.n y1.c) rfl
    have b2c2 := blk_cell b2e 2 (.slice y1.d y1.m y1.e) rfl
    have b2c3 := blk_cell b2e 3 (.bool y2.b) rfl
    have b2c4 := blk_cell b2e 4 (.slice y2.a y2.n y2.c) rfl
    have b2c5 := blk_cell b2e 5 (.slice y2.d y2.m y2.e) rfl
    have b2c6 := blk_cell b2e 6 (.bool y3.b) rfl
    have b2c7 := blk_cell b2e 7 (.slice y3.a y3.n y3.c) rfl
    have b2c8 := blk_cell b2e 8 (.slice y3.d y3.m y3.e) rfl
    have b2c9 := blk_cell b2e 9 (.int .i64 m) rfl
    have b2f0 := blk_frozen b2e 0
    have b2f1 := blk_frozen b2e 1
    have b2f2 := blk_frozen b2e 2
    have b2f3 := blk_frozen b2e 3
    have b2f4 := blk_frozen b2e 4
    have b2f5 := blk_frozen b2e 5
    have b2f6 := blk_frozen b2e 6
    have b2f7 := blk_frozen b2e 7
    have b2f8 := blk_frozen b2e 8
    have b2f9 := blk_frozen b2e 9
    have b2l := blk_lt b2e
    clear b2e
    go_wp2_with fail
    clear b2c0 b2c1 b2c2 b2c3 b2c4 b2c5 b2c6 b2c7 b2c8 b2c9 b2f0 b2f1 b2f2 b2f3 b2f4 b2f5 b2f6 b2f7 b2f8 b2f9 b2l
    obtain ⟨c6, hc6⟩ : ∃ κ, κ = sgnI (decide (ri.num < 0)) ri.num.natAbs := ⟨_, rfl⟩
    have HC6 := Lib.hid hc6
    clear hc6
    refine (qsignR_any ri _ _ (HS.out.q 0 _ _ rfl)).mono ?_
    rw [← HC6.out]
    rintro e w6 ⟨rfl, hb6⟩
    replace HS := Lib.hid (HS.out.below hb6)
    replace HMK := Lib.hid (ext_trans HMK.out hb6)
    clear hb6
    by_cases t7p : c6 < 0
    ·
     have t7 : decide (c6 < 0) = true := decide_eq_true t7p
     have T7 := Lib.hid t7p
     clear t7p
     go_wp2_with fail
     have HR : Hid (meErr l0 l1 aq.length le mo ri m = 1) := by
      show _ = _
      unfold meErr ndErr
      rw [← HC6.out]
      have t4q := T4.out
      have t5q := T5.out
      have t7q := T7.out
      rw [if_neg (by rw [HZ2.out]; simp), if_pos (by omega)]
     go_ret2
     exact (by rw [HR.out]; exact ⟨by unfold meOf; rw [if_neg (by decide)] <;> rfl, HS.out.bel⟩)
    ·
     have t7 : decide (c6 < 0) = false := decide_eq_false t7p
     have T7 := Lib.hid t7p
     clear t7p
     have b2e := (HS.out.at 0 _ _ _ rfl)
     have b2c0 := blk_cell b2e 0 (.bool y1.b) rfl
     have b2c1 := blk_cell b2e 1 (.slice y1.a y1.n y1.c) rfl
     have b2c2 := blk_cell b2e 2 (.slice y1.d y1.m y1.e) rfl
     have b2c3 := blk_cell b2e 3 (.bool y2.b) rfl
     have b2c4 := blk_cell b2e 4 (.slice y2.a y2.n y2.c) rfl
     have b2c5 := blk_cell b2e 5 (.slice y2.d y2.m y2.e) rfl
     have b2c6 := blk_cell b2e 6 (.bool y3.b) rfl
     have b2c7 := blk_cell b2e 7 (.slice y3.a y3.n y3.c) rfl
     have b2c8 := blk_cell b2e 8 (.slice y3.d y3.m y3.e) rfl
     have b2c9 := blk_cell b2e 9 (.int .i64 m) rfl
     have b2f0 := blk_frozen b2e 0
     have b2f1 := blk_frozen b2e 1
     have b2f2 := blk_frozen b2e 2
     have b2f3 := blk_frozen b2e 3
     have b2f4 := blk_frozen b2e 4
     have b2f5 := blk_frozen b2e 5
     have b2f6 := blk_frozen b2e 6
     have b2f7 := blk_frozen b2e 7
     have b2f8 := blk_frozen b2e 8
     have b2f9 := blk_frozen b2e 9
     have b2l := blk_lt b2e
     clear b2e
     go_wp2_with fail
     clear b2c0 b2c1 b2c2 b2c3 b2c4 b2c5 b2c6 b2c7 b2c8 b2c9 b2f0 b2f1 b2f2 b2f3 b2f4 b2f5 b2f6 b2f7 b2f8 b2f9 b2l
     obtain ⟨c8, hc8⟩ : ∃ κ, κ = cmpR le mo := ⟨_, rfl⟩
     have HC8 := Lib.hid hc8
     clear hc8
     refine (qcmp_any le mo _ _ _ (HS.out.q 2 _ _ rfl) (HS.out.q 1 _ _ rfl) (szQ_mono (szQ_of SE.out) (by omega)) (szQ_mono (szQ_of SM.out) (by omega))).mono ?_
     rw [← HC8.out]
     rintro e w8 ⟨rfl, hb8⟩
     replace HS := Lib.hid (HS.out.below hb8)
     replace HMK := Lib.hid (ext_trans HMK.out hb8)
     clear hb8
     by_cases t9p : c8 > 0
     ·
      have t9 : decide (c8 > 0) = true := decide_eq_true t9p
      have T9 := Lib.hid t9p
      clear t9p
      go_wp2_with fail
      have HR : Hid (meErr l0 l1 aq.length le mo ri m = 1) := by
       show _ = _
       unfold meErr ndErr
       rw [← HC6.out, ← HC8.out]
       have t4q := T4.out
       have t5q := T5.out
       have t7q := T7.out
       have t9q := T9.out
       rw [if_neg (by rw [HZ2.out]; simp), if_pos (by omega)]
      go_ret2
      exact (by rw [HR.out]; exact ⟨by unfold meOf; rw [if_neg (by decide)] <;> rfl, HS.out.bel⟩)
     ·
      have t9 : decide (c8 > 0) = false := decide_eq_false t9p
      have T9 := Lib.hid t9p
      clear t9p
      obtain ⟨b1c0, b1c1, b1c2, b1f0, b1f1, b1f2⟩ := fac3 (x := x3) (HS.out.at 1 _ _ _ rfl)
      have b1l := blk_lt (HS.out.at 1 _ _ _ rfl)
      go_wp2_with fail
      clear b1c0 b1c1 b1c2 b1f0 b1f1 b1f2 b1l
      refine (qonly_any S _ _ (HS.out.q 3 _ _ rfl)).mono ?_
      rintro e w10 ⟨v10, rfl, ⟨z10a, z10b, rfl, hv10, hw10⟩, hb10⟩
      replace HS := Lib.hid (HS.out.below hb10)
      replace HMK := Lib.hid (ext_trans HMK.out hb10)
      clear hb10
      replace HS := Lib.hid (HS.out.addQ hv10)
      clear hv10
      replace HS := Lib.hid (HS.out.addQ hw10)
      clear hw10
      go_wp2_with fail
      have HG12 : Hid (w3.heap.size ≤ w10.heap.size) := by first | exact HMK.out.size | (show _ ≤ _; have := HMK.out.size; omega)
      generalize hW11 : (w10).alloc (.cells _ _) = W11 at *
      replace HS := Lib.hid (((HS.out).alloc (B := w10.heap.size) rfl (by rfl)).to hW11 (by (try simp only [nb5, nb6]); rfl))
      replace HMK : Hid (Below w3.heap.size w3 W11) := by subst hW11; exact Lib.hid ((mk_alloc HMK.out))
      clear hW11
      have HNE : Hid (ndErr le mo ri m = 0) := by
       show _ = _
       unfold ndErr
       rw [← HC6.out, ← HC8.out]
       have t4q := T4.out
       have t5q := T5.out
       have t7q := T7.out
       have t9q := T9.out
       rw [if_neg (by omega)]
      have HM1 : Hid (1 ≤ m) := by show _ ≤ _; have := T4.out; omega
      go_wp2_with fail
      go_loopw [18, 14, 15, 16] (fun u18 u14 u15 u16 wr => ∃ (i : Nat) (ah0 ah1 : R3), i ≤ ts.length ∧ u18 = .int .i64 i ∧ u14 = .int .i64 ((mtNow le ts i : Nat) : Int) ∧ u15 = .bool (decide (m ≤ ((mtBest le ts i : Nat) : Int))) ∧ u16 = .bool (mtOk S mo ri ts i) ∧ Hid (Sx w wr [(w10.heap.size, arr6 ah0 ah1, 42), (w.heap.size + 2, #[.bool y1.b, .slice y1.a y1.n y1.c, .slice y1.d y1.m y1.e, .bool y2.b, .slice y2.a y2.n y2.c, .slice y2.d y2.m y2.e, .bool y3.b, .slice y3.a y3.n y3.c, .slice y3.d y3.m y3.e, .int .i64 m], 67), (w.heap.size + 1, x3.arr, 40), (w.heap.size, arr6 x1 x2, 63)] [(false, ah1.val, (mtPreH S ts i)), (false, ah0.val, (mtPre S ts i)), (false, x3.val, S), (false, y3.val, ri), (false, y2.val, mo), (false, y1.val, le)]) ∧ Hid (Below w3.heap.size w3 wr))
       (fun u _ _ _ _ => ts.length - (intOf u).toNat)
      case atStart => exact ⟨0, z10a, z10b, Nat.zero_le _, rfl, rfl, (by rw [decide_eq_false (by have := HM1.out; show ¬ m ≤ 0; omega)]), rfl, Lib.hid (((((((HS.out.bare).addQ (HS.out.q 4 _ _ rfl)).addQ (HS.out.q 3 _ _ rfl)).addQ (HS.out.q 2 _ _ rfl)).addQ (HS.out.q 5 _ _ rfl)).addQ (HS.out.q 1 _ _ rfl)).addQ (HS.out.q 0 _ _ rfl)), HMK⟩
      case round =>
       obtain ⟨wr13, hwr13⟩ : ∃ z, z = wr := ⟨_, rfl⟩
       subst hwr13
       clear HS HMK
       obtain ⟨i, ah0, ah1, hi, rfl, rfl, rfl, rfl, HS, HMK⟩ := hrel
       by_cases hlt : i < ts.length
       ·
        have hlt' : (i : Int) < ts.length := by omega
        have hge' : (0 : Int) ≤ i := by omega
        have HLT := Lib.hid hlt
        obtain ⟨b, off, rfl, hbl, hEE⟩ := HE.out (by omega)
        have HBL := Lib.hid hbl
        have hnw := mtNow_le le ts i
        have hbt := mtBest_le le ts i
        obtain ⟨Tx, Tg0, Tg1, Tg2, Thx⟩ := hEE i hlt 0 (by omega)
        have T0 : Hid (w3.cell? ⟨b, off + i * 6, none⟩ = some (.bool Tx.b)) := Tg0
        have T1 : Hid (w3.cell? ⟨b, off + i * 6 + 1, none⟩ = some (.slice Tx.a Tx.n Tx.c)) := Tg1
        have T2 : Hid (w3.cell? ⟨b, off + i * 6 + 2, none⟩ = some (.slice Tx.d Tx.m Tx.e)) := Tg2
        clear Tg0 Tg1 Tg2
        obtain ⟨Ty, Tg0, Tg1, Tg2, Thy⟩ := hEE i hlt 1 (by omega)
        have T3 : Hid (w3.cell? ⟨b, off + i * 6 + 3, none⟩ = some (.bool Ty.b)) := Tg0
        have T4 : Hid (w3.cell? ⟨b, off + i * 6 + 4, none⟩ = some (.slice Ty.a Ty.n Ty.c)) := Tg1
        have T5 : Hid (w3.cell? ⟨b, off + i * 6 + 5, none⟩ = some (.slice Ty.d Ty.m Ty.e)) := Tg2
        clear Tg0 Tg1 Tg2
        replace HS := Lib.hid ((HS.out.addQ (Fr.below Thx HMK.out)).addQ (Fr.below Thy HMK.out))
        clear Thx Thy hbl hEE
        have SH0 := Lib.hid (HZT.out i 0)
        have SH1 := Lib.hid (HZT.out i 1)
        have SAH := Lib.hid (mtPre_sz SS.out HZT.out i)
        have HN1 : Hid (mtNow le ts (i + 1) = if cmpR ((ts.getD i []).getD 0 0) le < 0 then 0 else mtNow le ts i + 1) := rfl
        have HB1 : Hid (mtBest le ts (i + 1) = max (mtBest le ts i) (mtNow le ts (i + 1))) := rfl
        have HP1 : Hid (mtPre S ts (i + 1) = (ts.getD i []).getD 0 0) := rfl
        have HP2 : Hid (mtPreH S ts (i + 1) = (ts.getD i []).getD 1 0) := rfl
        have HBD := Lib.hid (mtBad_le (S := S) (mo := mo) (ri := ri) (ts := ts) (i := i))
        have HO1 : Hid (mtOk S mo ri ts (i + 1) = (mtOk S mo ri ts i && !mtBad S mo ri ts i)) := rfl
        generalize mtNow le ts i = nw at *
        generalize mtPre S ts i = ah at *
        generalize mtPreH S ts i = bh at *
        obtain ⟨ob, hob⟩ : ∃ z, z = mtOk S mo ri ts i := ⟨_, rfl⟩
        have HOB := Lib.hid hob
        rw [← hob]
        obtain ⟨lb, hlb⟩ : ∃ z, z = decide (m ≤ ((mtBest le ts i : Nat) : Int)) := ⟨_, rfl⟩
        have HLB := Lib.hid hlb
        rw [← hlb]
        clear hob hlb
        generalize mtBest le ts i = bt at *
        generalize (ts.getD i []).getD 0 0 = h0 at *
        generalize (ts.getD i []).getD 1 0 = h1 at *
        have hTL : ts.length ≤ 300 := by have := HLE.out; have := HEL.out; omega
        obtain ⟨n1, hn1⟩ : ∃ j, j = nw + 1 := ⟨_, rfl⟩
        have HQ1 := Lib.hid hn1
        have hw1 : IntKind.i64.wrap ((nw : Int) + 1) = (n1 : Int) := (IntWalk.i64_in _ (by have := HLE.out; have := HEL.out; omega)).trans (by omega)
        clear hn1 hlt
        go_wp2_with fail
        refine wp_region_held_drew (S := (fun w' => Sx w w' [(w10.heap.size, arr6 ah0 ah1, 42), (w.heap.size + 2, #[.bool y1.b, .slice y1.a y1.n y1.c, .slice y1.d y1.m y1.e, .bool y2.b, .slice y2.a y2.n y2.c, .slice y2.d y2.m y2.e, .bool y3.b, .slice y3.a y3.n y3.c, .slice y3.d y3.m y3.e, .int .i64 m], 67), (w.heap.size + 1, x3.arr, 40), (w.heap.size, arr6 x1 x2, 63)] [])) (by kernel_rfl) ((HS.out.drew).bare) (fun hh => ?_)
        replace HS := Lib.hid HS.out.drew
        replace HMK := Lib.hid (ext_trans HMK.out (Below.refl _ _).drew)
        refine tkB (i := 0) (v := ?vk15) rfl ?hk15 ?rk15
        case hk15 => intro u hSu; go_simp <;> with_reducible rfl
        try simp only [nbs, Act.put]
        refine tkB (i := 1) (v := ?vk16) rfl ?hk16 ?rk16
        case hk16 => intro u hSu; go_simp <;> with_reducible rfl
        try simp only [nbs, Act.put]
        refine tkB (i := 2) (v := ?vk17) rfl ?hk17 ?rk17
        case hk17 => intro u hSu; go_simp <;> with_reducible rfl
        try simp only [nbs, Act.put]
        refine tkB (i := 3) (v := ?vk18) rfl ?hk18 ?rk18
        case hk18 => intro u hSu; go_simp <;> with_reducible rfl
        try simp only [nbs, Act.put]
        refine tkB (i := 5) (v := ?vk19) rfl ?hk19 ?rk19
        case hk19 => intro u hSu; go_simp <;> with_reducible rfl
        try simp only [nbs, Act.put]
        refine tkB (i := 6) (v := ?vk20) rfl ?hk20 ?rk20
        case hk20 => intro u hSu; (try dsimp only at hSu); have qb2e := (hSu.at 1 _ _ _ rfl); have qb2c0 := blk_cell qb2e 0 (.bool y1.b) rfl; have qb2c1 := blk_cell qb2e 1 (.slice y1.a y1.n y1.c) rfl; have qb2c2 := blk_cell qb2e 2 (.slice y1.d y1.m y1.e) rfl; have qb2c3 := blk_cell qb2e 3 (.bool y2.b) rfl; have qb2c4 := blk_cell qb2e 4 (.slice y2.a y2.n y2.c) rfl; have qb2c5 := blk_cell qb2e 5 (.slice y2.d y2.m y2.e) rfl; have qb2c6 := blk_cell qb2e 6 (.bool y3.b) rfl; have qb2c7 := blk_cell qb2e 7 (.slice y3.a y3.n y3.c) rfl; have qb2c8 := blk_cell qb2e 8 (.slice y3.d y3.m y3.e) rfl; have qb2c9 := blk_cell qb2e 9 (.int .i64 m) rfl; clear qb2e; clear hSu; go_simp <;> with_reducible rfl
        try simp only [nbs, Act.put]
        refine rdA (i := 4) rfl (fun K hK => ?_)
        have Tc0 := (HMK.out.cell (p := ⟨b, off + i * 6, none⟩) HBL.out).trans T0.out
        have Tc1 := (HMK.out.cell (p := ⟨b, off + i * 6 + 1, none⟩) HBL.out).trans T1.out
        have Tc2 := (HMK.out.cell (p := ⟨b, off + i * 6 + 2, none⟩) HBL.out).trans T2.out
        have Tc3 := (HMK.out.cell (p := ⟨b, off + i * 6 + 3, none⟩) HBL.out).trans T3.out
        have Tc4 := (HMK.out.cell (p := ⟨b, off + i * 6 + 4, none⟩) HBL.out).trans T4.out
        have Tc5 := (HMK.out.cell (p := ⟨b, off + i * 6 + 5, none⟩) HBL.out).trans T5.out
        go_simp
        refine hK.out _ _ hh (fun hh => ?_)
        clear hK K Tc0 Tc1 Tc2 Tc3 Tc4 Tc5
        try simp only [nbs, Act.put]
        refine rdA (i := 7) rfl (fun K hK => ?_)
        go_simp
        obtain ⟨c21, hc21⟩ : ∃ κ, κ = cmpR h0 le := ⟨_, rfl⟩
        have HC21 := Lib.hid hc21
        clear hc21
        have a22 := HS.out.q 1 _ _ rfl
        have a23 := HS.out.q 7 _ _ rfl
        go_wp2_with (go_at_call 89; (with_reducible refine (qcmp_any h0 le _ _ _ a22 a23 (szQ_mono (szQ_of SH0.out) (by omega)) (szQ_mono (szQ_of SE.out) (by omega))).mono ?_); rw [← HC21.out]; rintro e w21 ⟨rfl, hb21⟩)
        refine hK.out _ _ (Sx.below hh hb21) (fun hh => ?_)
        clear hK K
        try simp only [nbs, Act.put]
        replace HS := Lib.hid (HS.out.below hb21)
        replace HMK := Lib.hid (ext_trans HMK.out hb21)
        clear hb21 a22 a23
        refine tkB (i := 8) (v := ?vk24) rfl ?hk24 ?rk24
        case hk24 => intro u hSu; go_simp <;> with_reducible rfl
        try simp only [nbs, Act.put]
        refine wpAnyH_done (by kernel_rfl) ?_ _
        go_upto_if 70 with fail
        go_cut [14] (fun s14 wx => Hid (∃ r : Nat, s14 = .int .i64 (r : Int) ∧ w21 = wx ∧ Hid (mtNow le ts (i + 1) = r) ∧ r ≤ i + 1))
        case first =>
         by_cases t25p : c21 < 0
         ·
          have t25 : decide (c21 < 0) = true := decide_eq_true t25p
          have T25 := Lib.hid t25p
          clear t25p
          have t25w := T25.out
          go_wp2_with fail
          have HNW : Hid (mtNow le ts (i + 1) = 0) := HN1.out.trans (if_pos (by rw [← HC21.out]; have := T25.out; omega))
          go_meet
          exact Lib.hid ⟨0, rfl, rfl, HNW, by omega⟩
         ·
          have t25 : decide (c21 < 0) = false := decide_eq_false t25p
          have T25 := Lib.hid t25p
          clear t25p
          have t25w := T25.out
          go_wp2_with fail
          have HNW : Hid (mtNow le ts (i + 1) = n1) := (HN1.out.trans (if_neg (by rw [← HC21.out]; have := T25.out; omega))).trans HQ1.out.symm
          go_meet
          exact Lib.hid ⟨n1, rfl, rfl, HNW, by have := HQ1.out; omega⟩
        case rest =>
         obtain ⟨n2, rfl, rfl, HNW, hn2⟩ := hcut.out
         clear hcut
         cases t26 : lb with
         | true =>
          go_wp2_with fail
          refine wp_region_held_drew (S := (fun w' => Sx w w' [(w10.heap.size, arr6 ah0 ah1, 42), (w.heap.size + 2, #[.bool y1.b, .slice y1.a y1.n y1.c, .slice y1.d y1.m y1.e, .bool y2.b, .slice y2.a y2.n y2.c, .slice y2.d y2.m y2.e, .bool y3.b, .slice y3.a y3.n y3.c, .slice y3.d y3.m y3.e, .int .i64 m], 67), (w.heap.size + 1, x3.arr, 40), (w.heap.size, arr6 x1 x2, 63)] [])) (by kernel_rfl) ((HS.out.drew).bare) (fun hh => ?_)
          replace HS := Lib.hid HS.out.drew
          replace HMK := Lib.hid (ext_trans HMK.out (Below.refl _ _).drew)
          cases t28 : ob with
          | true =>
           refine tkB (i := 0) (v := ?vk29) rfl ?hk29 ?rk29
           case hk29 => intro u hSu; go_simp <;> with_reducible rfl
           try simp only [nbs, Act.put]
           refine tkB (i := 1) (v := ?vk30) rfl ?hk30 ?rk30
           case hk30 => intro u hSu; go_simp <;> with_reducible rfl
           try simp only [nbs, Act.put]
           refine tkB (i := 2) (v := ?vk31) rfl ?hk31 ?rk31
           case hk31 => intro u hSu; go_simp <;> with_reducible rfl
           try simp only [nbs, Act.put]
           refine tkB (i := 3) (v := ?vk32) rfl ?hk32 ?rk32
           case hk32 => intro u hSu; go_simp <;> with_reducible rfl
           try simp only [nbs, Act.put]
           refine tkB (i := 4) (v := ?vk33) rfl ?hk33 ?rk33
           case hk33 => intro u hSu; go_simp <;> with_reducible rfl
           try simp only [nbs, Act.put]
           refine tkB (i := 5) (v := ?vk34) rfl ?hk34 ?rk34
           case hk34 => intro u hSu; go_simp <;> with_reducible rfl
           try simp only [nbs, Act.put]
           refine tkB (i := 7) (v := ?vk35) rfl ?hk35 ?rk35
           case hk35 => intro u hSu; go_simp <;> with_reducible rfl
           try simp only [nbs, Act.put]
           refine tkB (i := 8) (v := ?vk36) rfl ?hk36 ?rk36
           case hk36 => intro u hSu; (try dsimp only at hSu); have qb2e := (hSu.at 1 _ _ _ rfl); have qb2c0 := blk_cell qb2e 0 (.bool y1.b) rfl; have qb2c1 := blk_cell qb2e 1 (.slice y1.a y1.n y1.c) rfl; have qb2c2 := blk_cell qb2e 2 (.slice y1.d y1.m y1.e) rfl; have qb2c3 := blk_cell qb2e 3 (.bool y2.b) rfl; have qb2c4 := blk_cell qb2e 4 (.slice y2.a y2.n y2.c) rfl; have qb2c5 := blk_cell qb2e 5 (.slice y2.d y2.m y2.e) rfl; have qb2c6 := blk_cell qb2e 6 (.bool y3.b) rfl; have qb2c7 := blk_cell qb2e 7 (.slice y3.a y3.n y3.c) rfl; have qb2c8 := blk_cell qb2e 8 (.slice y3.d y3.m y3.e) rfl; have qb2c9 := blk_cell qb2e 9 (.int .i64 m) rfl; clear qb2e; clear hSu; go_simp <;> with_reducible rfl
           try simp only [nbs, Act.put]
           refine rdA (i := 6) rfl (fun K hK => ?_)
           have Tc0 := (HMK.out.cell (p := ⟨b, off + i * 6, none⟩) HBL.out).trans T0.out
           have Tc1 := (HMK.out.cell (p := ⟨b, off + i * 6 + 1, none⟩) HBL.out).trans T1.out
           have Tc2 := (HMK.out.cell (p := ⟨b, off + i * 6 + 2, none⟩) HBL.out).trans T2.out
           have Tc3 := (HMK.out.cell (p := ⟨b, off + i * 6 + 3, none⟩) HBL.out).trans T3.out
           have Tc4 := (HMK.out.cell (p := ⟨b, off + i * 6 + 4, none⟩) HBL.out).trans T4.out
           have Tc5 := (HMK.out.cell (p := ⟨b, off + i * 6 + 5, none⟩) HBL.out).trans T5.out
           go_simp
           refine hK.out _ _ hh (fun hh => ?_)
           clear hK K Tc0 Tc1 Tc2 Tc3 Tc4 Tc5
           try simp only [nbs, Act.put]
           refine rdA (i := 9) rfl (fun K hK => ?_)
           go_simp
           obtain ⟨c37, hc37⟩ : ∃ κ, κ = cmpR h1 mo := ⟨_, rfl⟩
           have HC37 := Lib.hid hc37
           clear hc37
           have a38 := HS.out.q 0 _ _ rfl
           have a39 := HS.out.q 6 _ _ rfl
           go_wp2_with (go_at_call 89; (with_reducible refine (qcmp_any h1 mo _ _ _ a38 a39 (szQ_mono (szQ_of SH1.out) (by omega)) (szQ_mono (szQ_of SM.out) (by omega))).mono ?_); rw [← HC37.out]; rintro e w37 ⟨rfl, hb37⟩)
           refine hK.out _ _ (Sx.below hh hb37) (fun hh => ?_)
           clear hK K
           try simp only [nbs, Act.put]
           replace HS := Lib.hid (HS.out.below hb37)
           replace HMK := Lib.hid (ext_trans HMK.out hb37)
           clear hb37 a38 a39
           by_cases t40p : c37 ≤ 0
           ·
            have t40 : decide (c37 ≤ 0) = true := decide_eq_true t40p
            have T40 := Lib.hid t40p
            clear t40p
            refine tkB (i := 10) (v := ?vk41) rfl ?hk41 ?rk41
            case hk41 => intro u hSu; go_simp <;> with_reducible rfl
            try simp only [nbs, Act.put]
            refine tkB (i := 11) (v := ?vk42) rfl ?hk42 ?rk42
            case hk42 => intro u hSu; go_simp <;> with_reducible rfl
            try simp only [nbs, Act.put]
            refine tkB (i := 12) (v := ?vk43) rfl ?hk43 ?rk43
            case hk43 => intro u hSu; go_simp <;> with_reducible rfl
            try simp only [nbs, Act.put]
            refine tkB (i := 13) (v := ?vk44) rfl ?hk44 ?rk44
            case hk44 => intro u hSu; go_simp <;> with_reducible rfl
            try simp only [nbs, Act.put]
            refine tkB (i := 14) (v := ?vk45) rfl ?hk45 ?rk45
            case hk45 => intro u hSu; go_simp <;> with_reducible rfl
            try simp only [nbs, Act.put]
            refine tkB (i := 15) (v := ?vk46) rfl ?hk46 ?rk46
            case hk46 => intro u hSu; go_simp <;> with_reducible rfl
            try simp only [nbs, Act.put]
            refine tkB (i := 16) (v := ?vk47) rfl ?hk47 ?rk47
            case hk47 => intro u hSu; go_simp <;> with_reducible rfl
            try simp only [nbs, Act.put]
            refine tkB (i := 18) (v := ?vk48) rfl ?hk48 ?rk48
            case hk48 => intro u hSu; go_simp <;> with_reducible rfl
            try simp only [nbs, Act.put]
            refine tkB (i := 19) (v := ?vk49) rfl ?hk49 ?rk49
            case hk49 => intro u hSu; (try dsimp only at hSu); obtain ⟨qb3c0, qb3c1, qb3c2, qb3c3, qb3c4, qb3c5, _⟩ := fac6 (x := ah0) (y := ah1) (hSu.at 0 _ _ _ rfl); clear hSu; go_simp <;> with_reducible rfl
            try simp only [nbs, Act.put]
            refine tkB (i := 21) (v := ?vk50) rfl ?hk50 ?rk50
            case hk50 => intro u hSu; go_simp <;> with_reducible rfl
            try simp only [nbs, Act.put]
            refine tkB (i := 22) (v := ?vk51) rfl ?hk51 ?rk51
            case hk51 => intro u hSu; (try dsimp only at hSu); have qb2e := (hSu.at 1 _ _ _ rfl); have qb2c0 := blk_cell qb2e 0 (.bool y1.b) rfl; have qb2c1 := blk_cell qb2e 1 (.slice y1.a y1.n y1.c) rfl; have qb2c2 := blk_cell qb2e 2 (.slice y1.d y1.m y1.e) rfl; have qb2c3 := blk_cell qb2e 3 (.bool y2.b) rfl; have qb2c4 := blk_cell qb2e 4 (.slice y2.a y2.n y2.c) rfl; have qb2c5 := blk_cell qb2e 5 (.slice y2.d y2.m y2.e) rfl; have qb2c6 := blk_cell qb2e 6 (.bool y3.b) rfl; have qb2c7 := blk_cell qb2e 7 (.slice y3.a y3.n y3.c) rfl; have qb2c8 := blk_cell qb2e 8 (.slice y3.d y3.m y3.e) rfl; have qb2c9 := blk_cell qb2e 9 (.int .i64 m) rfl; clear qb2e; clear hSu; go_simp <;> with_reducible rfl
            try simp only [nbs, Act.put]
            refine rdA (i := 17) rfl (fun K hK => ?_)
            have Tc0 := (HMK.out.cell (p := ⟨b, off + i * 6, none⟩) HBL.out).trans T0.out
            have Tc1 := (HMK.out.cell (p := ⟨b, off + i * 6 + 1, none⟩) HBL.out).trans T1.out
            have Tc2 := (HMK.out.cell (p := ⟨b, off + i * 6 + 2, none⟩) HBL.out).trans T2.out
            have Tc3 := (HMK.out.cell (p := ⟨b, off + i * 6 + 3, none⟩) HBL.out).trans T3.out
            have Tc4 := (HMK.out.cell (p := ⟨b, off + i * 6 + 4, none⟩) HBL.out).trans T4.out
            have Tc5 := (HMK.out.cell (p := ⟨b, off + i * 6 + 5, none⟩) HBL.out).trans T5.out
            go_simp
            refine hK.out _ _ hh (fun hh => ?_)
            clear hK K Tc0 Tc1 Tc2 Tc3 Tc4 Tc5
            try simp only [nbs, Act.put]
            refine rdA (i := 20) rfl (fun K hK => ?_)
            go_simp
            have a53 := HS.out.q 0 _ _ rfl
            have a54 := HS.out.q 3 _ _ rfl
            go_wp2_with (go_at_call 90; (with_reducible refine (qsub_any h1 ah _ _ _ a53 a54 (szQ_mono (szQ_of SH1.out) (by omega)) (szQ_mono (szQ_of SAH.out) (by omega))).mono ?_); rintro e w52 ⟨v52, rfl, hv52, hb52⟩; obtain ⟨z52, rfl⟩ := hv52.open3)
            refine hK.out _ _ (Sx.below hh hb52) (fun hh => ?_)
            clear hK K
            try simp only [nbs, Act.put]
            replace HS := Lib.hid (HS.out.below hb52)
            replace HMK := Lib.hid (ext_trans HMK.out hb52)
            clear hb52 a53 a54
            replace HS := Lib.hid (HS.out.addQ hv52)
            clear hv52
            refine rdA (i := 23) rfl (fun K hK => ?_)
            go_simp
            obtain ⟨c55, hc55⟩ : ∃ κ, κ = cmpR (h1 - ah) ri := ⟨_, rfl⟩
            have HC55 := Lib.hid hc55
            clear hc55
            have a56 := HS.out.q 0 _ _ rfl
            have a57 := HS.out.q 6 _ _ rfl
            go_wp2_with (go_at_call 89; (with_reducible refine (qcmp_any (h1 - ah) ri _ _ _ a56 a57 (szQ_mono (szQ_of (szR_sub SH1.out SAH.out)) (by omega)) (szQ_mono (szQ_of SI.out) (by omega))).mono ?_); rw [← HC55.out]; rintro e w55 ⟨rfl, hb55⟩)
            refine hK.out _ _ (Sx.below hh hb55) (fun hh => ?_)
            clear hK K
            try simp only [nbs, Act.put]
            replace HS := Lib.hid (HS.out.below hb55)
            replace HMK := Lib.hid (ext_trans HMK.out hb55)
            clear hb55 a56 a57
            by_cases t58p : c55 ≤ 0
            ·
             have t58 : decide (c55 ≤ 0) = true := decide_eq_true t58p
             have T58 := Lib.hid t58p
             clear t58p
             refine tkB (i := 24) (v := ?vk59) rfl ?hk59 ?rk59
             case hk59 => intro u hSu; go_simp <;> with_reducible rfl
             try simp only [nbs, Act.put]
             refine tkB (i := 25) (v := ?vk60) rfl ?hk60 ?rk60
             case hk60 => intro u hSu; go_simp <;> with_reducible rfl
             try simp only [nbs, Act.put]
             refine tkB (i := 26) (v := ?vk61) rfl ?hk61 ?rk61
             case hk61 => intro u hSu; go_simp <;> with_reducible rfl
             try simp only [nbs, Act.put]
             refine wpAnyH_done (by kernel_rfl) ?_ _
             obtain ⟨b3c0, b3c1, b3c2, b3c3, b3c4, b3c5, b3f0, b3f1, b3f2, b3f3, b3f4, b3f5⟩ := fac6 (x := ah0) (y := ah1) (HS.out.at 0 _ _ _ rfl)
             have b3l := blk_lt (HS.out.at 0 _ _ _ rfl)
             have Tc0 := (HMK.out.cell (p := ⟨b, off + i * 6, none⟩) HBL.out).trans T0.out
             have Tc1 := (HMK.out.cell (p := ⟨b, off + i * 6 + 1, none⟩) HBL.out).trans T1.out
             have Tc2 := (HMK.out.cell (p := ⟨b, off + i * 6 + 2, none⟩) HBL.out).trans T2.out
             have Tc3 := (HMK.out.cell (p := ⟨b, off + i * 6 + 3, none⟩) HBL.out).trans T3.out
             have Tc4 := (HMK.out.cell (p := ⟨b, off + i * 6 + 4, none⟩) HBL.out).trans T4.out
             have Tc5 := (HMK.out.cell (p := ⟨b, off + i * 6 + 5, none⟩) HBL.out).trans T5.out
             go_wp2_with fail
             clear b3c0 b3c1 b3c2 b3c3 b3c4 b3c5 b3f0 b3f1 b3f2 b3f3 b3f4 b3f5 b3l Tc0 Tc1 Tc2 Tc3 Tc4 Tc5
             generalize hW62 : ((((((w55).setCell _ _).setCell _ _).setCell _ _).setCell _ _).setCell _ _).setCell _ _ = W62 at *
             replace HS := Lib.hid (((HS.out).st_RR 0 ah0 ah1 Tx Ty rfl).to hW62 (by (try simp only [nb5, nb6]); rfl))
             replace HMK : Hid (Below w3.heap.size w3 W62) := by subst hW62; exact Lib.hid ((mk_set (mk_set (mk_set (mk_set (mk_set (mk_set HMK.out HG12.out) HG12.out) HG12.out) HG12.out) HG12.out) HG12.out))
             clear hW62
             exact ⟨⟨i + 1, Tx, Ty, by have := HLT.out; omega, by go_num, (by rw [HNW.out] <;> first | rfl | go_num), (by rw [HB1.out, HNW.out, mt_long, ← HLB.out] <;> first | rfl | (simp only [t26, Bool.and_true, Bool.true_and, Bool.and_false, Bool.false_and, Bool.or_true, Bool.true_or, Bool.or_false, Bool.false_or, Bool.not_true, Bool.not_false, cond_true, cond_false]; done) | (simp [t26]; done) | (simp only [t26, Bool.and_true, Bool.true_and, Bool.and_false, Bool.false_and, Bool.or_true, Bool.true_or, Bool.or_false, Bool.false_or, Bool.not_true, Bool.not_false, cond_true, cond_false]; rfl)), (by rw [HO1.out, ← HOB.out, HBD.out] <;> first | rfl | simp only [← HC6.out, ← HC8.out, ← HC21.out, ← HC37.out, ← HC55.out, HZ2.out, t4, t5, t7, t9, t26, t28, t40, t58, Bool.and_true, Bool.true_and, Bool.and_false, Bool.false_and, Bool.or_true, Bool.true_or, Bool.or_false, Bool.false_or, Bool.not_true, Bool.not_false, cond_true, cond_false] | simp [← HC6.out, ← HC8.out, ← HC21.out, ← HC37.out, ← HC55.out, HZ2.out, t4, t5, t7, t9, t26, t28, t40, t58]), Lib.hid (((((((HS.out.bare).addQ (HS.out.q 8 _ _ rfl)).addQ (HS.out.q 7 _ _ rfl)).addQ (HS.out.q 6 _ _ rfl)).addQ (HS.out.q 5 _ _ rfl)).addQ (by rw [HP1.out]; exact (HS.out.q 2 _ _ rfl))).addQ (by rw [HP2.out]; exact (HS.out.q 1 _ _ rfl))), HMK⟩, meas_up HLT.out⟩
            ·
             have t58 : decide (c55 ≤ 0) = false := decide_eq_false t58p
             have T58 := Lib.hid t58p
             clear t58p
             refine tkB (i := 24) (v := ?vk63) rfl ?hk63 ?rk63
             case hk63 => intro u hSu; go_simp <;> with_reducible rfl
             try simp only [nbs, Act.put]
             refine tkB (i := 25) (v := ?vk64) rfl ?hk64 ?rk64
             case hk64 => intro u hSu; go_simp <;> with_reducible rfl
             try simp only [nbs, Act.put]
             refine tkB (i := 26) (v := ?vk65) rfl ?hk65 ?rk65
             case hk65 => intro u hSu; go_simp <;> with_reducible rfl
             try simp only [nbs, Act.put]
             refine wpAnyH_done (by kernel_rfl) ?_ _
             obtain ⟨b3c0, b3c1, b3c2, b3c3, b3c4, b3c5, b3f0, b3f1, b3f2, b3f3, b3f4, b3f5⟩ := fac6 (x := ah0) (y := ah1) (HS.out.at 0 _ _ _ rfl)
             have b3l := blk_lt (HS.out.at 0 _ _ _ rfl)
             have Tc0 := (HMK.out.cell (p := ⟨b, off + i * 6, none⟩) HBL.out).trans T0.out
             have Tc1 := (HMK.out.cell (p := ⟨b, off + i * 6 + 1, none⟩) HBL.out).trans T1.out
             have Tc2 := (HMK.out.cell (p := ⟨b, off + i * 6 + 2, none⟩) HBL.out).trans T2.out
             have Tc3 := (HMK.out.cell (p := ⟨b, off + i * 6 + 3, none⟩) HBL.out).trans T3.out
             have Tc4 := (HMK.out.cell (p := ⟨b, off + i * 6 + 4, none⟩) HBL.out).trans T4.out
             have Tc5 := (HMK.out.cell (p := ⟨b, off + i * 6 + 5, none⟩) HBL.out).trans T5.out
             go_wp2_with fail
             clear b3c0 b3c1 b3c2 b3c3 b3c4 b3c5 b3f0 b3f1 b3f2 b3f3 b3f4 b3f5 b3l Tc0 Tc1 Tc2 Tc3 Tc4 Tc5
             generalize hW66 : ((((((w55).setCell _ _).setCell _ _).setCell _ _).setCell _ _).setCell _ _).setCell _ _ = W66 at *
             replace HS := Lib.hid (((HS.out).st_RR 0 ah0 ah1 Tx Ty rfl).to hW66 (by (try simp only [nb5, nb6]); rfl))
             replace HMK : Hid (Below w3.heap.size w3 W66) := by subst hW66; exact Lib.hid ((mk_set (mk_set (mk_set (mk_set (mk_set (mk_set HMK.out HG12.out) HG12.out) HG12.out) HG12.out) HG12.out) HG12.out))
             clear hW66
             exact ⟨⟨i + 1, Tx, Ty, by have := HLT.out; omega, by go_num, (by rw [HNW.out] <;> first | rfl | go_num), (by rw [HB1.out, HNW.out, mt_long, ← HLB.out] <;> first | rfl | (simp only [t26, Bool.and_true, Bool.true_and, Bool.and_false, Bool.false_and, Bool.or_true, Bool.true_or, Bool.or_false, Bool.false_or, Bool.not_true, Bool.not_false, cond_true, cond_false]; done) | (simp [t26]; done) | (simp only [t26, Bool.and_true, Bool.true_and, Bool.and_false, Bool.false_and, Bool.or_true, Bool.true_or, Bool.or_false, Bool.false_or, Bool.not_true, Bool.not_false, cond_true, cond_false]; rfl)), (by rw [HO1.out, ← HOB.out, HBD.out] <;> first | rfl | simp only [← HC6.out, ← HC8.out, ← HC21.out, ← HC37.out, ← HC55.out, HZ2.out, t4, t5, t7, t9, t26, t28, t40, t58, Bool.and_true, Bool.true_and, Bool.and_false, Bool.false_and, Bool.or_true, Bool.true_or, Bool.or_false, Bool.false_or, Bool.not_true, Bool.not_false, cond_true, cond_false] | simp [← HC6.out, ← HC8.out, ← HC21.out, ← HC37.out, ← HC55.out, HZ2.out, t4, t5, t7, t9, t26, t28, t40, t58]), Lib.hid (((((((HS.out.bare).addQ (HS.out.q 8 _ _ rfl)).addQ (HS.out.q 7 _ _ rfl)).addQ (HS.out.q 6 _ _ rfl)).addQ (HS.out.q 5 _ _ rfl)).addQ (by rw [HP1.out]; exact (HS.out.q 2 _ _ rfl))).addQ (by rw [HP2.out]; exact (HS.out.q 1 _ _ rfl))), HMK⟩, meas_up HLT.out⟩
           ·
            have t40 : decide (c37 ≤ 0) = false := decide_eq_false t40p
            have T40 := Lib.hid t40p
            clear t40p
            refine tkB (i := 10) (v := ?vk67) rfl ?hk67 ?rk67
            case hk67 => intro u hSu; go_simp <;> with_reducible rfl
            try simp only [nbs, Act.put]
            refine tkB (i := 11) (v := ?vk68) rfl ?hk68 ?rk68
            case hk68 => intro u hSu; go_simp <;> with_reducible rfl
            try simp only [nbs, Act.put]
            refine tkB (i := 12) (v := ?vk69) rfl ?hk69 ?rk69
            case hk69 => intro u hSu; go_simp <;> with_reducible rfl
            try simp only [nbs, Act.put]
            refine tkC (i := 13) rfl ?_
            try simp only [nbs, Act.put]
            refine tkC (i := 14) rfl ?_
            try simp only [nbs, Act.put]
            refine tkC (i := 15) rfl ?_
            try simp only [nbs, Act.put]
            refine tkC (i := 16) rfl ?_
            try simp only [nbs, Act.put]
            refine tkC (i := 17) rfl ?_
            try simp only [nbs, Act.put]
            refine tkC (i := 18) rfl ?_
            try simp only [nbs, Act.put]
            refine tkC (i := 19) rfl ?_
            try simp only [nbs, Act.put]
            refine tkC (i := 20) rfl ?_
            try simp only [nbs, Act.put]
            refine tkC (i := 21) rfl ?_
            try simp only [nbs, Act.put]
            refine tkC (i := 22) rfl ?_
            try simp only [nbs, Act.put]
            refine tkC (i := 23) rfl ?_
            try simp only [nbs, Act.put]
            refine tkC (i := 24) rfl ?_
            try simp only [nbs, Act.put]
            refine tkB (i := 25) (v := ?vk70) rfl ?hk70 ?rk70
            case hk70 => intro u hSu; go_simp <;> with_reducible rfl
            try simp only [nbs, Act.put]
            refine tkB (i := 26) (v := ?vk71) rfl ?hk71 ?rk71
            case hk71 => intro u hSu; go_simp <;> with_reducible rfl
            try simp only [nbs, Act.put]
            refine wpAnyH_done (by kernel_rfl) ?_ _
            obtain ⟨b3c0, b3c1, b3c2, b3c3, b3c4, b3c5, b3f0, b3f1, b3f2, b3f3, b3f4, b3f5⟩ := fac6 (x := ah0) (y := ah1) (HS.out.at 0 _ _ _ rfl)
            have b3l := blk_lt (HS.out.at 0 _ _ _ rfl)
            have Tc0 := (HMK.out.cell (p := ⟨b, off + i * 6, none⟩) HBL.out).trans T0.out
            have Tc1 := (HMK.out.cell (p := ⟨b, off + i * 6 + 1, none⟩) HBL.out).trans T1.out
            have Tc2 := (HMK.out.cell (p := ⟨b, off + i * 6 + 2, none⟩) HBL.out).trans T2.out
            have Tc3 := (HMK.out.cell (p := ⟨b, off + i * 6 + 3, none⟩) HBL.out).trans T3.out
            have Tc4 := (HMK.out.cell (p := ⟨b, off + i * 6 + 4, none⟩) HBL.out).trans T4.out
            have Tc5 := (HMK.out.cell (p := ⟨b, off + i * 6 + 5, none⟩) HBL.out).trans T5.out
            go_wp2_with fail
            clear b3c0 b3c1 b3c2 b3c3 b3c4 b3c5 b3f0 b3f1 b3f2 b3f3 b3f4 b3f5 b3l Tc0 Tc1 Tc2 Tc3 Tc4 Tc5
            generalize hW72 : ((((((w37).setCell _ _).setCell _ _).setCell _ _).setCell _ _).setCell _ _).setCell _ _ = W72 at *
            replace HS := Lib.hid (((HS.out).st_RR 0 ah0 ah1 Tx Ty rfl).to hW72 (by (try simp only [nb5, nb6]); rfl))
            replace HMK : Hid (Below w3.heap.size w3 W72) := by subst hW72; exact Lib.hid ((mk_set (mk_set (mk_set (mk_set (mk_set (mk_set HMK.out HG12.out) HG12.out) HG12.out) HG12.out) HG12.out) HG12.out))
            clear hW72
            exact ⟨⟨i + 1, Tx, Ty, by have := HLT.out; omega, by go_num, (by rw [HNW.out] <;> first | rfl | go_num), (by rw [HB1.out, HNW.out, mt_long, ← HLB.out] <;> first | rfl | (simp only [t26, Bool.and_true, Bool.true_and, Bool.and_false, Bool.false_and, Bool.or_true, Bool.true_or, Bool.or_false, Bool.false_or, Bool.not_true, Bool.not_false, cond_true, cond_false]; done) | (simp [t26]; done) | (simp only [t26, Bool.and_true, Bool.true_and, Bool.and_false, Bool.false_and, Bool.or_true, Bool.true_or, Bool.or_false, Bool.false_or, Bool.not_true, Bool.not_false, cond_true, cond_false]; rfl)), (by rw [HO1.out, ← HOB.out, HBD.out] <;> first | rfl | simp only [← HC6.out, ← HC8.out, ← HC21.out, ← HC37.out, HZ2.out, t4, t5, t7, t9, t26, t28, t40, Bool.and_true, Bool.true_and, Bool.and_false, Bool.false_and, Bool.or_true, Bool.true_or, Bool.or_false, Bool.false_or, Bool.not_true, Bool.not_false, cond_true, cond_false] | simp [← HC6.out, ← HC8.out, ← HC21.out, ← HC37.out, HZ2.out, t4, t5, t7, t9, t26, t28, t40]), Lib.hid (((((((HS.out.bare).addQ (HS.out.q 7 _ _ rfl)).addQ (HS.out.q 6 _ _ rfl)).addQ (HS.out.q 5 _ _ rfl)).addQ (HS.out.q 4 _ _ rfl)).addQ (by rw [HP1.out]; exact (HS.out.q 1 _ _ rfl))).addQ (by rw [HP2.out]; exact (HS.out.q 0 _ _ rfl))), HMK⟩, meas_up HLT.out⟩
          | false =>
           refine tkB (i := 0) (v := ?vk73) rfl ?hk73 ?rk73
           case hk73 => intro u hSu; go_simp <;> with_reducible rfl
           try simp only [nbs, Act.put]
           refine tkB (i := 1) (v := ?vk74) rfl ?hk74 ?rk74
           case hk74 => intro u hSu; go_simp <;> with_reducible rfl
           try simp only [nbs, Act.put]
           refine tkC (i := 2) rfl ?_
           try simp only [nbs, Act.put]
           refine tkC (i := 3) rfl ?_
           try simp only [nbs, Act.put]
           refine tkC (i := 4) rfl ?_
           try simp only [nbs, Act.put]
           refine tkC (i := 5) rfl ?_
           try simp only [nbs, Act.put]
           refine tkC (i := 6) rfl ?_
           try simp only [nbs, Act.put]
           refine tkC (i := 7) rfl ?_
           try simp only [nbs, Act.put]
           refine tkC (i := 8) rfl ?_
           try simp only [nbs, Act.put]
           refine tkC (i := 9) rfl ?_
           try simp only [nbs, Act.put]
           refine tkC (i := 10) rfl ?_
           try simp only [nbs, Act.put]
           refine tkB (i := 11) (v := ?vk75) rfl ?hk75 ?rk75
           case hk75 => intro u hSu; go_simp <;> with_reducible rfl
           try simp only [nbs, Act.put]
           refine tkB (i := 12) (v := ?vk76) rfl ?hk76 ?rk76
           case hk76 => intro u hSu; go_simp <;> with_reducible rfl
           try simp only [nbs, Act.put]
           refine tkC (i := 13) rfl ?_
           try simp only [nbs, Act.put]
           refine tkC (i := 14) rfl ?_
           try simp only [nbs, Act.put]
           refine tkC (i := 15) rfl ?_
           try simp only [nbs, Act.put]
           refine tkC (i := 16) rfl ?_
           try simp only [nbs, Act.put]
           refine tkC (i := 17) rfl ?_
           try simp only [nbs, Act.put]
           refine tkC (i := 18) rfl ?_
           try simp only [nbs, Act.put]
           refine tkC (i := 19) rfl ?_
           try simp only [nbs, Act.put]
           refine tkC (i := 20) rfl ?_
           try simp only [nbs, Act.put]
           refine tkC (i := 21) rfl ?_
           try simp only [nbs, Act.put]
           refine tkC (i := 22) rfl ?_
           try simp only [nbs, Act.put]
           refine tkC (i := 23) rfl ?_
           try simp only [nbs, Act.put]
           refine tkC (i := 24) rfl ?_
           try simp only [nbs, Act.put]
           refine tkB (i := 25) (v := ?vk77) rfl ?hk77 ?rk77
           case hk77 => intro u hSu; go_simp <;> with_reducible rfl
           try simp only [nbs, Act.put]
           refine tkB (i := 26) (v := ?vk78) rfl ?hk78 ?rk78
           case hk78 => intro u hSu; go_simp <;> with_reducible rfl
           try simp only [nbs, Act.put]
           refine wpAnyH_done (by kernel_rfl) ?_ _
           generalize w21.drew = Wd79 at *
           obtain ⟨b3c0, b3c1, b3c2, b3c3, b3c4, b3c5, b3f0, b3f1, b3f2, b3f3, b3f4, b3f5⟩ := fac6 (x := ah0) (y := ah1) (HS.out.at 0 _ _ _ rfl)
           have b3l := blk_lt (HS.out.at 0 _ _ _ rfl)
           have Tc0 := (HMK.out.cell (p := ⟨b, off + i * 6, none⟩) HBL.out).trans T0.out
           have Tc1 := (HMK.out.cell (p := ⟨b, off + i * 6 + 1, none⟩) HBL.out).trans T1.out
           have Tc2 := (HMK.out.cell (p := ⟨b, off + i * 6 + 2, none⟩) HBL.out).trans T2.out
           have Tc3 := (HMK.out.cell (p := ⟨b, off + i * 6 + 3, none⟩) HBL.out).trans T3.out
           have Tc4 := (HMK.out.cell (p := ⟨b, off + i * 6 + 4, none⟩) HBL.out).trans T4.out
           have Tc5 := (HMK.out.cell (p := ⟨b, off + i * 6 + 5, none⟩) HBL.out).trans T5.out
           go_wp2_with fail
           clear b3c0 b3c1 b3c2 b3c3 b3c4 b3c5 b3f0 b3f1 b3f2 b3f3 b3f4 b3f5 b3l Tc0 Tc1 Tc2 Tc3 Tc4 Tc5
           generalize hW80 : ((((((Wd79).setCell _ _).setCell _ _).setCell _ _).setCell _ _).setCell _ _).setCell _ _ = W80 at *
           replace HS := Lib.hid (((HS.out).st_RR 0 ah0 ah1 Tx Ty rfl).to hW80 (by (try simp only [nb5, nb6]); rfl))
           replace HMK : Hid (Below w3.heap.size w3 W80) := by subst hW80; exact Lib.hid ((mk_set (mk_set (mk_set (mk_set (mk_set (mk_set HMK.out HG12.out) HG12.out) HG12.out) HG12.out) HG12.out) HG12.out))
           clear hW80
           exact ⟨⟨i + 1, Tx, Ty, by have := HLT.out; omega, by go_num, (by rw [HNW.out] <;> first | rfl | go_num), (by rw [HB1.out, HNW.out, mt_long, ← HLB.out] <;> first | rfl | (simp only [t26, Bool.and_true, Bool.true_and, Bool.and_false, Bool.false_and, Bool.or_true, Bool.true_or, Bool.or_false, Bool.false_or, Bool.not_true, Bool.not_false, cond_true, cond_false]; done) | (simp [t26]; done) | (simp only [t26, Bool.and_true, Bool.true_and, Bool.and_false, Bool.false_and, Bool.or_true, Bool.true_or, Bool.or_false, Bool.false_or, Bool.not_true, Bool.not_false, cond_true, cond_false]; rfl)), (by rw [HO1.out, ← HOB.out, HBD.out] <;> first | rfl | simp only [← HC6.out, ← HC8.out, ← HC21.out, HZ2.out, t4, t5, t7, t9, t26, t28, Bool.and_true, Bool.true_and, Bool.and_false, Bool.false_and, Bool.or_true, Bool.true_or, Bool.or_false, Bool.false_or, Bool.not_true, Bool.not_false, cond_true, cond_false] | simp [← HC6.out, ← HC8.out, ← HC21.out, HZ2.out, t4, t5, t7, t9, t26, t28]), Lib.hid (((((((HS.out.bare).addQ (HS.out.q 7 _ _ rfl)).addQ (HS.out.q 6 _ _ rfl)).addQ (HS.out.q 5 _ _ rfl)).addQ (HS.out.q 4 _ _ rfl)).addQ (by rw [HP1.out]; exact (HS.out.q 1 _ _ rfl))).addQ (by rw [HP2.out]; exact (HS.out.q 0 _ _ rfl))), HMK⟩, meas_up HLT.out⟩
         | false =>
          have b2e := (HS.out.at 1 _ _ _ rfl)
          have b2c0 := blk_cell b2e 0 (.bool y1.b) rfl
          have b2c1 := blk_cell b2e 1 (.slice y1.a y1.n y1.c) rfl
          have b2c2 := blk_cell b2e 2 (.slice y1.d y1.m y1.e) rfl
          have b2c3 := blk_cell b2e 3 (.bool y2.b) rfl
          have b2c4 := blk_cell b2e 4 (.slice y2.a y2.n y2.c) rfl
          have b2c5 := blk_cell b2e 5 (.slice y2.d y2.m y2.e) rfl
          have b2c6 := blk_cell b2e 6 (.bool y3.b) rfl
          have b2c7 := blk_cell b2e 7 (.slice y3.a y3.n y3.c) rfl
          have b2c8 := blk_cell b2e 8 (.slice y3.d y3.m y3.e) rfl
          have b2c9 := blk_cell b2e 9 (.int .i64 m) rfl
          have b2f0 := blk_frozen b2e 0
          have b2f1 := blk_frozen b2e 1
          have b2f2 := blk_frozen b2e 2
          have b2f3 := blk_frozen b2e 3
          have b2f4 := blk_frozen b2e 4
          have b2f5 := blk_frozen b2e 5
          have b2f6 := blk_frozen b2e 6
          have b2f7 := blk_frozen b2e 7
          have b2f8 := blk_frozen b2e 8
          have b2f9 := blk_frozen b2e 9
          have b2l := blk_lt b2e
          clear b2e
          go_wp2_with fail
          clear b2c0 b2c1 b2c2 b2c3 b2c4 b2c5 b2c6 b2c7 b2c8 b2c9 b2f0 b2f1 b2f2 b2f3 b2f4 b2f5 b2f6 b2f7 b2f8 b2f9 b2l
          refine wp_region_held_drew (S := (fun w' => Sx w w' [(w10.heap.size, arr6 ah0 ah1, 42), (w.heap.size + 2, #[.bool y1.b, .slice y1.a y1.n y1.c, .slice y1.d y1.m y1.e, .bool y2.b, .slice y2.a y2.n y2.c, .slice y2.d y2.m y2.e, .bool y3.b, .slice y3.a y3.n y3.c, .slice y3.d y3.m y3.e, .int .i64 m], 67), (w.heap.size + 1, x3.arr, 40), (w.heap.size, arr6 x1 x2, 63)] [])) (by kernel_rfl) ((HS.out.drew).bare) (fun hh => ?_)
          replace HS := Lib.hid HS.out.drew
          replace HMK := Lib.hid (ext_trans HMK.out (Below.refl _ _).drew)
          cases t82 : ob with
          | true =>
           refine tkB (i := 0) (v := ?vk83) rfl ?hk83 ?rk83
           case hk83 => intro u hSu; go_simp <;> with_reducible rfl
           try simp only [nbs, Act.put]
           refine tkB (i := 1) (v := ?vk84) rfl ?hk84 ?rk84
           case hk84 => intro u hSu; go_simp <;> with_reducible rfl
           try simp only [nbs, Act.put]
           refine tkB (i := 2) (v := ?vk85) rfl ?hk85 ?rk85
           case hk85 => intro u hSu; go_simp <;> with_reducible rfl
           try simp only [nbs, Act.put]
           refine tkB (i := 3) (v := ?vk86) rfl ?hk86 ?rk86
           case hk86 => intro u hSu; go_simp <;> with_reducible rfl
           try simp only [nbs, Act.put]
           refine tkB (i := 4) (v := ?vk87) rfl ?hk87 ?rk87
           case hk87 => intro u hSu; go_simp <;> with_reducible rfl
           try simp only [nbs, Act.put]
           refine tkB (i := 5) (v := ?vk88) rfl ?hk88 ?rk88
           case hk88 => intro u hSu; go_simp <;> with_reducible rfl
           try simp only [nbs, Act.put]
           refine tkB (i := 7) (v := ?vk89) rfl ?hk89 ?rk89
           case hk89 => intro u hSu; go_simp <;> with_reducible rfl
           try simp only [nbs, Act.put]
           refine tkB (i := 8) (v := ?vk90) rfl ?hk90 ?rk90
           case hk90 => intro u hSu; (try dsimp only at hSu); have qb2e := (hSu.at 1 _ _ _ rfl); have qb2c0 := blk_cell qb2e 0 (.bool y1.b) rfl; have qb2c1 := blk_cell qb2e 1 (.slice y1.a y1.n y1.c) rfl; have qb2c2 := blk_cell qb2e 2 (.slice y1.d y1.m y1.e) rfl; have qb2c3 := blk_cell qb2e 3 (.bool y2.b) rfl; have qb2c4 := blk_cell qb2e 4 (.slice y2.a y2.n y2.c) rfl; have qb2c5 := blk_cell qb2e 5 (.slice y2.d y2.m y2.e) rfl; have qb2c6 := blk_cell qb2e 6 (.bool y3.b) rfl; have qb2c7 := blk_cell qb2e 7 (.slice y3.a y3.n y3.c) rfl; have qb2c8 := blk_cell qb2e 8 (.slice y3.d y3.m y3.e) rfl; have qb2c9 := blk_cell qb2e 9 (.int .i64 m) rfl; clear qb2e; clear hSu; go_simp <;> with_reducible rfl
           try simp only [nbs, Act.put]
           refine rdA (i := 6) rfl (fun K hK => ?_)
           have Tc0 := (HMK.out.cell (p := ⟨b, off + i * 6, none⟩) HBL.out).trans T0.out
           have Tc1 := (HMK.out.cell (p := ⟨b, off + i * 6 + 1, none⟩) HBL.out).trans T1.out
           have Tc2 := (HMK.out.cell (p := ⟨b, off + i * 6 + 2, none⟩) HBL.out).trans T2.out
           have Tc3 := (HMK.out.cell (p := ⟨b, off + i * 6 + 3, none⟩) HBL.out).trans T3.out
           have Tc4 := (HMK.out.cell (p := ⟨b, off + i * 6 + 4, none⟩) HBL.out).trans T4.out
           have Tc5 := (HMK.out.cell (p := ⟨b, off + i * 6 + 5, none⟩) HBL.out).trans T5.out
           go_simp
           refine hK.out _ _ hh (fun hh => ?_)
           clear hK K Tc0 Tc1 Tc2 Tc3 Tc4 Tc5
           try simp only [nbs, Act.put]
           refine rdA (i := 9) rfl (fun K hK => ?_)
           go_simp
           obtain ⟨c91, hc91⟩ : ∃ κ, κ = cmpR h1 mo := ⟨_, rfl⟩
           have HC91 := Lib.hid hc91
           clear hc91
           have a92 := HS.out.q 0 _ _ rfl
           have a93 := HS.out.q 6 _ _ rfl
           go_wp2_with (go_at_call 89; (with_reducible refine (qcmp_any h1 mo _ _ _ a92 a93 (szQ_mono (szQ_of SH1.out) (by omega)) (szQ_mono (szQ_of SM.out) (by omega))).mono ?_); rw [← HC91.out]; rintro e w91 ⟨rfl, hb91⟩)
           refine hK.out _ _ (Sx.below hh hb91) (fun hh => ?_)
           clear hK K
           try simp only [nbs, Act.put]
           replace HS := Lib.hid (HS.out.below hb91)
           replace HMK := Lib.hid (ext_trans HMK.out hb91)
           clear hb91 a92 a93
           by_cases t94p : c91 ≤ 0
           ·
            have t94 : decide (c91 ≤ 0) = true := decide_eq_true t94p
            have T94 := Lib.hid t94p
            clear t94p
            refine tkB (i := 10) (v := ?vk95) rfl ?hk95 ?rk95
            case hk95 => intro u hSu; go_simp <;> with_reducible rfl
            try simp only [nbs, Act.put]
            refine tkB (i := 11) (v := ?vk96) rfl ?hk96 ?rk96
            case hk96 => intro u hSu; go_simp <;> with_reducible rfl
            try simp only [nbs, Act.put]
            refine tkB (i := 12) (v := ?vk97) rfl ?hk97 ?rk97
            case hk97 => intro u hSu; go_simp <;> with_reducible rfl
            try simp only [nbs, Act.put]
            refine tkB (i := 13) (v := ?vk98) rfl ?hk98 ?rk98
            case hk98 => intro u hSu; go_simp <;> with_reducible rfl
            try simp only [nbs, Act.put]
            refine tkB (i := 14) (v := ?vk99) rfl ?hk99 ?rk99
            case hk99 => intro u hSu; go_simp <;> with_reducible rfl
            try simp only [nbs, Act.put]
            refine tkB (i := 15) (v := ?vk100) rfl ?hk100 ?rk100
            case hk100 => intro u hSu; go_simp <;> with_reducible rfl
            try simp only [nbs, Act.put]
            refine tkB (i := 16) (v := ?vk101) rfl ?hk101 ?rk101
            case hk101 => intro u hSu; go_simp <;> with_reducible rfl
            try simp only [nbs, Act.put]
            refine tkB (i := 18) (v := ?vk102) rfl ?hk102 ?rk102
            case hk102 => intro u hSu; go_simp <;> with_reducible rfl
            try simp only [nbs, Act.put]
            refine tkB (i := 19) (v := ?vk103) rfl ?hk103 ?rk103
            case hk103 => intro u hSu; (try dsimp only at hSu); obtain ⟨qb3c0, qb3c1, qb3c2, qb3c3, qb3c4, qb3c5, _⟩ := fac6 (x := ah0) (y := ah1) (hSu.at 0 _ _ _ rfl); clear hSu; go_simp <;> with_reducible rfl
            try simp only [nbs, Act.put]
            refine tkB (i := 21) (v := ?vk104) rfl ?hk104 ?rk104
            case hk104 => intro u hSu; go_simp <;> with_reducible rfl
            try simp only [nbs, Act.put]
            refine tkB (i := 22) (v := ?vk105) rfl ?hk105 ?rk105
            case hk105 => intro u hSu; (try dsimp only at hSu); have qb2e := (hSu.at 1 _ _ _ rfl); have qb2c0 := blk_cell qb2e 0 (.bool y1.b) rfl; have qb2c1 := blk_cell qb2e 1 (.slice y1.a y1.n y1.c) rfl; have qb2c2 := blk_cell qb2e 2 (.slice y1.d y1.m y1.e) rfl; have qb2c3 := blk_cell qb2e 3 (.bool y2.b) rfl; have qb2c4 := blk_cell qb2e 4 (.slice y2.a y2.n y2.c) rfl; have qb2c5 := blk_cell qb2e 5 (.slice y2.d y2.m y2.e) rfl; have qb2c6 := blk_cell qb2e 6 (.bool y3.b) rfl; have qb2c7 := blk_cell qb2e 7 (.slice y3.a y3.n y3.c) rfl; have qb2c8 := blk_cell qb2e 8 (.slice y3.d y3.m y3.e) rfl; have qb2c9 := blk_cell qb2e 9 (.int .i64 m) rfl; clear qb2e; clear hSu; go_simp <;> with_reducible rfl
            try simp only [nbs, Act.put]
            refine rdA (i := 17) rfl (fun K hK => ?_)
            have Tc0 := (HMK.out.cell (p := ⟨b, off + i * 6, none⟩) HBL.out).trans T0.out
            have Tc1 := (HMK.out.cell (p := ⟨b, off + i * 6 + 1, none⟩) HBL.out).trans T1.out
            have Tc2 := (HMK.out.cell (p := ⟨b, off + i * 6 + 2, none⟩) HBL.out).trans T2.out
            have Tc3 := (HMK.out.cell (p := ⟨b, off + i * 6 + 3, none⟩) HBL.out).trans T3.out
            have Tc4 := (HMK.out.cell (p := ⟨b, off + i * 6 + 4, none⟩) HBL.out).trans T4.out
            have Tc5 := (HMK.out.cell (p := ⟨b, off + i * 6 + 5, none⟩) HBL.out).trans T5.out
            go_simp
            refine hK.out _ _ hh (fun hh => ?_)
            clear hK K Tc0 Tc1 Tc2 Tc3 Tc4 Tc5
            try simp only [nbs, Act.put]
            refine rdA (i := 20) rfl (fun K hK => ?_)
            go_simp
            have a107 := HS.out.q 0 _ _ rfl
            have a108 := HS.out.q 3 _ _ rfl
            go_wp2_with (go_at_call 90; (with_reducible refine (qsub_any h1 ah _ _ _ a107 a108 (szQ_mono (szQ_of SH1.out) (by omega)) (szQ_mono (szQ_of SAH.out) (by omega))).mono ?_); rintro e w106 ⟨v106, rfl, hv106, hb106⟩; obtain ⟨z106, rfl⟩ := hv106.open3)
            refine hK.out _ _ (Sx.below hh hb106) (fun hh => ?_)
            clear hK K
            try simp only [nbs, Act.put]
            replace HS := Lib.hid (HS.out.below hb106)
            replace HMK := Lib.hid (ext_trans HMK.out hb106)
            clear hb106 a107 a108
            replace HS := Lib.hid (HS.out.addQ hv106)
            clear hv106
            refine rdA (i := 23) rfl (fun K hK => ?_)
            go_simp
            obtain ⟨c109, hc109⟩ : ∃ κ, κ = cmpR (h1 - ah) ri := ⟨_, rfl⟩
            have HC109 := Lib.hid hc109
            clear hc109
            have a110 := HS.out.q 0 _ _ rfl
            have a111 := HS.out.q 6 _ _ rfl
            go_wp2_with (go_at_call 89; (with_reducible refine (qcmp_any (h1 - ah) ri _ _ _ a110 a111 (szQ_mono (szQ_of (szR_sub SH1.out SAH.out)) (by omega)) (szQ_mono (szQ_of SI.out) (by omega))).mono ?_); rw [← HC109.out]; rintro e w109 ⟨rfl, hb109⟩)
            refine hK.out _ _ (Sx.below hh hb109) (fun hh => ?_)
            clear hK K
            try simp only [nbs, Act.put]
            replace HS := Lib.hid (HS.out.below hb109)
            replace HMK := Lib.hid (ext_trans HMK.out hb109)
            clear hb109 a110 a111
            by_cases t112p : c109 ≤ 0
            ·
             have t112 : decide (c109 ≤ 0) = true := decide_eq_true t112p
             have T112 := Lib.hid t112p
             clear t112p
             refine tkB (i := 24) (v := ?vk113) rfl ?hk113 ?rk113
             case hk113 => intro u hSu; go_simp <;> with_reducible rfl
             try simp only [nbs, Act.put]
             refine tkB (i := 25) (v := ?vk114) rfl ?hk114 ?rk114
             case hk114 => intro u hSu; go_simp <;> with_reducible rfl
             try simp only [nbs, Act.put]
             refine tkB (i := 26) (v := ?vk115) rfl ?hk115 ?rk115
             case hk115 => intro u hSu; go_simp <;> with_reducible rfl
             try simp only [nbs, Act.put]
             refine wpAnyH_done (by kernel_rfl) ?_ _
             obtain ⟨b3c0, b3c1, b3c2, b3c3, b3c4, b3c5, b3f0, b3f1, b3f2, b3f3, b3f4, b3f5⟩ := fac6 (x := ah0) (y := ah1) (HS.out.at 0 _ _ _ rfl)
             have b3l := blk_lt (HS.out.at 0 _ _ _ rfl)
             have Tc0 := (HMK.out.cell (p := ⟨b, off + i * 6, none⟩) HBL.out).trans T0.out
             have Tc1 := (HMK.out.cell (p := ⟨b, off + i * 6 + 1, none⟩) HBL.out).trans T1.out
             have Tc2 := (HMK.out.cell (p := ⟨b, off + i * 6 + 2, none⟩) HBL.out).trans T2.out
             have Tc3 := (HMK.out.cell (p := ⟨b, off + i * 6 + 3, none⟩) HBL.out).trans T3.out
             have Tc4 := (HMK.out.cell (p := ⟨b, off + i * 6 + 4, none⟩) HBL.out).trans T4.out
             have Tc5 := (HMK.out.cell (p := ⟨b, off + i * 6 + 5, none⟩) HBL.out).trans T5.out
             go_wp2_with fail
             clear b3c0 b3c1 b3c2 b3c3 b3c4 b3c5 b3f0 b3f1 b3f2 b3f3 b3f4 b3f5 b3l Tc0 Tc1 Tc2 Tc3 Tc4 Tc5
             generalize hW116 : ((((((w109).setCell _ _).setCell _ _).setCell _ _).setCell _ _).setCell _ _).setCell _ _ = W116 at *
             replace HS := Lib.hid (((HS.out).st_RR 0 ah0 ah1 Tx Ty rfl).to hW116 (by (try simp only [nb5, nb6]); rfl))
             replace HMK : Hid (Below w3.heap.size w3 W116) := by subst hW116; exact Lib.hid ((mk_set (mk_set (mk_set (mk_set (mk_set (mk_set HMK.out HG12.out) HG12.out) HG12.out) HG12.out) HG12.out) HG12.out))
             clear hW116
             exact ⟨⟨i + 1, Tx, Ty, by have := HLT.out; omega, by go_num, (by rw [HNW.out] <;> first | rfl | go_num), (by rw [HB1.out, HNW.out, mt_long, ← HLB.out] <;> first | rfl | (simp only [t26, Bool.and_true, Bool.true_and, Bool.and_false, Bool.false_and, Bool.or_true, Bool.true_or, Bool.or_false, Bool.false_or, Bool.not_true, Bool.not_false, cond_true, cond_false]; done) | (simp [t26]; done) | (simp only [t26, Bool.and_true, Bool.true_and, Bool.and_false, Bool.false_and, Bool.or_true, Bool.true_or, Bool.or_false, Bool.false_or, Bool.not_true, Bool.not_false, cond_true, cond_false]; rfl)), (by rw [HO1.out, ← HOB.out, HBD.out] <;> first | rfl | simp only [← HC6.out, ← HC8.out, ← HC21.out, ← HC91.out, ← HC109.out, HZ2.out, t4, t5, t7, t9, t26, t82, t94, t112, Bool.and_true, Bool.true_and, Bool.and_false, Bool.false_and, Bool.or_true, Bool.true_or, Bool.or_false, Bool.false_or, Bool.not_true, Bool.not_false, cond_true, cond_false] | simp [← HC6.out, ← HC8.out, ← HC21.out, ← HC91.out, ← HC109.out, HZ2.out, t4, t5, t7, t9, t26, t82, t94, t112]), Lib.hid (((((((HS.out.bare).addQ (HS.out.q 8 _ _ rfl)).addQ (HS.out.q 7 _ _ rfl)).addQ (HS.out.q 6 _ _ rfl)).addQ (HS.out.q 5 _ _ rfl)).addQ (by rw [HP1.out]; exact (HS.out.q 2 _ _ rfl))).addQ (by rw [HP2.out]; exact (HS.out.q 1 _ _ rfl))), HMK⟩, meas_up HLT.out⟩
            ·
             have t112 : decide (c109 ≤ 0) = false := decide_eq_false t112p
             have T112 := Lib.hid t112p
             clear t112p
             refine tkB (i := 24) (v := ?vk117) rfl ?hk117 ?rk117
             case hk117 => intro u hSu; go_simp <;> with_reducible rfl
             try simp only [nbs, Act.put]
             refine tkB (i := 25) (v := ?vk118) rfl ?hk118 ?rk118
             case hk118 => intro u hSu; go_simp <;> with_reducible rfl
             try simp only [nbs, Act.put]
             refine tkB (i := 26) (v := ?vk119) rfl ?hk119 ?rk119
             case hk119 => intro u hSu; go_simp <;> with_reducible rfl
             try simp only [nbs, Act.put]
             refine wpAnyH_done (by kernel_rfl) ?_ _
             obtain ⟨b3c0, b3c1, b3c2, b3c3, b3c4, b3c5, b3f0, b3f1, b3f2, b3f3, b3f4, b3f5⟩ := fac6 (x := ah0) (y := ah1) (HS.out.at 0 _ _ _ rfl)
             have b3l := blk_lt (HS.out.at 0 _ _ _ rfl)
             have Tc0 := (HMK.out.cell (p := ⟨b, off + i * 6, none⟩) HBL.out).trans T0.out
             have Tc1 := (HMK.out.cell (p := ⟨b, off + i * 6 + 1, none⟩) HBL.out).trans T1.out
             have Tc2 := (HMK.out.cell (p := ⟨b, off + i * 6 + 2, none⟩) HBL.out).trans T2.out
             have Tc3 := (HMK.out.cell (p := ⟨b, off + i * 6 + 3, none⟩) HBL.out).trans T3.out
             have Tc4 := (HMK.out.cell (p := ⟨b, off + i * 6 + 4, none⟩) HBL.out).trans T4.out
             have Tc5 := (HMK.out.cell (p := ⟨b, off + i * 6 + 5, none⟩) HBL.out).trans T5.out
             go_wp2_with fail
             clear b3c0 b3c1 b3c2 b3c3 b3c4 b3c5 b3f0 b3f1 b3f2 b3f3 b3f4 b3f5 b3l Tc0 Tc1 Tc2 Tc3 Tc4 Tc5
             generalize hW120 : ((((((w109).setCell _ _).setCell _ _).setCell _ _).setCell _ _).setCell _ _).setCell _ _ = W120 at *
             replace HS := Lib.hid (((HS.out).st_RR 0 ah0 ah1 Tx Ty rfl).to hW120 (by (try simp only [nb5, nb6]); rfl))
             replace HMK : Hid (Below w3.heap.size w3 W120) := by subst hW120; exact Lib.hid ((mk_set (mk_set (mk_set (mk_set (mk_set (mk_set HMK.out HG12.out) HG12.out) HG12.out) HG12.out) HG12.out) HG12.out))
             clear hW120
             exact ⟨⟨i + 1, Tx, Ty, by have := HLT.out; omega, by go_num, (by rw [HNW.out] <;> first | rfl | go_num), (by rw [HB1.out, HNW.out, mt_long, ← HLB.out] <;> first | rfl | (simp only [t26, Bool.and_true, Bool.true_and, Bool.and_false, Bool.false_and, Bool.or_true, Bool.true_or, Bool.or_false, Bool.false_or, Bool.not_true, Bool.not_false, cond_true, cond_false]; done) | (simp [t26]; done) | (simp only [t26, Bool.and_true, Bool.true_and, Bool.and_false, Bool.false_and, Bool.or_true, Bool.true_or, Bool.or_false, Bool.false_or, Bool.not_true, Bool.not_false, cond_true, cond_false]; rfl)), (by rw [HO1.out, ← HOB.out, HBD.out] <;> first | rfl | simp only [← HC6.out, ← HC8.out, ← HC21.out, ← HC91.out, ← HC109.out, HZ2.out, t4, t5, t7, t9, t26, t82, t94, t112, Bool.and_true, Bool.true_and, Bool.and_false, Bool.false_and, Bool.or_true, Bool.true_or, Bool.or_false, Bool.false_or, Bool.not_true, Bool.not_false, cond_true, cond_false] | simp [← HC6.out, ← HC8.out, ← HC21.out, ← HC91.out, ← HC109.out, HZ2.out, t4, t5, t7, t9, t26, t82, t94, t112]), Lib.hid (((((((HS.out.bare).addQ (HS.out.q 8 _ _ rfl)).addQ (HS.out.q 7 _ _ rfl)).addQ (HS.out.q 6 _ _ rfl)).addQ (HS.out.q 5 _ _ rfl)).addQ (by rw [HP1.out]; exact (HS.out.q 2 _ _ rfl))).addQ (by rw [HP2.out]; exact (HS.out.q 1 _ _ rfl))), HMK⟩, meas_up HLT.out⟩
           ·
            have t94 : decide (c91 ≤ 0) = false := decide_eq_false t94p
            have T94 := Lib.hid t94p
            clear t94p
            refine tkB (i := 10) (v := ?vk121) rfl ?hk121 ?rk121
            case hk121 => intro u hSu; go_simp <;> with_reducible rfl
            try simp only [nbs, Act.put]
            refine tkB (i := 11) (v := ?vk122) rfl ?hk122 ?rk122
            case hk122 => intro u hSu; go_simp <;> with_reducible rfl
            try simp only [nbs, Act.put]
            refine tkB (i := 12) (v := ?vk123) rfl ?hk123 ?rk123
            case hk123 => intro u hSu; go_simp <;> with_reducible rfl
            try simp only [nbs, Act.put]
            refine tkC (i := 13) rfl ?_
            try simp only [nbs, Act.put]
            refine tkC (i := 14) rfl ?_
            try simp only [nbs, Act.put]
            refine tkC (i := 15) rfl ?_
            try simp only [nbs, Act.put]
            refine tkC (i := 16) rfl ?_
            try simp only [nbs, Act.put]
            refine tkC (i := 17) rfl ?_
            try simp only [nbs, Act.put]
            refine tkC (i := 18) rfl ?_
            try simp only [nbs, Act.put]
            refine tkC (i := 19) rfl ?_
            try simp only [nbs, Act.put]
            refine tkC (i := 20) rfl ?_
            try simp only [nbs, Act.put]
            refine tkC (i := 21) rfl ?_
            try simp only [nbs, Act.put]
            refine tkC (i := 22) rfl ?_
            try simp only [nbs, Act.put]
            refine tkC (i := 23) rfl ?_
            try simp only [nbs, Act.put]
            refine tkC (i := 24) rfl ?_
            try simp only [nbs, Act.put]
            refine tkB (i := 25) (v := ?vk124) rfl ?hk124 ?rk124
            case hk124 => intro u hSu; go_simp <;> with_reducible rfl
            try simp only [nbs, Act.put]
            refine tkB (i := 26) (v := ?vk125) rfl ?hk125 ?rk125
            case hk125 => intro u hSu; go_simp <;> with_reducible rfl
            try simp only [nbs, Act.put]
            refine wpAnyH_done (by kernel_rfl) ?_ _
            obtain ⟨b3c0, b3c1, b3c2, b3c3, b3c4, b3c5, b3f0, b3f1, b3f2, b3f3, b3f4, b3f5⟩ := fac6 (x := ah0) (y := ah1) (HS.out.at 0 _ _ _ rfl)
            have b3l := blk_lt (HS.out.at 0 _ _ _ rfl)
            have Tc0 := (HMK.out.cell (p := ⟨b, off + i * 6, none⟩) HBL.out).trans T0.out
            have Tc1 := (HMK.out.cell (p := ⟨b, off + i * 6 + 1, none⟩) HBL.out).trans T1.out
            have Tc2 := (HMK.out.cell (p := ⟨b, off + i * 6 + 2, none⟩) HBL.out).trans T2.out
            have Tc3 := (HMK.out.cell (p := ⟨b, off + i * 6 + 3, none⟩) HBL.out).trans T3.out
            have Tc4 := (HMK.out.cell (p := ⟨b, off + i * 6 + 4, none⟩) HBL.out).trans T4.out
            have Tc5 := (HMK.out.cell (p := ⟨b, off + i * 6 + 5, none⟩) HBL.out).trans T5.out
            go_wp2_with fail
            clear b3c0 b3c1 b3c2 b3c3 b3c4 b3c5 b3f0 b3f1 b3f2 b3f3 b3f4 b3f5 b3l Tc0 Tc1 Tc2 Tc3 Tc4 Tc5
            generalize hW126 : ((((((w91).setCell _ _).setCell _ _).setCell _ _).setCell _ _).setCell _ _).setCell _ _ = W126 at *
            replace HS := Lib.hid (((HS.out).st_RR 0 ah0 ah1 Tx Ty rfl).to hW126 (by (try simp only [nb5, nb6]); rfl))
            replace HMK : Hid (Below w3.heap.size w3 W126) := by subst hW126; exact Lib.hid ((mk_set (mk_set (mk_set (mk_set (mk_set (mk_set HMK.out HG12.out) HG12.out) HG12.out) HG12.out) HG12.out) HG12.out))
            clear hW126
            exact ⟨⟨i + 1, Tx, Ty, by have := HLT.out; omega, by go_num, (by rw [HNW.out] <;> first | rfl | go_num), (by rw [HB1.out, HNW.out, mt_long, ← HLB.out] <;> first | rfl | (simp only [t26, Bool.and_true, Bool.true_and, Bool.and_false, Bool.false_and, Bool.or_true, Bool.true_or, Bool.or_false, Bool.false_or, Bool.not_true, Bool.not_false, cond_true, cond_false]; done) | (simp [t26]; done) | (simp only [t26, Bool.and_true, Bool.true_and, Bool.and_false, Bool.false_and, Bool.or_true, Bool.true_or, Bool.or_false, Bool.false_or, Bool.not_true, Bool.not_false, cond_true, cond_false]; rfl)), (by rw [HO1.out, ← HOB.out, HBD.out] <;> first | rfl | simp only [← HC6.out, ← HC8.out, ← HC21.out, ← HC91.out, HZ2.out, t4, t5, t7, t9, t26, t82, t94, Bool.and_true, Bool.true_and, Bool.and_false, Bool.false_and, Bool.or_true, Bool.true_or, Bool.or_false, Bool.false_or, Bool.not_true, Bool.not_false, cond_true, cond_false] | simp [← HC6.out, ← HC8.out, ← HC21.out, ← HC91.out, HZ2.out, t4, t5, t7, t9, t26, t82, t94]), Lib.hid (((((((HS.out.bare).addQ (HS.out.q 7 _ _ rfl)).addQ (HS.out.q 6 _ _ rfl)).addQ (HS.out.q 5 _ _ rfl)).addQ (HS.out.q 4 _ _ rfl)).addQ (by rw [HP1.out]; exact (HS.out.q 1 _ _ rfl))).addQ (by rw [HP2.out]; exact (HS.out.q 0 _ _ rfl))), HMK⟩, meas_up HLT.out⟩
          | false =>
           refine tkB (i := 0) (v := ?vk127) rfl ?hk127 ?rk127
           case hk127 => intro u hSu; go_simp <;> with_reducible rfl
           try simp only [nbs, Act.put]
           refine tkB (i := 1) (v := ?vk128) rfl ?hk128 ?rk128
           case hk128 => intro u hSu; go_simp <;> with_reducible rfl
           try simp only [nbs, Act.put]
           refine tkC (i := 2) rfl ?_
           try simp only [nbs, Act.put]
           refine tkC (i := 3) rfl ?_
           try simp only [nbs, Act.put]
           refine tkC (i := 4) rfl ?_
           try simp only [nbs, Act.put]
           refine tkC (i := 5) rfl ?_
           try simp only [nbs, Act.put]
           refine tkC (i := 6) rfl ?_
           try simp only [nbs, Act.put]
           refine tkC (i := 7) rfl ?_
           try simp only [nbs, Act.put]
           refine tkC (i := 8) rfl ?_
           try simp only [nbs, Act.put]
           refine tkC (i := 9) rfl ?_
           try simp only [nbs, Act.put]
           refine tkC (i := 10) rfl ?_
           try simp only [nbs, Act.put]
           refine tkB (i := 11) (v := ?vk129) rfl ?hk129 ?rk129
           case hk129 => intro u hSu; go_simp <;> with_reducible rfl
           try simp only [nbs, Act.put]
           refine tkB (i := 12) (v := ?vk130) rfl ?hk130 ?rk130
           case hk130 => intro u hSu; go_simp <;> with_reducible rfl
           try simp only [nbs, Act.put]
           refine tkC (i := 13) rfl ?_
           try simp only [nbs, Act.put]
           refine tkC (i := 14) rfl ?_
           try simp only [nbs, Act.put]
           refine tkC (i := 15) rfl ?_
           try simp only [nbs, Act.put]
           refine tkC (i := 16) rfl ?_
           try simp only [nbs, Act.put]
           refine tkC (i := 17) rfl ?_
           try simp only [nbs, Act.put]
           refine tkC (i := 18) rfl ?_
           try simp only [nbs, Act.put]
           refine tkC (i := 19) rfl ?_
           try simp only [nbs, Act.put]
           refine tkC (i := 20) rfl ?_
           try simp only [nbs, Act.put]
           refine tkC (i := 21) rfl ?_
           try simp only [nbs, Act.put]
           refine tkC (i := 22) rfl ?_
           try simp only [nbs, Act.put]
           refine tkC (i := 23) rfl ?_
           try simp only [nbs, Act.put]
           refine tkC (i := 24) rfl ?_
           try simp only [nbs, Act.put]
           refine tkB (i := 25) (v := ?vk131) rfl ?hk131 ?rk131
           case hk131 => intro u hSu; go_simp <;> with_reducible rfl
           try simp only [nbs, Act.put]
           refine tkB (i := 26) (v := ?vk132) rfl ?hk132 ?rk132
           case hk132 => intro u hSu; go_simp <;> with_reducible rfl
           try simp only [nbs, Act.put]
           refine wpAnyH_done (by kernel_rfl) ?_ _
           generalize w21.drew = Wd133 at *
           obtain ⟨b3c0, b3c1, b3c2, b3c3, b3c4, b3c5, b3f0, b3f1, b3f2, b3f3, b3f4, b3f5⟩ := fac6 (x := ah0) (y := ah1) (HS.out.at 0 _ _ _ rfl)
           have b3l := blk_lt (HS.out.at 0 _ _ _ rfl)
           have Tc0 := (HMK.out.cell (p := ⟨b, off + i * 6, none⟩) HBL.out).trans T0.out
           have Tc1 := (HMK.out.cell (p := ⟨b, off + i * 6 + 1, none⟩) HBL.out).trans T1.out
           have Tc2 := (HMK.out.cell (p := ⟨b, off + i * 6 + 2, none⟩) HBL.out).trans T2.out
           have Tc3 := (HMK.out.cell (p := ⟨b, off + i * 6 + 3, none⟩) HBL.out).trans T3.out
           have Tc4 := (HMK.out.cell (p := ⟨b, off + i * 6 + 4, none⟩) HBL.out).trans T4.out
           have Tc5 := (HMK.out.cell (p := ⟨b, off + i * 6 + 5, none⟩) HBL.out).trans T5.out
           go_wp2_with fail
           clear b3c0 b3c1 b3c2 b3c3 b3c4 b3c5 b3f0 b3f1 b3f2 b3f3 b3f4 b3f5 b3l Tc0 Tc1 Tc2 Tc3 Tc4 Tc5
           generalize hW134 : ((((((Wd133).setCell _ _).setCell _ _).setCell _ _).setCell _ _).setCell _ _).setCell _ _ = W134 at *
           replace HS := Lib.hid (((HS.out).st_RR 0 ah0 ah1 Tx Ty rfl).to hW134 (by (try simp only [nb5, nb6]); rfl))
           replace HMK : Hid (Below w3.heap.size w3 W134) := by subst hW134; exact Lib.hid ((mk_set (mk_set (mk_set (mk_set (mk_set (mk_set HMK.out HG12.out) HG12.out) HG12.out) HG12.out) HG12.out) HG12.out))
           clear hW134
           exact ⟨⟨i + 1, Tx, Ty, by have := HLT.out; omega, by go_num, (by rw [HNW.out] <;> first | rfl | go_num), (by rw [HB1.out, HNW.out, mt_long, ← HLB.out] <;> first | rfl | (simp only [t26, Bool.and_true, Bool.true_and, Bool.and_false, Bool.false_and, Bool.or_true, Bool.true_or, Bool.or_false, Bool.false_or, Bool.not_true, Bool.not_false, cond_true, cond_false]; done) | (simp [t26]; done) | (simp only [t26, Bool.and_true, Bool.true_and, Bool.and_false, Bool.false_and, Bool.or_true, Bool.true_or, Bool.or_false, Bool.false_or, Bool.not_true, Bool.not_false, cond_true, cond_false]; rfl)), (by rw [HO1.out, ← HOB.out, HBD.out] <;> first | rfl | simp only [← HC6.out, ← HC8.out, ← HC21.out, HZ2.out, t4, t5, t7, t9, t26, t82, Bool.and_true, Bool.true_and, Bool.and_false, Bool.false_and, Bool.or_true, Bool.true_or, Bool.or_false, Bool.false_or, Bool.not_true, Bool.not_false, cond_true, cond_false] | simp [← HC6.out, ← HC8.out, ← HC21.out, HZ2.out, t4, t5, t7, t9, t26, t82]), Lib.hid (((((((HS.out.bare).addQ (HS.out.q 7 _ _ rfl)).addQ (HS.out.q 6 _ _ rfl)).addQ (HS.out.q 5 _ _ rfl)).addQ (HS.out.q 4 _ _ rfl)).addQ (by rw [HP1.out]; exact (HS.out.q 1 _ _ rfl))).addQ (by rw [HP2.out]; exact (HS.out.q 0 _ _ rfl))), HMK⟩, meas_up HLT.out⟩
       ·
        obtain rfl : i = ts.length := by omega
        cases t135 : (decide (m ≤ ((mtBest le ts ts.length : Nat) : Int))) with
        | true =>
         go_wp2_with fail
         have HR : Hid (meErr l0 l1 aq.length le mo ri m = 0) := by show _ = _; unfold meErr; rw [if_neg (by rw [HZ2.out]; simp), HNE.out]
         have HR2 : Hid (meOf S le mo ri m ts 0 = (mtOk S mo ri ts ts.length)) := by show _ = _; unfold meOf mtOf; rw [if_pos rfl]; simp only [t135, Bool.and_true, Bool.true_and, Bool.and_false, Bool.false_and, Bool.or_true, Bool.true_or, Bool.or_false, Bool.false_or, Bool.not_true, Bool.not_false, cond_true, cond_false]
         go_ret2
         exact (by rw [HR.out, HR2.out]; exact ⟨by rfl, HS.out.bel⟩)
        | false =>
         go_wp2_with fail
         have HR : Hid (meErr l0 l1 aq.length le mo ri m = 0) := by show _ = _; unfold meErr; rw [if_neg (by rw [HZ2.out]; simp), HNE.out]
         have HR2 : Hid (meOf S le mo ri m ts 0 = false) := by show _ = _; unfold meOf mtOf; rw [if_pos rfl]; simp only [t135, Bool.and_true, Bool.true_and, Bool.and_false, Bool.false_and, Bool.or_true, Bool.true_or, Bool.or_false, Bool.false_or, Bool.not_true, Bool.not_false, cond_true, cond_false]
         go_ret2
         exact (by rw [HR.out, HR2.out]; exact ⟨by rfl, HS.out.bel⟩)
 ·
  obtain ⟨er2, her2⟩ : ∃ c, c = flErr l0 l1 aq.length := ⟨_, rfl⟩
  have HER2 := Lib.hid her2
  rw [← her2] at hz2
  have en2 : (er2 == 0) = false := beq_eq_false_iff_ne.2 hz2
  have eo2 : (er2 != 0) = true := bne_iff_ne.2 hz2
  have ep2 : decide (er2 = 0) = false := decide_eq_false hz2
  have HNZ2 := Lib.hid hz2
  clear her2 hz2
  refine (qfollow_any l0 l1 S aq k HK.out z HZK.out _ _ _ _ (rngQ (HS.out.q 5 _ _ rfl) (HS.out.q 4 _ _ rfl)) HLL.out (HS.out.q 3 _ _ rfl) (HA.out.bQ HS.out.bel) HLE.out SL0.out SL1.out SS.out HZA.out HZF0.out).mono ?_
  rintro e w136 ⟨v136, rfl, hv136, hb136⟩
  clear hv136
  rw [← HER2.out]
  replace HS := Lib.hid (HS.out.below hb136)
  clear hb136
  go_wp2_with fail
  have HR : Hid (meErr l0 l1 aq.length le mo ri m = er2) := by show _ = _; unfold meErr; rw [← HER2.out, if_pos HNZ2.out]
  go_ret2
  exact (by rw [HR.out]; exact ⟨by unfold meOf; rw [if_neg HNZ2.out] <;> rfl, HS.out.bel⟩)
end Go.Proofs.YthdgeindjphklaaGreat

namespace Go.Proofs.YthdgeindjphklaaGreat
open Go.RowKit

theorem decL_step {t : Nat} (h : t ≠ 0) : decL t = decL (t / 10) ++ [chD (t % 10)] := by
 unfold decL
 rw [dig_pos ten_two h]
 simp
theorem decStep (q k r : Nat) (h : 0 < q ∨ 0 < r) : decL (q * 10 ^ (k + 1) + r) = decL (q * 10 ^ k + r / 10) ++ [chD (r % 10)] := by
 have hp : 0 < 10 ^ (k + 1) := Nat.pow_pos (by omega)
 have e : q * 10 ^ (k + 1) + r = (q * 10 ^ k) * 10 + r := by rw [Nat.pow_succ, Nat.mul_assoc]
 rw [decL_step, e]
 ·
  congr 2
  ·
   omega
  ·
   congr 1; omega
 ·
  rcases h with h | h
  ·
   have := Nat.mul_pos h hp; omega
  ·
   omega
theorem slice_dig0 (w : World) : (Instr.sliceAt 9 (.string { data := #[48, 49, 50, 51, 52, 53, 54, 55, 56, 57] }) (some (.int .u32 0)) (some (.int .u32 1)) none).run Tryz.prog w = .ok (.string (strB [chD 0])) w := by kernel_rfl
theorem slice_dig1 (w : World) : (Instr.sliceAt 9 (.string { data := #[48, 49, 50, 51, 52, 53, 54, 55, 56, 57] }) (some (.int .u32 1)) (some (.int .u32 2)) none).run Tryz.prog w = .ok (.string (strB [chD 1])) w := by kernel_rfl
theorem slice_dig2 (w : World) : (Instr.sliceAt 9 (.string { data := #[48, 49, 50, 51, 52, 53, 54, 55, 56, 57] }) (some (.int .u32 2)) (some (.int .u32 3)) none).run Tryz.prog w = .ok (.string (strB [chD 2])) w := by kernel_rfl
theorem slice_dig3 (w : World) : (Instr.sliceAt 9 (.string { data := #[48, 49, 50, 51, 52, 53, 54, 55, 56, 57] }) (some (.int .u32 3)) (some (.int .u32 4)) none).run Tryz.prog w = .ok (.string (strB [chD 3])) w := by kernel_rfl
theorem slice_dig4 (w : World) : (Instr.sliceAt 9 (.string { data := #[48, 49, 50, 51, 52, 53, 54, 55, 56, 57] }) (some (.int .u32 4)) (some (.int .u32 5)) none).run Tryz.prog w = .ok (.string (strB [chD 4])) w := by kernel_rfl
theorem slice_dig5 (w : World) : (Instr.sliceAt 9 (.string { data := #[48, 49, 50, 51, 52, 53, 54, 55, 56, 57] }) (some (.int .u32 5)) (some (.int .u32 6)) none).run Tryz.prog w = .ok (.string (strB [chD 5])) w := by kernel_rfl
theorem slice_dig6 (w : World) : (Instr.sliceAt 9 (.string { data := #[48, 49, 50, 51, 52, 53, 54, 55, 56, 57] }) (some (.int .u32 6)) (some (.int .u32 7)) none).run Tryz.prog w = .ok (.string (strB [chD 6])) w := by kernel_rfl
theorem slice_dig7 (w : World) : (Instr.sliceAt 9 (.string { data := #[48, 49, 50, 51, 52, 53, 54, 55, 56, 57] }) (some (.int .u32 7)) (some (.int .u32 8)) none).run Tryz.prog w = .ok (.string (strB [chD 7])) w := by kernel_rfl
theorem slice_dig8 (w : World) : (Instr.sliceAt 9 (.string { data := #[48, 49, 50, 51, 52, 53, 54, 55, 56, 57] }) (some (.int .u32 8)) (some (.int .u32 9)) none).run Tryz.prog w = .ok (.string (strB [chD 8])) w := by kernel_rfl
theorem slice_dig9 (w : World) : (Instr.sliceAt 9 (.string { data := #[48, 49, 50, 51, 52, 53, 54, 55, 56, 57] }) (some (.int .u32 9)) (some (.int .u32 10)) none).run Tryz.prog w = .ok (.string (strB [chD 9])) w := by kernel_rfl
theorem slice_dig (d : Nat) (hd : d < 10) (w : World) : (Instr.sliceAt 9 (.string { data := #[48, 49, 50, 51, 52, 53, 54, 55, 56, 57] }) (some (.int .u32 (d : Int))) (some (.int .u32 ((d : Int) + 1))) none).run Tryz.prog w = .ok (.string (strB [chD d])) w := by
 have h : d = 0 ∨ d = 1 ∨ d = 2 ∨ d = 3 ∨ d = 4 ∨ d = 5 ∨ d = 6 ∨ d = 7 ∨ d = 8 ∨ d = 9 := by omega
 rcases h with rfl | rfl | rfl | rfl | rfl | rfl | rfl | rfl | rfl | rfl
 ·
  exact slice_dig0 w
 ·
  exact slice_dig1 w
 ·
  exact slice_dig2 w
 ·
  exact slice_dig3 w
 ·
  exact slice_dig4 w
 ·
  exact slice_dig5 w
 ·
  exact slice_dig6 w
 ·
  exact slice_dig7 w
 ·
  exact slice_dig8 w
 ·
  exact slice_dig9 w
def strLen : Value → Nat
 | .string b => b.size
 | _ => 0
set_option maxRecDepth 100000 in
set_option maxHeartbeats 2000000 in
theorem qdigits_any (n : Nat) (v : Value) (w : World) (h : IsNat .u32 b32 w v n) (hs : (dig b32 n).length ≤ 1099511627776) (hl : (decL n).length ≤ 1374389534720) : Calls Tryz.prog 154 #[v] w (RetStr (decT n) w) := by
 have HN := Lib.hid h
 have HSZ := Lib.hid hs
 obtain ⟨ao, cap, rfl, _⟩ := IsRow.opened h
 rcases Nat.eq_zero_or_pos n with h0 | h0
 ·
  subst h0
  have hd : (dig b32 0).length = 0 := rfl
  clear h hs hl HN HSZ
  rw [hd]
  go_enter Tryz.func154, Tryz.ntmps154
  go_wp2_with fail
  go_ret
  exact ⟨rfl, Below.refl _ _⟩
 ·
  have hlen : 0 < (dig b32 n).length := by
   rcases Nat.eq_zero_or_pos (dig b32 n).length with h1 | h1
   ·
    exact absurd ((dig_nil_iff b32_two _).1 (List.eq_nil_of_length_eq_zero h1)) (by omega)
   ·
    exact h1
  have HT : Hid (decT n = decL n) := by show _ = _; unfold decT; rw [if_neg (by omega)]
  have t0 : ((((dig b32 n).length : Nat) : Int) == 0) = false := beq_eq_false_iff_ne.2 (by omega)
  have t1 : ((dig b32 n).length == 0) = false := beq_eq_false_iff_ne.2 (by omega)
  have HL := Lib.hid hl
  clear h hs h0 hl
  go_enter Tryz.func154, Tryz.ntmps154
  go_wp2_with fail
  go_loopw [0, 3] (fun av sv wr => ∃ (m : Nat) (L : List UInt8), IsNat .u32 b32 wr av m ∧ sv = .string (strB L) ∧ Hid (decL m ++ L = decL n) ∧ Hid (m ≤ n) ∧ Hid (Below w.heap.size w wr))
   (fun _ sv _ => (decL n).length - strLen sv)
  case atStart => exact ⟨n, [], HN.out, rfl, by show _ ++ _ = _; simp, Nat.le_refl _, Below.refl _ _⟩
  case round =>
   obtain ⟨m, L, hav, rfl, HM, HMN, HB⟩ := hrel
   obtain ⟨am, cm, rfl, _⟩ := IsRow.opened hav
   have HAV := Lib.hid hav
   clear hav
   have HLL : Hid (L.length ≤ 1374389534720) := by
    show _ ≤ _
    have h1 := congrArg List.length HM.out
    rw [List.length_append] at h1
    have := HL.out
    omega
   rcases Nat.eq_zero_or_pos m with h0 | h0
   ·
    subst h0
    have hd : (dig b32 0).length = 0 := rfl
    rw [hd]
    have HR : Hid (decT n = L) := by show _ = _; rw [HT.out, ← HM.out]; rfl
    clear hd HAV
    go_wp2_with fail
    go_ret
    exact ⟨by rw [HR.out] <;> rfl, HB.out⟩
   ·
    have hlen : 0 < (dig b32 m).length := by
     rcases Nat.eq_zero_or_pos (dig b32 m).length with h1 | h1
     ·
      exact absurd ((dig_nil_iff b32_two _).1 (List.eq_nil_of_length_eq_zero h1)) (by omega)
     ·
      exact h1
    have HP := Lib.hid h0
    have HDL : Hid ((dig b32 m).length ≤ 1099511627776) := Nat.le_trans (dig_length_mono b32_two HMN.out) HSZ.out
    clear h0
    go_wp2_with fail
    refine (byDigit_any m 1000000000 _ _ HAV.out HDL.out (by omega) (by unfold b32; omega)).mono ?_
    rintro e w1 ⟨va, rfl, hva, hb1⟩
    obtain ⟨aq, cq, rfl, _⟩ := IsRow.opened hva
    have HVA := Lib.hid hva
    have HB1 := Lib.hid (ext_trans HB.out hb1)
    have hrb : m % 1000000000 < 1000000000 := Nat.mod_lt _ (by omega)
    have HDM : Hid (m / 1000000000 * 1000000000 + m % 1000000000 = m) := by show _ = _; omega
    clear hva hb1
    go_wp2_with fail
    go_loopw [3, 5, 6] (fun sv rv kv wx => ∃ (k r : Nat) (L2 : List UInt8), k ≤ 9 ∧ kv = .int .i64 k ∧ rv = .int .u32 r ∧ r < 1000000000 ∧ sv = .string (strB L2) ∧ Hid (decL (m / 1000000000 * 10 ^ (9 - k) + r) ++ L2 = decL n) ∧ Hid (L2.length = L.length + k) ∧ Hid (r < 10 ^ (9 - k)) ∧ w1 = wx)
     (fun _ _ kv _ => 9 - (intOf kv).toNat)
    case atStart => exact ⟨0, m % 1000000000, L, by omega, rfl, by go_num, hrb, rfl, by show _ = _; rw [show m / 1000000000 * 10 ^ (9 - 0) + m % 1000000000 = m from HDM.out]; exact HM.out, rfl, hrb, rfl⟩
    case round =>
     obtain ⟨k, r, L2, hk9, rfl, rfl, hr9, rfl, HM2, HLN, HRB, rfl⟩ := hrel
     have HL2L : Hid (L2.length ≤ 1374389534720) := by
      show _ ≤ _
      have h1 := congrArg List.length HM2.out
      rw [List.length_append] at h1
      have := HL.out
      omega
     by_cases hk : k < 9
     ·
      rcases Nat.eq_zero_or_pos (m / 1000000000) with hq | hq
      ·
       have hd : (dig b32 (m / 1000000000)).length = 0 := by rw [hq]; rfl
       rcases Nat.eq_zero_or_pos r with hr | hr
       ·
        subst hr
        have HQ := Lib.hid hq
        have HD0 := Lib.hid hd
        rw [hd]
        clear hq hd
        go_wp2_with fail
        exact ⟨⟨m / 1000000000, L2, (by have := HVA.out; rw [HD0.out] at this; exact this), rfl, by
         show _ = _
         rw [← HM2.out, show m / 1000000000 * 10 ^ (9 - k) + 0 = m / 1000000000 from by rw [HQ.out, Nat.zero_mul]], Nat.le_trans (Nat.div_le_self _ _) HMN.out, HB1.out⟩, by
         have e1 : (strB L2).size = L2.length := rfl
         have e2 : (strB L).size = L.length := rfl
         have h1 := congrArg List.length HM2.out
         rw [List.length_append] at h1
         have h2 := HLN.out
         have h3 : 0 < k := by
          rcases Nat.eq_zero_or_pos k with h0 | h0
          ·
           exfalso
           subst h0
           have h4 := congrArg List.length (HM2.out.trans HM.out.symm)
           rw [show m / 1000000000 * 10 ^ (9 - 0) + 0 = 0 by rw [HQ.out, Nat.zero_mul], List.length_append, List.length_append, decL_zero, HLN.out] at h4
           have h5 : decL m ≠ [] := fun h => absurd ((decL_nil m).1 h) (by have := HP.out; omega)
           have h6 := List.length_pos_iff.2 h5
           rw [List.length_nil] at h4
           omega
          ·
           exact h0
         show (decL n).length - (strB L2).size < (decL n).length - (strB L).size
         rw [e1, e2]
         omega⟩
       ·
        rw [hd]
        clear hq hd
        have hr10 : r % 10 < 10 := by omega
        have hs1 := slice_dig (r % 10) hr10 w1
        have hs2 := slice_dig (r % 10) hr10 w1
        have e1 : ((r % 10 : Nat) : Int) = (r : Int) % 10 := by omega
        rw [e1] at hs2
        have HC : Hid (strB [chD (r % 10)] ++ strB L2 = strB (chD (r % 10) :: L2)) := by show _ = _; rw [strB_append]; rfl
        have hcat := HC.out
        have hz1 : (strB [chD (r % 10)]).size = 1 := rfl
        have hz2 : (strB L2).size ≤ 1374389534720 := HL2L.out
        have HK := Lib.hid hk
        have HQR : Hid (0 < m / 1000000000 ∨ 0 < r) := .inr hr
        obtain ⟨k', hk'⟩ : ∃ k', 9 - k = k' + 1 := ⟨8 - k, by omega⟩
        have HK' := Lib.hid hk'
        clear e1 hk'
        go_wp2_with fail
        exact ⟨⟨k + 1, r / 10, chD (r % 10) :: L2, by omega, by go_num, by go_num, by omega, rfl, by
         show _ = _
         rw [show 9 - (k + 1) = k' by have := HK'.out; omega, ← HM2.out, HK'.out, decStep _ _ _ HQR.out, List.append_assoc]; rfl, by show _ = _; rw [List.length_cons, HLN.out]; omega, by
         show r / 10 < _
         have h1 : r < 10 ^ (9 - k) := HRB.out
         rw [HK'.out, Nat.pow_succ] at h1
         rw [show 9 - (k + 1) = k' by have := HK'.out; omega]
         omega, trivial⟩, by simp [intOf]; omega⟩
      ·
       have hd : 0 < (dig b32 (m / 1000000000)).length := by
        rcases Nat.eq_zero_or_pos (dig b32 (m / 1000000000)).length with h1 | h1
        ·
         exact absurd ((dig_nil_iff b32_two _).1 (List.eq_nil_of_length_eq_zero h1)) (by omega)
        ·
         exact h1
       have hr10 : r % 10 < 10 := by omega
       have hs1 := slice_dig (r % 10) hr10 w1
       have hs2 := slice_dig (r % 10) hr10 w1
       have e1 : ((r % 10 : Nat) : Int) = (r : Int) % 10 := by omega
       rw [e1] at hs2
       have HC : Hid (strB [chD (r % 10)] ++ strB L2 = strB (chD (r % 10) :: L2)) := by show _ = _; rw [strB_append]; rfl
       have hcat := HC.out
       have hz1 : (strB [chD (r % 10)]).size = 1 := rfl
       have hz2 : (strB L2).size ≤ 1374389534720 := HL2L.out
       have HK := Lib.hid hk
       have HQR : Hid (0 < m / 1000000000 ∨ 0 < r) := .inl hq
       obtain ⟨k', hk'⟩ : ∃ k', 9 - k = k' + 1 := ⟨8 - k, by omega⟩
       have HK' := Lib.hid hk'
       clear e1 hk'
       go_wp2_with fail
       exact ⟨⟨k + 1, r / 10, chD (r % 10) :: L2, by omega, by go_num, by go_num, by omega, rfl, by
        show _ = _
        rw [show 9 - (k + 1) = k' by have := HK'.out; omega, ← HM2.out, HK'.out, decStep _ _ _ HQR.out, List.append_assoc]; rfl, by show _ = _; rw [List.length_cons, HLN.out]; omega, by
        show r / 10 < _
        have h1 : r < 10 ^ (9 - k) := HRB.out
        rw [HK'.out, Nat.pow_succ] at h1
        rw [show 9 - (k + 1) = k' by have := HK'.out; omega]
        omega, trivial⟩, by simp [intOf]; omega⟩
     ·
      obtain rfl : k = 9 := by omega
      obtain rfl : r = 0 := by
       have h1 : r < 10 ^ (9 - 9) := HRB.out
       omega
      clear hk
      go_wp2_with fail
      exact ⟨⟨m / 1000000000, L2, HVA.out, rfl, by
       show _ = _
       rw [← HM2.out, show m / 1000000000 * 10 ^ (9 - 9) + 0 = m / 1000000000 from by simp], Nat.le_trans (Nat.div_le_self _ _) HMN.out, HB1.out⟩, by
       have e1 : (strB L2).size = L2.length := rfl
       have e2 : (strB L).size = L.length := rfl
       have h1 := congrArg List.length HM2.out
       rw [List.length_append] at h1
       have h2 := HLN.out
       have h3 : 0 < 9 := by omega
       show (decL n).length - (strB L2).size < (decL n).length - (strB L).size
       rw [e1, e2]
       omega⟩
theorem decT_len32 (n : Nat) (h : (dig b32 n).length ≤ 1000000000) : (strB (decT n)).size ≤ 20000000001 := by
 have h1 := digits_len n
 have h2 := dig64_le n
 rw [strB_size]
 unfold decT
 split
 ·
  simp
 ·
  rw [decL_length]; omega
theorem decL_len32 (n : Nat) (h : (dig b32 n).length ≤ 1000000000) : (decL n).length ≤ 20000000000 := by
 have h1 := digits_len n
 have h2 := dig64_le n
 rw [decL_length]; omega
set_option maxRecDepth 100000 in
set_option maxHeartbeats 2000000 in
theorem qtext_any (q : Rat) (v : Value) (w : World) (h : IsR w v q) (hs : szQ q 1000000000) : Calls Tryz.prog 107 #[v] w (RetStr (txtQ q) w) := by
 obtain ⟨d', a1, c1, a2, c2, rfl, n1, n2, hd⟩ := h.opened
 have N1 := Lib.hid n1
 have N2 := Lib.hid n2
 have HD := Lib.hid hd
 have HS := Lib.hid hs
 have hB := blk_new w #[.bool (decide (q.num < 0)), .slice a1 (dig b32 q.num.natAbs).length c1, .slice a2 (dig b32 d').length c2] 40
 have hal := (Below.refl w.heap.size w).alloc (Nat.le_refl _) (.cells #[.bool (decide (q.num < 0)), .slice a1 (dig b32 q.num.natAbs).length c1, .slice a2 (dig b32 d').length c2] 40)
 have Htx : Hid (txtQ q = (if q.num < 0 then [45] else []) ++ (decT q.num.natAbs ++ (if q.den = 1 then [] else 47 :: decT q.den))) := rfl
 have HX := Lib.hid decT_len32
 have HXL := Lib.hid decL_len32
 clear h n1 n2 hs hd
 go_enter Tryz.func107, Tryz.ntmps107
 go_wp2_with fail
 refine (qdigits_any q.num.natAbs _ _ (N1.out.below hal) (Nat.le_trans HS.out.1 (by omega)) (Nat.le_trans (HXL.out _ HS.out.1) (by omega))).mono ?_
 rintro e w1 ⟨rfl, hb1⟩
 have hB1 := blk_keep hB hb1 (blk_lt hB)
 have hx1 := ext_trans hal hb1
 have p0 := blk_cell hB1 0 (.bool (decide (q.num < 0))) rfl
 have p1 := blk_cell hB1 1 (.slice a1 (dig b32 q.num.natAbs).length c1) rfl
 have p2 := blk_cell hB1 2 (.slice a2 (dig b32 d').length c2) rfl
 clear hb1
 by_cases hneg : q.num < 0
 ·
  have tn : decide (q.num < 0) = true := decide_eq_true hneg
  have Hneg := Lib.hid hneg
  clear hneg
  have hz0 : (strB (decT q.num.natAbs)).size ≤ 20000000001 := HX.out _ HS.out.1
  obtain ⟨X, hX⟩ : ∃ X, X = 45 :: decT q.num.natAbs := ⟨_, rfl⟩
  have hcat : { data := #[45] } ++ strB (decT q.num.natAbs) = strB X := by rw [hX, show ({ data := #[45] } : ByteArray) = strB [45] from rfl, strB_append]; rfl
  have ho1 : (ByteArray.mk #[45]).size = 1 := rfl
  have hz2 : (strB X).size ≤ 20000000002 := by rw [hX]; rw [strB_size] at hz0 ⊢; rw [List.length_cons]; omega
  have HXX := Lib.hid hX
  clear hX
  clear hB hal
  go_wp2_with fail
  refine (qunder_any d' q.den _ _ _ _ _ _ _ (N2.out.below hx1) HD.out q.den_nz).mono ?_
  rintro e w2 ⟨vu, rfl, hvu, hb2⟩
  have HX2 := Lib.hid (ext_trans hx1 hb2)
  have hB2 := blk_keep hB1 hb2 (blk_lt hB1)
  have HVU := Lib.hid hvu
  clear hb2 hvu hB1 p0 p1 p2
  go_wp2_with fail
  refine (nat_any 1 _ (by unfold b64; omega)).mono ?_
  rintro e w3 ⟨v1, rfl, hv1, hb3⟩
  replace HX2 := Lib.hid (ext_trans HX2.out hb3)
  have hB3 := blk_keep hB2 hb3 (blk_lt hB2)
  replace HVU := Lib.hid (HVU.out.below hb3)
  have HV1 := Lib.hid hv1
  clear hb3 hv1 hB2
  go_wp2_with fail
  refine (order_any q.den 1 _ _ _ HVU.out HV1.out).mono ?_
  rintro e w4 ⟨rfl, hq4⟩
  have hbq := Quiet.below hq4
  have p0 := blk_cell (blk_keep hB3 hbq (blk_lt hB3)) 0 (.bool (decide (q.num < 0))) rfl
  have p1 := blk_cell (blk_keep hB3 hbq (blk_lt hB3)) 1 (.slice a1 (dig b32 q.num.natAbs).length c1) rfl
  have p2 := blk_cell (blk_keep hB3 hbq (blk_lt hB3)) 2 (.slice a2 (dig b32 d').length c2) rfl
  replace HX2 := Lib.hid (ext_trans HX2.out hbq)
  clear hbq hB3 HV1 HVU
  by_cases hd : q.den = 1
  ·
   have hc : cmpN q.den 1 = 0 := by rw [hd]; rfl
   have HR : Hid (txtQ q = X) := by show _ = _; rw [Htx.out, if_pos Hneg.out, HXX.out, if_pos hd]; simp
   rw [hc]
   clear hd hc
   go_wp2_with fail
   go_ret
   exact ⟨by rw [HR.out] <;> rfl, HX2.out⟩
  ·
   have hc : cmpN q.den 1 = 1 := by
    have := q.den_pos
    unfold cmpN
    rw [if_neg (by omega), if_pos (by omega)]
   have HR : Hid (txtQ q = X ++ 47 :: decT q.den) := by show _ = _; rw [Htx.out, if_pos Hneg.out, HXX.out, if_neg hd]; simp
   rw [hc]
   clear hd hc
   have hc1 : strB (X) ++ { data := #[47] } = strB (X ++ [47]) := by rw [← strB_append]; rfl
   have ho : (ByteArray.mk #[47]).size = 1 := rfl
   have hz5 : (strB (X)).size ≤ 20000000002 := hz2
   have hz6 : (strB (X ++ [47])).size ≤ 20000000003 := by rw [strB_size] at hz5 ⊢; rw [List.length_append, List.length_singleton]; omega
   go_wp2_with fail
   refine (qunder_any d' q.den _ _ _ _ _ _ _ (N2.out.below HX2.out) HD.out q.den_nz).mono ?_
   rintro e w5 ⟨vu, rfl, hvu, hb5⟩
   replace HX2 := Lib.hid (ext_trans HX2.out hb5)
   clear p0 p1 p2 hb5
   go_wp2_with fail
   refine (qdigits_any q.den _ _ hvu (Nat.le_trans HS.out.2 (by omega)) (Nat.le_trans (HXL.out _ HS.out.2) (by omega))).mono ?_
   rintro e w6 ⟨rfl, hb6⟩
   have hz7 : (strB (decT q.den)).size ≤ 20000000001 := HX.out _ HS.out.2
   have hc2 : strB (X ++ [47]) ++ strB (decT q.den) = strB (txtQ q) := by rw [strB_append, HR.out]; simp
   replace HX2 := Lib.hid (ext_trans HX2.out hb6)
   clear hb6 hvu
   go_wp2_with fail
   go_ret
   exact ⟨rfl, HX2.out⟩
 ·
  have tn : decide (q.num < 0) = false := decide_eq_false hneg
  have Hneg : Hid (¬ q.num < 0) := hneg
  clear hneg
  have hz0 : (strB (decT q.num.natAbs)).size ≤ 20000000001 := HX.out _ HS.out.1
  have hz2 : (strB (decT q.num.natAbs)).size ≤ 20000000002 := by omega
  clear hB hal
  go_wp2_with fail
  refine (qunder_any d' q.den _ _ _ _ _ _ _ (N2.out.below hx1) HD.out q.den_nz).mono ?_
  rintro e w2 ⟨vu, rfl, hvu, hb2⟩
  have HX2 := Lib.hid (ext_trans hx1 hb2)
  have hB2 := blk_keep hB1 hb2 (blk_lt hB1)
  have HVU := Lib.hid hvu
  clear hb2 hvu hB1 p0 p1 p2
  go_wp2_with fail
  refine (nat_any 1 _ (by unfold b64; omega)).mono ?_
  rintro e w3 ⟨v1, rfl, hv1, hb3⟩
  replace HX2 := Lib.hid (ext_trans HX2.out hb3)
  have hB3 := blk_keep hB2 hb3 (blk_lt hB2)
  replace HVU := Lib.hid (HVU.out.below hb3)
  have HV1 := Lib.hid hv1
  clear hb3 hv1 hB2
  go_wp2_with fail
  refine (order_any q.den 1 _ _ _ HVU.out HV1.out).mono ?_
  rintro e w4 ⟨rfl, hq4⟩
  have hbq := Quiet.below hq4
  have p0 := blk_cell (blk_keep hB3 hbq (blk_lt hB3)) 0 (.bool (decide (q.num < 0))) rfl
  have p1 := blk_cell (blk_keep hB3 hbq (blk_lt hB3)) 1 (.slice a1 (dig b32 q.num.natAbs).length c1) rfl
  have p2 := blk_cell (blk_keep hB3 hbq (blk_lt hB3)) 2 (.slice a2 (dig b32 d').length c2) rfl
  replace HX2 := Lib.hid (ext_trans HX2.out hbq)
  clear hbq hB3 HV1 HVU
  by_cases hd : q.den = 1
  ·
   have hc : cmpN q.den 1 = 0 := by rw [hd]; rfl
   have HR : Hid (txtQ q = decT q.num.natAbs) := by show _ = _; rw [Htx.out, if_neg (by have := Hneg.out; omega), if_pos hd]; simp
   rw [hc]
   clear hd hc
   go_wp2_with fail
   go_ret
   exact ⟨by rw [HR.out] <;> rfl, HX2.out⟩
  ·
   have hc : cmpN q.den 1 = 1 := by
    have := q.den_pos
    unfold cmpN
    rw [if_neg (by omega), if_pos (by omega)]
   have HR : Hid (txtQ q = decT q.num.natAbs ++ 47 :: decT q.den) := by show _ = _; rw [Htx.out, if_neg (by have := Hneg.out; omega), if_neg hd]; simp
   rw [hc]
   clear hd hc
   have hc1 : strB (decT q.num.natAbs) ++ { data := #[47] } = strB (decT q.num.natAbs ++ [47]) := by rw [← strB_append]; rfl
   have ho : (ByteArray.mk #[47]).size = 1 := rfl
   have hz5 : (strB (decT q.num.natAbs)).size ≤ 20000000002 := hz2
   have hz6 : (strB (decT q.num.natAbs ++ [47])).size ≤ 20000000003 := by rw [strB_size] at hz5 ⊢; rw [List.length_append, List.length_singleton]; omega
   go_wp2_with fail
   refine (qunder_any d' q.den _ _ _ _ _ _ _ (N2.out.below HX2.out) HD.out q.den_nz).mono ?_
   rintro e w5 ⟨vu, rfl, hvu, hb5⟩
   replace HX2 := Lib.hid (ext_trans HX2.out hb5)
   clear p0 p1 p2 hb5
   go_wp2_with fail
   refine (qdigits_any q.den _ _ hvu (Nat.le_trans HS.out.2 (by omega)) (Nat.le_trans (HXL.out _ HS.out.2) (by omega))).mono ?_
   rintro e w6 ⟨rfl, hb6⟩
   have hz7 : (strB (decT q.den)).size ≤ 20000000001 := HX.out _ HS.out.2
   have hc2 : strB (decT q.num.natAbs ++ [47]) ++ strB (decT q.den) = strB (txtQ q) := by rw [strB_append, HR.out]; simp
   replace HX2 := Lib.hid (ext_trans HX2.out hb6)
   clear hb6 hvu
   go_wp2_with fail
   go_ret
   exact ⟨rfl, HX2.out⟩
end Go.Proofs.YthdgeindjphklaaGreat

namespace Go.Proofs.YthdgeindjphklaaGreat
open Go.RowKit

set_option maxRecDepth 100000 in
set_option maxHeartbeats 4000000 in
theorem lis_any (q : Rat) (vx vy : Value) (w : World) (hx : IsRat w vx q) (hy : IsR w vy q) (s1 : szR q 400000000) :
  Calls Tryz.prog 41 #[vx, vy] w (RetBool true w) := by
 obtain ⟨x1, rfl⟩ := hx.open3
 obtain ⟨y1, rfl⟩ := hy.open3
 have HS := Lib.hid (((Sx.init w).addP hx).addQ hy)
 have S1 := Lib.hid s1
 clear hx hy s1
 go_enter Tryz.func41, Tryz.ntmps41
 go_wp2_with fail
 generalize hW1 : ((w).alloc (.cells _ _)).alloc (.cells _ _) = W1 at *
 replace HS : Hid (Sx w W1 [(w.heap.size + 1, y1.arr, 40), (w.heap.size, x1.arr, 34)] [(false, y1.val, q), (true, x1.val, q)]) := by subst hW1; exact ((HS.out).alloc (B := w.heap.size) rfl (by rfl)).alloc (B := w.heap.size + 1) (by simp) (by rfl)
 clear hW1
 refine wp_region_held_drew (S := (fun w' => Sx w w' [(w.heap.size + 1, y1.arr, 40), (w.heap.size, x1.arr, 34)] [])) (by kernel_rfl) ((HS.out.drew).bare) (fun hh => ?_)
 replace HS := Lib.hid HS.out.drew
 refine tkA (i := 0) (v := ?vpr2_0_k4) rfl (Or.inl ⟨by first | rfl | kernel_rfl, ?hypr2_0_k4⟩) (by assumption) ?repr2_0_k4
 case hypr2_0_k4 => (intro u hSu; (try dsimp only at hSu); obtain ⟨qb0c0, qb0c1, qb0c2, _⟩ := fac3 (x := x1) (hSu.at 1 _ _ _ rfl); clear hSu; (go_simp <;> with_reducible rfl))
 try simp only [nb1, nb2, nb3, Act.put, nb4, nb5, nb6]
 refine tkA (i := 2) (v := ?vpr2_2_k6) rfl (Or.inl ⟨by first | rfl | kernel_rfl, ?hypr2_2_k6⟩) (by assumption) ?repr2_2_k6
 case hypr2_2_k6 => (intro u hSu; (try dsimp only at hSu); obtain ⟨qb1c0, qb1c1, qb1c2, _⟩ := fac3 (x := y1) (hSu.at 0 _ _ _ rfl); clear hSu; (go_simp <;> with_reducible rfl))
 try simp only [nb1, nb2, nb3, Act.put, nb4, nb5, nb6]
 refine rdA (i := 1) rfl (fun K hK => ?_)
 go_simp
 have a8 := HS.out.p 1 _ _ rfl
 go_wp2_with (go_at_call 106; (with_reducible refine (textRat_any q _ _ a8 (szR_mono S1.out (by omega))).mono ?_); rintro e w7 ⟨rfl, hb7⟩)
 refine hK.out _ _ (Sx.below hh hb7) (fun hh => ?_)
 clear hK K
 try simp only [nb1, nb2, nb3, Act.put, nb4, nb5, nb6]
 replace HS := Lib.hid (HS.out.below hb7)
 clear hb7 a8
 refine rdA (i := 3) rfl (fun K hK => ?_)
 go_simp
 have a10 := HS.out.q 0 _ _ rfl
 go_wp2_with (go_at_call 107; (with_reducible refine (qtext_any q _ _ a10 (szQ_mono (szQ_of S1.out) (by omega))).mono ?_); rintro e w9 ⟨rfl, hb9⟩)
 refine hK.out _ _ (Sx.below hh hb9) (fun hh => ?_)
 clear hK K
 try simp only [nb1, nb2, nb3, Act.put, nb4, nb5, nb6]
 replace HS := Lib.hid (HS.out.below hb9)
 clear hb9 a10
 refine tkA (i := 4) (v := ?vpr2_4_k12) rfl (Or.inl ⟨by first | rfl | kernel_rfl, ?hypr2_4_k12⟩) (by assumption) ?repr2_4_k12
 case hypr2_4_k12 => (intro u hSu; (go_simp <;> with_reducible rfl))
 try simp only [nb1, nb2, nb3, Act.put, nb4, nb5, nb6]
 refine tkA (i := 5) (v := ?vpr2_5_k14) rfl (Or.inl ⟨by first | rfl | kernel_rfl, ?hypr2_5_k14⟩) (by assumption) ?repr2_5_k14
 case hypr2_5_k14 => (intro u hSu; (go_simp <;> with_reducible rfl))
 try simp only [nb1, nb2, nb3, Act.put, nb4, nb5, nb6]
 refine wpAnyH_done (by kernel_rfl) ?_ _
 obtain ⟨b0c0, b0c1, b0c2, b0f0, b0f1, b0f2⟩ := fac3 (x := x1) (HS.out.at 1 _ _ _ rfl)
 have b0l := blk_lt (HS.out.at 1 _ _ _ rfl)
 obtain ⟨b1c0, b1c1, b1c2, b1f0, b1f1, b1f2⟩ := fac3 (x := y1) (HS.out.at 0 _ _ _ rfl)
 have b1l := blk_lt (HS.out.at 0 _ _ _ rfl)
 go_wp2_with fail
 clear b0c0 b0c1 b0c2 b0f0 b0f1 b0f2 b0l b1c0 b1c1 b1c2 b1f0 b1f1 b1f2 b1l
 go_ret
 exact ⟨by simp, HS.out.bel⟩
set_option maxRecDepth 100000 in
set_option maxHeartbeats 4000000 in
theorem isRange_any (p q : Rat) (vx vy : Value) (w : World) (hx : IsRng w vx p q) (hy : IsRngQ w vy p q) (s1 : szR p 400000000) (s2 : szR q 400000000) :
  Calls Tryz.prog 21 #[vx, vy] w (RetBool true w) := by
 obtain ⟨x1, x2, rfl, h1, h2⟩ := hx
 obtain ⟨y1, y2, rfl, h3, h4⟩ := hy
 have HS := Lib.hid (((((Sx.init w).addP h1).addP h2).addQ h3).addQ h4)
 have S1 := Lib.hid s1
 have S2 := Lib.hid s2
 clear h1 h2 h3 h4 s1 s2
 go_enter Tryz.func21, Tryz.ntmps21
 go_wp2_with fail
 generalize hW1 : ((w).alloc (.cells _ _)).alloc (.cells _ _) = W1 at *
 replace HS : Hid (Sx w W1 [(w.heap.size + 1, arr6 y1 y2, 42), (w.heap.size, arr6 x1 x2, 36)] [(false, y2.val, q), (false, y1.val, p), (true, x2.val, q), (true, x1.val, p)]) := by subst hW1; exact ((HS.out).alloc (B := w.heap.size) rfl (by rfl)).alloc (B := w.heap.size + 1) (by simp) (by rfl)
 clear hW1
 refine wp_region_held_drew (S := (fun w' => Sx w w' [(w.heap.size + 1, arr6 y1 y2, 42), (w.heap.size, arr6 x1 x2, 36)] [])) (by kernel_rfl) ((HS.out.drew).bare) (fun hh => ?_)
 replace HS := Lib.hid HS.out.drew
 refine tkA (i := 0) (v := ?vpr2_0_k4) rfl (Or.inl ⟨by first | rfl | kernel_rfl, ?hypr2_0_k4⟩) (by assumption) ?repr2_0_k4
 case hypr2_0_k4 => (intro u hSu; (try dsimp only at hSu); obtain ⟨qb0c0, qb0c1, qb0c2, qb0c3, qb0c4, qb0c5, _⟩ := fac6 (x := x1) (y := x2) (hSu.at 1 _ _ _ rfl); clear hSu; (go_simp <;> with_reducible rfl))
 try simp only [nb1, nb2, nb3, Act.put, nb4, nb5, nb6]
 refine tkA (i := 2) (v := ?vpr2_2_k6) rfl (Or.inl ⟨by first | rfl | kernel_rfl, ?hypr2_2_k6⟩) (by assumption) ?repr2_2_k6
 case hypr2_2_k6 => (intro u hSu; (go_simp <;> with_reducible rfl))
 try simp only [nb1, nb2, nb3, Act.put, nb4, nb5, nb6]
 refine tkA (i := 3) (v := ?vpr2_3_k8) rfl (Or.inl ⟨by first | rfl | kernel_rfl, ?hypr2_3_k8⟩) (by assumption) ?repr2_3_k8
 case hypr2_3_k8 => (intro u hSu; (try dsimp only at hSu); obtain ⟨qb1c0, qb1c1, qb1c2, qb1c3, qb1c4, qb1c5, _⟩ := fac6 (x := y1) (y := y2) (hSu.at 0 _ _ _ rfl); clear hSu; (go_simp <;> with_reducible rfl))
 try simp only [nb1, nb2, nb3, Act.put, nb4, nb5, nb6]
 refine rdA (i := 1) rfl (fun K hK => ?_)
 go_simp
 have a10 := HS.out.p 3 _ _ rfl
 have a11 := HS.out.p 2 _ _ rfl
 go_wp2_with (go_at_call 79; (with_reducible refine (rlo_any p q _ _ (rngP a10 a11)).mono ?_); rintro e w9 ⟨v9, rfl, hv9, hb9⟩; obtain ⟨z9, rfl⟩ := hv9.open3)
 refine hK.out _ _ (Sx.below hh hb9) (fun hh => ?_)
 clear hK K
 try simp only [nb1, nb2, nb3, Act.put, nb4, nb5, nb6]
 replace HS := Lib.hid (HS.out.below hb9)
 clear hb9 a10 a11
 replace HS := Lib.hid (HS.out.addP hv9)
 clear hv9
 refine rdA (i := 4) rfl (fun K hK => ?_)
 go_simp
 have a13 := HS.out.p 0 _ _ rfl
 have a14 := HS.out.q 2 _ _ rfl
 go_wp2_with (go_at_call 41; (with_reducible refine (lis_any p _ _ _ a13 a14 (szR_mono S1.out (by omega))).mono ?_); rintro e w12 ⟨rfl, hb12⟩)
 refine hK.out _ _ (Sx.below hh hb12) (fun hh => ?_)
 clear hK K
 try simp only [nb1, nb2, nb3, Act.put, nb4, nb5, nb6]
 replace HS := Lib.hid (HS.out.below hb12)
 clear hb12 a13 a14
 refine tkA (i := 5) (v := ?vpr2_5_k16) rfl (Or.inl ⟨by first | rfl | kernel_rfl, ?hypr2_5_k16⟩) (by assumption) ?repr2_5_k16
 case hypr2_5_k16 => (intro u hSu; (go_simp <;> with_reducible rfl))
 try simp only [nb1, nb2, nb3, Act.put, nb4, nb5, nb6]
 refine tkA (i := 6) (v := ?vpr2_6_k18) rfl (Or.inl ⟨by first | rfl | kernel_rfl, ?hypr2_6_k18⟩) (by assumption) ?repr2_6_k18
 case hypr2_6_k18 => (intro u hSu; (try dsimp only at hSu); obtain ⟨qb0c0, qb0c1, qb0c2, qb0c3, qb0c4, qb0c5, _⟩ := fac6 (x := x1) (y := x2) (hSu.at 1 _ _ _ rfl); clear hSu; (go_simp <;> with_reducible rfl))
 try simp only [nb1, nb2, nb3, Act.put, nb4, nb5, nb6]
 refine tkA (i := 8) (v := ?vpr2_8_k20) rfl (Or.inl ⟨by first | rfl | kernel_rfl, ?hypr2_8_k20⟩) (by assumption) ?repr2_8_k20
 case hypr2_8_k20 => (intro u hSu; (go_simp <;> with_reducible rfl))
 try simp only [nb1, nb2, nb3, Act.put, nb4, nb5, nb6]
 refine tkA (i := 9) (v := ?vpr2_9_k22) rfl (Or.inl ⟨by first | rfl | kernel_rfl, ?hypr2_9_k22⟩) (by assumption) ?repr2_9_k22
 case hypr2_9_k22 => (intro u hSu; (try dsimp only at hSu); obtain ⟨qb1c0, qb1c1, qb1c2, qb1c3, qb1c4, qb1c5, _⟩ := fac6 (x := y1) (y := y2) (hSu.at 0 _ _ _ rfl); clear hSu; (go_simp <;> with_reducible rfl))
 try simp only [nb1, nb2, nb3, Act.put, nb4, nb5, nb6]
 refine rdA (i := 7) rfl (fun K hK => ?_)
 go_simp
 have a24 := HS.out.p 4 _ _ rfl
 have a25 := HS.out.p 3 _ _ rfl
 go_wp2_with (go_at_call 80; (with_reducible refine (rhi_any p q _ _ (rngP a24 a25)).mono ?_); rintro e w23 ⟨v23, rfl, hv23, hb23⟩; obtain ⟨z23, rfl⟩ := hv23.open3)
 refine hK.out _ _ (Sx.below hh hb23) (fun hh => ?_)
 clear hK K
 try simp only [nb1, nb2, nb3, Act.put, nb4, nb5, nb6]
 replace HS := Lib.hid (HS.out.below hb23)
 clear hb23 a24 a25
 replace HS := Lib.hid (HS.out.addP hv23)
 clear hv23
 refine rdA (i := 10) rfl (fun K hK => ?_)
 go_simp
 have a27 := HS.out.p 0 _ _ rfl
 have a28 := HS.out.q 2 _ _ rfl
 go_wp2_with (go_at_call 41; (with_reducible refine (lis_any q _ _ _ a27 a28 (szR_mono S2.out (by omega))).mono ?_); rintro e w26 ⟨rfl, hb26⟩)
 refine hK.out _ _ (Sx.below hh hb26) (fun hh => ?_)
 clear hK K
 try simp only [nb1, nb2, nb3, Act.put, nb4, nb5, nb6]
 replace HS := Lib.hid (HS.out.below hb26)
 clear hb26 a27 a28
 refine tkA (i := 11) (v := ?vpr2_11_k30) rfl (Or.inl ⟨by first | rfl | kernel_rfl, ?hypr2_11_k30⟩) (by assumption) ?repr2_11_k30
 case hypr2_11_k30 => (intro u hSu; (go_simp <;> with_reducible rfl))
 try simp only [nb1, nb2, nb3, Act.put, nb4, nb5, nb6]
 refine tkA (i := 12) (v := ?vpr2_12_k32) rfl (Or.inl ⟨by first | rfl | kernel_rfl, ?hypr2_12_k32⟩) (by assumption) ?repr2_12_k32
 case hypr2_12_k32 => (intro u hSu; (go_simp <;> with_reducible rfl))
 try simp only [nb1, nb2, nb3, Act.put, nb4, nb5, nb6]
 refine wpAnyH_done (by kernel_rfl) ?_ _
 obtain ⟨b0c0, b0c1, b0c2, b0c3, b0c4, b0c5, b0f0, b0f1, b0f2, b0f3, b0f4, b0f5⟩ := fac6 (x := x1) (y := x2) (HS.out.at 1 _ _ _ rfl)
 have b0l := blk_lt (HS.out.at 1 _ _ _ rfl)
 obtain ⟨b1c0, b1c1, b1c2, b1c3, b1c4, b1c5, b1f0, b1f1, b1f2, b1f3, b1f4, b1f5⟩ := fac6 (x := y1) (y := y2) (HS.out.at 0 _ _ _ rfl)
 have b1l := blk_lt (HS.out.at 0 _ _ _ rfl)
 go_wp2_with fail
 clear b0c0 b0c1 b0c2 b0c3 b0c4 b0c5 b0f0 b0f1 b0f2 b0f3 b0f4 b0f5 b0l b1c0 b1c1 b1c2 b1c3 b1c4 b1c5 b1f0 b1f1 b1f2 b1f3 b1f4 b1f5 b1l
 go_ret
 exact ⟨rfl, HS.out.bel⟩
end Go.Proofs.YthdgeindjphklaaGreat

namespace Go.Proofs.YthdgeindjphklaaGreat
open Go.RowKit

theorem pairsB {W : World} {B T : Nat} {n0 d0 n1 d1 : Int} (h : W.heap[B]? = some (.cells #[.int .i64 n0, .int .i64 d0, .int .i64 n1, .int .i64 d1] T (0, 0))) : PairsOf W (.slice (some ⟨B, 0, none⟩) 2 2) [(n0, d0), (n1, d1)] := by
 refine ⟨_, 2, rfl, fun _ => ⟨B, 0, rfl, blk_lt h, fun i hi => ?_⟩⟩
 match i, hi with
 | 0, _ => exact ⟨blk_cell h 0 _ rfl, blk_cell h 1 _ rfl⟩
 | 1, _ => exact ⟨blk_cell h 2 _ rfl, blk_cell h 3 _ rfl⟩
 | i + 2, hi => simp at hi; omega
theorem light2_any (n0 d0 n1 d1 : Int) (v : Value) (w : World) (h : PairsOf w v [(n0, d0), (n1, d1)]) : Calls Tryz.prog 13 #[v] w (RetBool (lightUp [(n0, d0), (n1, d1)] 2) w) := light_any [(n0, d0), (n1, d1)] v w h (by simp)
theorem fracP_sz {n d : Int} (h : i64P (n, d)) : szR (fracQ n d) 100 := szR_mono (fracQ_szR n d h.1.1 h.1.2 h.2.1 h.2.2) (by omega)
end Go.Proofs.YthdgeindjphklaaGreat
