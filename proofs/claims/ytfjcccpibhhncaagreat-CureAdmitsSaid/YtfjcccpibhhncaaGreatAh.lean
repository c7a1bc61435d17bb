/- Part h of the lemmas and walks. -/
import Derived.Test.YtfjcccpibhhncaaGreatAg

namespace Go.Proofs.YtfjcccpibhhncaaGreat
open Go.RowKit

theorem mtPre_sz {S : Rat} {ts : List (List Rat)} (hS : szR S 1000) (h : ∀ i j, szR ((ts.getD i []).getD j 0) 1000) : ∀ i, szR (mtPre S ts i) 1000
 | 0 => hS
 | i + 1 => h i 0
def meErr (l0 l1 : Rat) (n : Nat) (le mo ri : Rat) (m : Int) : Int := if flErr l0 l1 n ≠ 0 then flErr l0 l1 n else ndErr le mo ri m
def meOf (S le mo ri : Rat) (m : Int) (ts : List (List Rat)) (er : Int) : Bool := if er = 0 then mtOf S le mo ri m ts else false
def RetBE (b : Bool) (er : Int) (w : World) (e : Ending) (w' : World) : Prop := e = .returned (.tuple #[.bool b, .int .i64 er]) ∧ Below w.heap.size w w'
set_option maxRecDepth 100000 in
set_option maxHeartbeats 8000000 in
theorem nmeets_any (S le mo ri : Rat) (m : Int) (ts : List (List Rat)) (y1 y2 y3 : R3) (vS vt : Value) (w : World) (h1 : IsRat w y1.val le) (h2 : IsRat w y2.val mo) (h3 : IsRat w y3.val ri) (hS : IsRat w vS S) (ht : RecsOf true 2 w vt ts) (hl : ts.length ≤ 300) (s1 : szR le 1000) (s2 : szR mo 1000) (s3 : szR ri 1000) (sS : szR S 1000) (sT : ∀ i j, szR ((ts.getD i []).getD j 0) 1000) :
  Calls Tryz.prog 60 #[.agg #[.bool y1.b, .slice y1.a y1.n y1.c, .slice y1.d y1.m y1.e, .bool y2.b, .slice y2.a y2.n y2.c, .slice y2.d y2.m y2.e, .bool y3.b, .slice y3.a y3.n y3.c, .slice y3.d y3.m y3.e, .int .i64 m], vS, vt] w (RetBool (mtOf S le mo ri m ts) w) := by
 obtain ⟨x3, rfl⟩ := hS.open3
 have HS := Lib.hid (((((Sx.init w).addP h1).addP h2).addP h3).addP hS)
 have SE := Lib.hid s1
 have SM := Lib.hid s2
 have SI := Lib.hid s3
 have SS := Lib.hid sS
 have HZT := Lib.hid sT
 obtain ⟨ao, cap, rfl, hE⟩ := ht
 have HE := Lib.hid hE
 clear h1 h2 h3 hS s1 s2 s3 sS sT hE
 go_enter Tryz.func60, Tryz.ntmps60
 go_wp2_with fail
 generalize hW1 : (((w).alloc (.cells _ _)).alloc (.cells _ _)).alloc (.cells _ _) = W1 at *
 replace HS := Lib.hid (((((HS.out).alloc (B := w.heap.size) rfl (by rfl)).alloc (B := w.heap.size + 1) (by simp) (by rfl)).alloc (B := w.heap.size + 2) (by simp) (by rfl)).to hW1 (by (try simp only [nb5, nb6]); rfl))
 clear hW1
 go_wp2_with fail
 go_loopw [15, 8, 9] (fun u15 u8 u9 wr => ∃ (i : Nat) (ah0 : R3), i ≤ ts.length ∧ u15 = .int .i64 i ∧ u8 = .int .i64 ((mtNow le ts i : Nat) : Int) ∧ u9 = .int .i64 ((mtBest le ts i : Nat) : Int) ∧ Hid (mtOk S mo ri ts i = true) ∧ Hid (Sx w wr [(w.heap.size + 2, ah0.arr, 41), (w.heap.size + 1, x3.arr, 41), (w.heap.size, #[.bool y1.b, .slice y1.a y1.n y1.c, .slice y1.d y1.m y1.e, .bool y2.b, .slice y2.a y2.n y2.c, .slice y2.d y2.m y2.e, .bool y3.b, .slice y3.a y3.n y3.c, .slice y3.d y3.m y3.e, .int .i64 m], 56)] [(true, ah0.val, (mtPre S ts i)), (true, x3.val, S), (true, y3.val, ri), (true, y2.val, mo), (true, y1.val, le)]))
  (fun u _ _ _ => ts.length - (intOf u).toNat)
 case atStart => exact ⟨0, x3, Nat.zero_le _, rfl, rfl, rfl, Lib.hid rfl, Lib.hid ((((((HS.out.bare).addP (HS.out.p 3 _ _ rfl)).addP (HS.out.p 2 _ _ rfl)).addP (HS.out.p 1 _ _ rfl)).addP (HS.out.p 0 _ _ rfl)).addP (HS.out.p 0 _ _ rfl))⟩
 case round =>
  obtain ⟨wr2, hwr2⟩ : ∃ z, z = wr := ⟨_, rfl⟩
  subst hwr2
  clear HS
  obtain ⟨i, ah0, hi, rfl, rfl, rfl, HOK, HS⟩ := hrel
  by_cases hlt : i < ts.length
  ·
   have hlt' : (i : Int) < ts.length := by omega
   have hge' : (0 : Int) ≤ i := by omega
   have HLT := Lib.hid hlt
   obtain ⟨b, off, rfl, hbl, hEE⟩ := HE.out (by omega)
   have HBL := Lib.hid hbl
   have hnw := mtNow_le le ts i
   have hbt := mtBest_le le ts i
   obtain ⟨Tx, Tg0, Tg1, Tg2, Thx⟩ := hEE i hlt 0 (by omega)
   have T0 : Hid (w.cell? ⟨b, off + i * 6, none⟩ = some (.bool Tx.b)) := Tg0
   have T1 : Hid (w.cell? ⟨b, off + i * 6 + 1, none⟩ = some (.slice Tx.a Tx.n Tx.c)) := Tg1
   have T2 : Hid (w.cell? ⟨b, off + i * 6 + 2, none⟩ = some (.slice Tx.d Tx.m Tx.e)) := Tg2
   clear Tg0 Tg1 Tg2
   obtain ⟨Ty, Tg0, Tg1, Tg2, Thy⟩ := hEE i hlt 1 (by omega)
   have T3 : Hid (w.cell? ⟨b, off + i * 6 + 3, none⟩ = some (.bool Ty.b)) := Tg0
   have T4 : Hid (w.cell? ⟨b, off + i * 6 + 4, none⟩ = some (.slice Ty.a Ty.n Ty.c)) := Tg1
   have T5 : Hid (w.cell? ⟨b, off + i * 6 + 5, none⟩ = some (.slice Ty.d Ty.m Ty.e)) := Tg2
   clear Tg0 Tg1 Tg2
   replace HS := Lib.hid ((HS.out.addP (Fr.below Thx HS.out.bel)).addP (Fr.below Thy HS.out.bel))
   clear Thx Thy hbl hEE
   have SH0 := Lib.hid (HZT.out i 0)
   have SH1 := Lib.hid (HZT.out i 1)
   have SAH := Lib.hid (mtPre_sz SS.out HZT.out i)
   have HN1 : Hid (mtNow le ts (i + 1) = if cmpR ((ts.getD i []).getD 0 0) le < 0 then 0 else mtNow le ts i + 1) := rfl
   have HB1 : Hid (mtBest le ts (i + 1) = max (mtBest le ts i) (mtNow le ts (i + 1))) := rfl
   have HP1 : Hid (mtPre S ts (i + 1) = (ts.getD i []).getD 0 0) := rfl
   have HBD : Hid (mtBad S mo ri ts i = (decide (cmpR ((ts.getD i []).getD 1 0) mo > 0) || decide (cmpR ((ts.getD i []).getD 1 0 - mtPre S ts i) ri > 0))) := rfl
   have HO1 : Hid (mtOk S mo ri ts (i + 1) = (mtOk S mo ri ts i && !mtBad S mo ri ts i)) := rfl
   generalize mtNow le ts i = nw at *
   generalize mtBest le ts i = bt at *
   generalize mtPre S ts i = ah at *
   generalize (ts.getD i []).getD 0 0 = h0 at *
   generalize (ts.getD i []).getD 1 0 = h1 at *
   obtain ⟨n1, hn1⟩ : ∃ j, j = nw + 1 := ⟨_, rfl⟩
   have HQ1 := Lib.hid hn1
   have hw1 : IntKind.i64.wrap ((nw : Int) + 1) = (n1 : Int) := (IntWalk.i64_in _ (by omega)).trans (by omega)
   clear hn1 hlt
   have Tc0 := (HS.out.bel.cell (p := ⟨b, off + i * 6, none⟩) HBL.out).trans T0.out
   have Tc1 := (HS.out.bel.cell (p := ⟨b, off + i * 6 + 1, none⟩) HBL.out).trans T1.out
   have Tc2 := (HS.out.bel.cell (p := ⟨b, off + i * 6 + 2, none⟩) HBL.out).trans T2.out
   have Tc3 := (HS.out.bel.cell (p := ⟨b, off + i * 6 + 3, none⟩) HBL.out).trans T3.out
   have Tc4 := (HS.out.bel.cell (p := ⟨b, off + i * 6 + 4, none⟩) HBL.out).trans T4.out
   have Tc5 := (HS.out.bel.cell (p := ⟨b, off + i * 6 + 5, none⟩) HBL.out).trans T5.out
   go_wp2_with fail
   clear Tc0 Tc1 Tc2 Tc3 Tc4 Tc5
   generalize hW3 : (wr2).alloc (.cells _ _) = W3 at *
   replace HS := Lib.hid (((HS.out).alloc (B := wr2.heap.size) rfl (by rfl)).to hW3 (by (try simp only [nb5, nb6]); rfl))
   clear hW3
   refine wp_region_held_drew (S := (fun w' => Sx w w' [(wr2.heap.size, arr6 Tx Ty, 43), (w.heap.size + 2, ah0.arr, 41), (w.heap.size + 1, x3.arr, 41), (w.heap.size, #[.bool y1.b, .slice y1.a y1.n y1.c, .slice y1.d y1.m y1.e, .bool y2.b, .slice y2.a y2.n y2.c, .slice y2.d y2.m y2.e, .bool y3.b, .slice y3.a y3.n y3.c, .slice y3.d y3.m y3.e, .int .i64 m], 56)] [])) (by kernel_rfl) ((HS.out.drew).bare) (fun hh => ?_)
   replace HS := Lib.hid HS.out.drew
   refine tkB (i := 0) (v := ?vk5) rfl ?hk5 ?rk5
   case hk5 => intro u hSu; (try dsimp only at hSu); obtain ⟨qb3c0, qb3c1, qb3c2, qb3c3, qb3c4, qb3c5, _⟩ := fac6 (x := Tx) (y := Ty) (hSu.at 0 _ _ _ rfl); clear hSu; go_simp <;> with_reducible rfl
   try simp only [nbs, Act.put]
   refine tkB (i := 2) (v := ?vk6) rfl ?hk6 ?rk6
   case hk6 => intro u hSu; go_simp <;> with_reducible rfl
   try simp only [nbs, Act.put]
   refine tkB (i := 3) (v := ?vk7) rfl ?hk7 ?rk7
   case hk7 => intro u hSu; (try dsimp only at hSu); have qb0e := (hSu.at 3 _ _ _ rfl); have qb0c0 := blk_cell qb0e 0 (.bool y1.b) rfl; have qb0c1 := blk_cell qb0e 1 (.slice y1.a y1.n y1.c) rfl; have qb0c2 := blk_cell qb0e 2 (.slice y1.d y1.m y1.e) rfl; have qb0c3 := blk_cell qb0e 3 (.bool y2.b) rfl; have qb0c4 := blk_cell qb0e 4 (.slice y2.a y2.n y2.c) rfl; have qb0c5 := blk_cell qb0e 5 (.slice y2.d y2.m y2.e) rfl; have qb0c6 := blk_cell qb0e 6 (.bool y3.b) rfl; have qb0c7 := blk_cell qb0e 7 (.slice y3.a y3.n y3.c) rfl; have qb0c8 := blk_cell qb0e 8 (.slice y3.d y3.m y3.e) rfl; have qb0c9 := blk_cell qb0e 9 (.int .i64 m) rfl; clear qb0e; clear hSu; go_simp <;> with_reducible rfl
   try simp only [nbs, Act.put]
   refine rdA (i := 1) rfl (fun K hK => ?_)
   go_simp
   have a9 := HS.out.p 1 _ _ rfl
   have a10 := HS.out.p 0 _ _ rfl
   go_wp2_with (go_at_call 80; (with_reducible refine (rhi_any h0 h1 _ _ (rngP a9 a10)).mono ?_); rintro e w8 ⟨v8, rfl, hv8, hb8⟩; obtain ⟨z8, rfl⟩ := hv8.open3)
   refine hK.out _ _ (Sx.below hh hb8) (fun hh => ?_)
   clear hK K
   try simp only [nbs, Act.put]
   replace HS := Lib.hid (HS.out.below hb8)
   clear hb8 a9 a10
   replace HS := Lib.hid (HS.out.addP hv8)
   clear hv8
   refine rdA (i := 4) rfl (fun K hK => ?_)
   go_simp
   obtain ⟨c11, hc11⟩ : ∃ κ, κ = cmpR h1 mo := ⟨_, rfl⟩
   have HC11 := Lib.hid hc11
   clear hc11
   have a12 := HS.out.p 0 _ _ rfl
   have a13 := HS.out.p 6 _ _ rfl
   go_wp2_with (go_at_call 49; (with_reducible refine (cmpRat_any h1 mo _ _ _ a12 a13 (szR_mono SH1.out (by omega)) (szR_mono SM.out (by omega))).mono ?_); rw [← HC11.out]; rintro e w11 ⟨rfl, hb11⟩)
   refine hK.out _ _ (Sx.below hh hb11) (fun hh => ?_)
   clear hK K
   try simp only [nbs, Act.put]
   replace HS := Lib.hid (HS.out.below hb11)
   clear hb11 a12 a13
   by_cases t14p : c11 > 0
   ·
    have t14 : decide (c11 > 0) = true := decide_eq_true t14p
    have T14 := Lib.hid t14p
    clear t14p
    refine tkB (i := 5) (v := ?vk15) rfl ?hk15 ?rk15
    case hk15 => intro u hSu; go_simp <;> with_reducible rfl
    try simp only [nbs, Act.put]
    refine tkB (i := 6) (v := ?vk16) rfl ?hk16 ?rk16
    case hk16 => intro u hSu; go_simp <;> with_reducible rfl
    try simp only [nbs, Act.put]
    refine tkC (i := 7) rfl ?_
    try simp only [nbs, Act.put]
    refine tkC (i := 8) rfl ?_
    try simp only [nbs, Act.put]
    refine tkC (i := 9) rfl ?_
    try simp only [nbs, Act.put]
    refine tkC (i := 10) rfl ?_
    try simp only [nbs, Act.put]
    refine tkC (i := 11) rfl ?_
    try simp only [nbs, Act.put]
    refine tkC (i := 12) rfl ?_
    try simp only [nbs, Act.put]
    refine tkC (i := 13) rfl ?_
    try simp only [nbs, Act.put]
    refine tkC (i := 14) rfl ?_
    try simp only [nbs, Act.put]
    refine tkB (i := 15) (v := ?vk17) rfl ?hk17 ?rk17
    case hk17 => intro u hSu; go_simp <;> with_reducible rfl
    try simp only [nbs, Act.put]
    refine wpAnyH_done (by kernel_rfl) ?_ _
    go_wp2_with fail
    have HNB : Hid (mtBad S mo ri ts i = true) := Lib.hid (by first | (rw [HBD.out]; simp only [← HC11.out, t14, Bool.and_true, Bool.true_and, Bool.and_false, Bool.false_and, Bool.or_true, Bool.true_or, Bool.or_false, Bool.false_or, Bool.not_true, Bool.not_false, cond_true, cond_false]) | (rw [HBD.out]; simp [← HC11.out, t14]))
    have HR : Hid (mtOf S le mo ri m ts = false) := by show _ = _; unfold mtOf; rw [mtOk_no HNB.out HLT.out]; rfl
    go_ret
    exact ⟨by rw [HR.out] <;> rfl, HS.out.bel⟩
   ·
    have t14 : decide (c11 > 0) = false := decide_eq_false t14p
    have T14 := Lib.hid t14p
    clear t14p
    refine tkB (i := 5) (v := ?vk18) rfl ?hk18 ?rk18
    case hk18 => intro u hSu; go_simp <;> with_reducible rfl
    try simp only [nbs, Act.put]
    refine tkB (i := 6) (v := ?vk19) rfl ?hk19 ?rk19
    case hk19 => intro u hSu; go_simp <;> with_reducible rfl
    try simp only [nbs, Act.put]
    refine tkB (i := 7) (v := ?vk20) rfl ?hk20 ?rk20
    case hk20 => intro u hSu; (try dsimp only at hSu); obtain ⟨qb3c0, qb3c1, qb3c2, qb3c3, qb3c4, qb3c5, _⟩ := fac6 (x := Tx) (y := Ty) (hSu.at 0 _ _ _ rfl); clear hSu; go_simp <;> with_reducible rfl
    try simp only [nbs, Act.put]
    refine tkB (i := 9) (v := ?vk21) rfl ?hk21 ?rk21
    case hk21 => intro u hSu; (try dsimp only at hSu); obtain ⟨qb2c0, qb2c1, qb2c2, _⟩ := fac3 (x := ah0) (hSu.at 1 _ _ _ rfl); clear hSu; go_simp <;> with_reducible rfl
    try simp only [nbs, Act.put]
    refine tkB (i := 11) (v := ?vk22) rfl ?hk22 ?rk22
    case hk22 => intro u hSu; go_simp <;> with_reducible rfl
    try simp only [nbs, Act.put]
    refine tkB (i := 12) (v := ?vk23) rfl ?hk23 ?rk23
    case hk23 => intro u hSu; (try dsimp only at hSu); have qb0e := (hSu.at 3 _ _ _ rfl); have qb0c0 := blk_cell qb0e 0 (.bool y1.b) rfl; have qb0c1 := blk_cell qb0e 1 (.slice y1.a y1.n y1.c) rfl; have qb0c2 := blk_cell qb0e 2 (.slice y1.d y1.m y1.e) rfl; have qb0c3 := blk_cell qb0e 3 (.bool y2.b) rfl; have qb0c4 := blk_cell qb0e 4 (.slice y2.a y2.n y2.c) rfl; have qb0c5 := blk_cell qb0e 5 (.slice y2.d y2.m y2.e) rfl; have qb0c6 := blk_cell qb0e 6 (.bool y3.b) rfl; have qb0c7 := blk_cell qb0e 7 (.slice y3.a y3.n y3.c) rfl; have qb0c8 := blk_cell qb0e 8 (.slice y3.d y3.m y3.e) rfl; have qb0c9 := blk_cell qb0e 9 (.int .i64 m) rfl; clear qb0e; clear hSu; go_simp <;> with_reducible rfl
    try simp only [nbs, Act.put]
    refine rdA (i := 8) rfl (fun K hK => ?_)
    go_simp
    have a25 := HS.out.p 2 _ _ rfl
    have a26 := HS.out.p 1 _ _ rfl
    go_wp2_with (go_at_call 80; (with_reducible refine (rhi_any h0 h1 _ _ (rngP a25 a26)).mono ?_); rintro e w24 ⟨v24, rfl, hv24, hb24⟩; obtain ⟨z24, rfl⟩ := hv24.open3)
    refine hK.out _ _ (Sx.below hh hb24) (fun hh => ?_)
    clear hK K
    try simp only [nbs, Act.put]
    replace HS := Lib.hid (HS.out.below hb24)
    clear hb24 a25 a26
    replace HS := Lib.hid (HS.out.addP hv24)
    clear hv24
    refine rdA (i := 10) rfl (fun K hK => ?_)
    go_simp
    have a28 := HS.out.p 0 _ _ rfl
    have a29 := HS.out.p 4 _ _ rfl
    go_wp2_with (go_at_call 40; (with_reducible refine (subRat_any h1 ah _ _ _ a28 a29 (szR_mono SH1.out (by omega)) (szR_mono SAH.out (by omega))).mono ?_); rintro e w27 ⟨v27, rfl, hv27, hb27⟩; obtain ⟨z27, rfl⟩ := hv27.open3)
    refine hK.out _ _ (Sx.below hh hb27) (fun hh => ?_)
    clear hK K
    try simp only [nbs, Act.put]
    replace HS := Lib.hid (HS.out.below hb27)
    clear hb27 a28 a29
    replace HS := Lib.hid (HS.out.addP hv27)
    clear hv27
    refine rdA (i := 13) rfl (fun K hK => ?_)
    go_simp
    obtain ⟨c30, hc30⟩ : ∃ κ, κ = cmpR (h1 - ah) ri := ⟨_, rfl⟩
    have HC30 := Lib.hid hc30
    clear hc30
    have a31 := HS.out.p 0 _ _ rfl
    have a32 := HS.out.p 7 _ _ rfl
    go_wp2_with (go_at_call 49; (with_reducible refine (cmpRat_any (h1 - ah) ri _ _ _ a31 a32 (szR_mono (szR_sub SH1.out SAH.out) (by omega)) (szR_mono SI.out (by omega))).mono ?_); rw [← HC30.out]; rintro e w30 ⟨rfl, hb30⟩)
    refine hK.out _ _ (Sx.below hh hb30) (fun hh => ?_)
    clear hK K
    try simp only [nbs, Act.put]
    replace HS := Lib.hid (HS.out.below hb30)
    clear hb30 a31 a32
    by_cases t33p : c30 > 0
    ·
     have t33 : decide (c30 > 0) = true := decide_eq_true t33p
     have T33 := Lib.hid t33p
     clear t33p
     refine tkB (i := 14) (v := ?vk34) rfl ?hk34 ?rk34
     case hk34 => intro u hSu; go_simp <;> with_reducible rfl
     try simp only [nbs, Act.put]
     refine tkB (i := 15) (v := ?vk35) rfl ?hk35 ?rk35
     case hk35 => intro u hSu; go_simp <;> with_reducible rfl
     try simp only [nbs, Act.put]
     refine wpAnyH_done (by kernel_rfl) ?_ _
     go_wp2_with fail
     have HNB : Hid (mtBad S mo ri ts i = true) := Lib.hid (by first | (rw [HBD.out]; simp only [← HC11.out, ← HC30.out, t14, t33, Bool.and_true, Bool.true_and, Bool.and_false, Bool.false_and, Bool.or_true, Bool.true_or, Bool.or_false, Bool.false_or, Bool.not_true, Bool.not_false, cond_true, cond_false]) | (rw [HBD.out]; simp [← HC11.out, ← HC30.out, t14, t33]))
     have HR : Hid (mtOf S le mo ri m ts = false) := by show _ = _; unfold mtOf; rw [mtOk_no HNB.out HLT.out]; rfl
     go_ret
     exact ⟨by rw [HR.out] <;> rfl, HS.out.bel⟩
    ·
     have t33 : decide (c30 > 0) = false := decide_eq_false t33p
     have T33 := Lib.hid t33p
     clear t33p
     refine tkB (i := 14) (v := ?vk36) rfl ?hk36 ?rk36
     case hk36 => intro u hSu; go_simp <;> with_reducible rfl
     try simp only [nbs, Act.put]
     refine tkB (i := 15) (v := ?vk37) rfl ?hk37 ?rk37
     case hk37 => intro u hSu; go_simp <;> with_reducible rfl
     try simp only [nbs, Act.put]
     refine wpAnyH_done (by kernel_rfl) ?_ _
     obtain ⟨b3c0, b3c1, b3c2, b3c3, b3c4, b3c5, b3f0, b3f1, b3f2, b3f3, b3f4, b3f5⟩ := fac6 (x := Tx) (y := Ty) (HS.out.at 0 _ _ _ rfl)
     have b3l := blk_lt (HS.out.at 0 _ _ _ rfl)
     go_wp2_with fail
     clear b3c0 b3c1 b3c2 b3c3 b3c4 b3c5 b3f0 b3f1 b3f2 b3f3 b3f4 b3f5 b3l
     refine (rlo_any h0 h1 _ _ (rngP (HS.out.p 4 _ _ rfl) (HS.out.p 3 _ _ rfl))).mono ?_
     rintro e w38 ⟨v38, rfl, hv38, hb38⟩
     obtain ⟨z38, rfl⟩ := hv38.open3
     replace HS := Lib.hid (HS.out.below hb38)
     clear hb38
     replace HS := Lib.hid (HS.out.addP hv38)
     clear hv38
     obtain ⟨b2c0, b2c1, b2c2, b2f0, b2f1, b2f2⟩ := fac3 (x := ah0) (HS.out.at 1 _ _ _ rfl)
     have b2l := blk_lt (HS.out.at 1 _ _ _ rfl)
     have b0e := (HS.out.at 3 _ _ _ rfl)
     have b0c0 := blk_cell b0e 0 (.bool y1.b) rfl
     have b0c1 := blk_cell b0e 1 (.slice y1.a y1.n y1.c) rfl
     have b0c2 := blk_cell b0e 2 (.slice y1.d y1.m y1.e) rfl
     have b0c3 := blk_cell b0e 3 (.bool y2.b) rfl
     have b0c4 := blk_cell b0e 4 (.slice y2.a y2.n y2.c) rfl
     have b0c5 := blk_cell b0e 5 (.slice y2.d y2.m y2.e) rfl
     have b0c6 := blk_cell b0e 6 (.bool y3.b) rfl
     have b0c7 := blk_cell b0e 7 (.slice y3.a y3.n y3.c) rfl
     have b0c8 := blk_cell b0e 8 (.slice y3.d y3.m y3.e) rfl
     have b0c9 := blk_cell b0e 9 (.int .i64 m) rfl
     have b0f0 := blk_frozen b0e 0
     have b0f1 := blk_frozen b0e 1
     have b0f2 := blk_frozen b0e 2
     have b0f3 := blk_frozen b0e 3
     have b0f4 := blk_frozen b0e 4
     have b0f5 := blk_frozen b0e 5
     have b0f6 := blk_frozen b0e 6
     have b0f7 := blk_frozen b0e 7
     have b0f8 := blk_frozen b0e 8
     have b0f9 := blk_frozen b0e 9
     have b0l := blk_lt b0e
     clear b0e
     go_wp2_with fail
     clear b2c0 b2c1 b2c2 b2f0 b2f1 b2f2 b2l b0c0 b0c1 b0c2 b0c3 b0c4 b0c5 b0c6 b0c7 b0c8 b0c9 b0f0 b0f1 b0f2 b0f3 b0f4 b0f5 b0f6 b0f7 b0f8 b0f9 b0l
     generalize hW39 : (((w38).setCell _ _).setCell _ _).setCell _ _ = W39 at *
     replace HS := Lib.hid (((HS.out).st_R 1 ah0 z38 rfl).to hW39 (by (try simp only [nb5, nb6]); rfl))
     clear hW39
     obtain ⟨c40, hc40⟩ : ∃ κ, κ = cmpR h0 le := ⟨_, rfl⟩
     have HC40 := Lib.hid hc40
     clear hc40
     refine (cmpRat_any h0 le _ _ _ (HS.out.p 0 _ _ rfl) (HS.out.p 10 _ _ rfl) (szR_mono SH0.out (by omega)) (szR_mono SE.out (by omega))).mono ?_
     rw [← HC40.out]
     rintro e w40 ⟨rfl, hb40⟩
     replace HS := Lib.hid (HS.out.below hb40)
     clear hb40
     by_cases t41p : c40 < 0
     ·
      have t41 : decide (c40 < 0) = true := decide_eq_true t41p
      have T41 := Lib.hid t41p
      clear t41p
      go_wp2_with fail
      have HNB : Hid (mtBad S mo ri ts i = false) := Lib.hid (by first | (rw [HBD.out]; simp only [← HC11.out, ← HC30.out, ← HC40.out, t14, t33, t41, Bool.and_true, Bool.true_and, Bool.and_false, Bool.false_and, Bool.or_true, Bool.true_or, Bool.or_false, Bool.false_or, Bool.not_true, Bool.not_false, cond_true, cond_false]) | (rw [HBD.out]; simp [← HC11.out, ← HC30.out, ← HC40.out, t14, t33, t41]))
      have HNW : Hid (mtNow le ts (i + 1) = 0) := HN1.out.trans (if_pos (by rw [← HC40.out]; have := T41.out; omega))
      exact ⟨⟨i + 1, z38, by have := HLT.out; omega, by go_num, (by rw [HNW.out] <;> first | rfl | go_num), (by rw [HB1.out, HNW.out] <;> first | rfl | (congr 1; omega) | go_num), (by show _ = _; rw [HO1.out, HOK.out, HNB.out]; rfl), Lib.hid (((((((HS.out).erase 0).addP (HS.out.p 10 _ _ rfl)).addP (HS.out.p 9 _ _ rfl)).addP (HS.out.p 8 _ _ rfl)).addP (HS.out.p 7 _ _ rfl)).addP (by rw [HP1.out]; exact (HS.out.p 0 _ _ rfl)))⟩, meas_up HLT.out⟩
     ·
      have t41 : decide (c40 < 0) = false := decide_eq_false t41p
      have T41 := Lib.hid t41p
      clear t41p
      go_wp2_with fail
      have HNB : Hid (mtBad S mo ri ts i = false) := Lib.hid (by first | (rw [HBD.out]; simp only [← HC11.out, ← HC30.out, ← HC40.out, t14, t33, t41, Bool.and_true, Bool.true_and, Bool.and_false, Bool.false_and, Bool.or_true, Bool.true_or, Bool.or_false, Bool.false_or, Bool.not_true, Bool.not_false, cond_true, cond_false]) | (rw [HBD.out]; simp [← HC11.out, ← HC30.out, ← HC40.out, t14, t33, t41]))
      have HNW : Hid (mtNow le ts (i + 1) = n1) := (HN1.out.trans (if_neg (by rw [← HC40.out]; have := T41.out; omega))).trans HQ1.out.symm
      exact ⟨⟨i + 1, z38, by have := HLT.out; omega, by go_num, (by rw [HNW.out] <;> first | rfl | go_num), (by rw [HB1.out, HNW.out] <;> first | rfl | (congr 1; omega) | go_num), (by show _ = _; rw [HO1.out, HOK.out, HNB.out]; rfl), Lib.hid (((((((HS.out).erase 0).addP (HS.out.p 10 _ _ rfl)).addP (HS.out.p 9 _ _ rfl)).addP (HS.out.p 8 _ _ rfl)).addP (HS.out.p 7 _ _ rfl)).addP (by rw [HP1.out]; exact (HS.out.p 0 _ _ rfl)))⟩, meas_up HLT.out⟩
  ·
   obtain rfl : i = ts.length := by omega
   have b0e := (HS.out.at 2 _ _ _ rfl)
   have b0c0 := blk_cell b0e 0 (.bool y1.b) rfl
   have b0c1 := blk_cell b0e 1 (.slice y1.a y1.n y1.c) rfl
   have b0c2 := blk_cell b0e 2 (.slice y1.d y1.m y1.e) rfl
   have b0c3 := blk_cell b0e 3 (.bool y2.b) rfl
   have b0c4 := blk_cell b0e 4 (.slice y2.a y2.n y2.c) rfl
   have b0c5 := blk_cell b0e 5 (.slice y2.d y2.m y2.e) rfl
   have b0c6 := blk_cell b0e 6 (.bool y3.b) rfl
   have b0c7 := blk_cell b0e 7 (.slice y3.a y3.n y3.c) rfl
   have b0c8 := blk_cell b0e 8 (.slice y3.d y3.m y3.e) rfl
   have b0c9 := blk_cell b0e 9 (.int .i64 m) rfl
   have b0f0 := blk_frozen b0e 0
   have b0f1 := blk_frozen b0e 1
   have b0f2 := blk_frozen b0e 2
   have b0f3 := blk_frozen b0e 3
   have b0f4 := blk_frozen b0e 4
   have b0f5 := blk_frozen b0e 5
   have b0f6 := blk_frozen b0e 6
   have b0f7 := blk_frozen b0e 7
   have b0f8 := blk_frozen b0e 8
   have b0f9 := blk_frozen b0e 9
   have b0l := blk_lt b0e
   clear b0e
   go_wp2_with fail
   clear b0c0 b0c1 b0c2 b0c3 b0c4 b0c5 b0c6 b0c7 b0c8 b0c9 b0f0 b0f1 b0f2 b0f3 b0f4 b0f5 b0f6 b0f7 b0f8 b0f9 b0l
   have HR : Hid (mtOf S le mo ri m ts = decide (m ≤ ((mtBest le ts ts.length : Nat) : Int))) := by show _ = _; unfold mtOf; rw [HOK.out, Bool.true_and]
   go_ret
   exact ⟨by rw [HR.out] <;> rfl, HS.out.bel⟩
end Go.Proofs.YtfjcccpibhhncaaGreat

namespace Go.Proofs.YtfjcccpibhhncaaGreat
open Go.RowKit

def mtPreH (S : Rat) (ts : List (List Rat)) : Nat → Rat
 | 0 => S
 | n + 1 => (ts.getD n []).getD 1 0
theorem mt_long {m : Int} {a b : Nat} : decide (m ≤ ((max a b : Nat) : Int)) = (decide (m ≤ (a : Int)) || decide (m ≤ (b : Int))) := by
 by_cases h1 : m ≤ (a : Int)
 ·
  rw [decide_eq_true h1, decide_eq_true (by omega)]; rfl
 ·
  by_cases h2 : m ≤ (b : Int)
  ·
   rw [decide_eq_true h2, decide_eq_true (by omega)]; simp
  ·
   rw [decide_eq_false h1, decide_eq_false h2, decide_eq_false (by omega)]; rfl
theorem mt_gt (c : Int) : decide (c > 0) = !decide (c ≤ 0) := by
 by_cases h : c ≤ 0
 ·
  rw [decide_eq_true h, decide_eq_false (by omega)]; rfl
 ·
  rw [decide_eq_false h, decide_eq_true (by omega)]; rfl
theorem mtBad_le {S mo ri : Rat} {ts : List (List Rat)} {i : Nat} : mtBad S mo ri ts i = (!decide (cmpR ((ts.getD i []).getD 1 0) mo ≤ 0) || !decide (cmpR ((ts.getD i []).getD 1 0 - mtPre S ts i) ri ≤ 0)) := by
 unfold mtBad
 rw [mt_gt, mt_gt]
set_option maxRecDepth 100000 in
set_option maxHeartbeats 8000000 in
theorem qmeets_any (l0 l1 S le mo ri : Rat) (m : Int) (aq : List Rat) (k : Nat) (hk : k ≤ 256) (z : Int) (hz : min (max z 0) 256 = (k : Int)) (y1 y2 y3 : R3) (vx vS va : Value) (w : World) (hx : IsRngQ w vx l0 l1) (hll : l0 ≤ l1) (hS : IsR w vS S) (ha : FrcsOf IsR w va aq) (h1 : IsR w y1.val le) (h2 : IsR w y2.val mo) (h3 : IsR w y3.val ri) (hl : aq.length ≤ 300) (s0 : szR l0 1000) (s1 : szR l1 1000) (sS : szR S 1000) (sa : ∀ i, szR (aq.getD i 0) 1000) (s4 : szR le 1000) (s5 : szR mo 1000) (s6 : szR ri 1000) (sF : flErr l0 l1 aq.length = 0 → ∀ i, szR (flUp S l0 l1 k aq i).1 1000 ∧ szR (flUp S l0 l1 k aq i).2 1000) (sT : flErr l0 l1 aq.length = 0 → ∀ i j, szR (((flR S l0 l1 k aq aq.length).getD i []).getD j 0) 1000) :
  Calls Tryz.prog 62 #[vx, vS, va, .agg #[.bool y1.b, .slice y1.a y1.n y1.c, .slice y1.d y1.m y1.e, .bool y2.b, .slice y2.a y2.n y2.c, .slice y2.d y2.m y2.e, .bool y3.b, .slice y3.a y3.n y3.c, .slice y3.d y3.m y3.e, .int .i64 m], .int .i64 z] w (RetBE (meOf S le mo ri m (flR S l0 l1 k aq aq.length) (meErr l0 l1 aq.length le mo ri m)) (meErr l0 l1 aq.length le mo ri m) w) := by
 obtain ⟨x1, x2, rfl, hx1, hx2⟩ := hx
 obtain ⟨x3, rfl⟩ := hS.open3
 have HS := Lib.hid (((((((Sx.init w).addQ hx1).addQ hx2).addQ hS).addQ h1).addQ h2).addQ h3)
 have SL0 := Lib.hid s0
 have SL1 := Lib.hid s1
 have SS := Lib.hid sS
 have SE := Lib.hid s4
 have SM := Lib.hid s5
 have SI := Lib.hid s6
 have HZA := Lib.hid sa
 have HZF0 := Lib.hid sF
 have HZT0 := Lib.hid sT
 have HK := Lib.hid hk
 have HZK := Lib.hid hz
 have HLL := Lib.hid hll
 have HA := Lib.hid ha
 have HLE := Lib.hid hl
 obtain ⟨aa, ca, rfl, _⟩ := ha
 clear hx1 hx2 hS h1 h2 h3 s0 s1 sS s4 s5 s6 sa sF sT hk hz hll hl
 go_enter Tryz.func62, Tryz.ntmps62
 go_wp2_with fail
 generalize hW1 : (((w).alloc (.cells _ _)).alloc (.cells _ _)).alloc (.cells _ _) = W1 at *
 replace HS := Lib.hid (((((HS.out).alloc (B := w.heap.size) rfl (by rfl)).alloc (B := w.heap.size + 1) (by simp) (by rfl)).alloc (B := w.heap.size + 2) (by simp) (by rfl)).to hW1 (by (try simp only [nb5, nb6]); rfl))
 clear hW1
 by_cases hz2 : flErr l0 l1 aq.length = 0
 ·
  have HZ2 := Lib.hid hz2
  clear hz2
  refine (qfollow_any l0 l1 S aq k HK.out z HZK.out _ _ _ _ (rngQ (HS.out.q 5 _ _ rfl) (HS.out.q 4 _ _ rfl)) HLL.out (HS.out.q 3 _ _ rfl) (HA.out.bQ HS.out.bel) HLE.out SL0.out SL1.out SS.out HZA.out HZF0.out).mono ?_
  rintro e w3 ⟨v3, rfl, hv3, hb3⟩
  rw [HZ2.out] at hv3
  have hv3' : RecsOf false 2 w3 v3 (flR S l0 l1 k aq aq.length) := hv3
  obtain ⟨ao, cap, rfl, hE⟩ := hv3'
  have HEL := Lib.hid (flR_len S l0 l1 k aq aq.length)
  have HZT := Lib.hid (HZT0.out HZ2.out)
  generalize flR S l0 l1 k aq aq.length = ts at *
  have HE := Lib.hid hE
  clear hE hv3
  rw [HZ2.out]
  replace HS := Lib.hid (HS.out.below hb3)
  clear hb3
  have HMK := Lib.hid (Below.refl w3.heap.size w3)
  by_cases t4p : m < 1
  ·
   have t4 : decide (m < 1) = true := decide_eq_true t4p
   have T4 := Lib.hid t4p
   clear t4p
   have b2e := (HS.out.at 0 _ _ _ rfl)
   have b2c0 := blk_cell b2e 0 (.bool y1.b) rfl
   have b2c1 := blk_cell b2e 1 (.slice y1.a y1.n y1.c) rfl
   have b2c2 := blk_cell b2e 2 (.slice y1.d y1.m y1.e) rfl
   have b2c3 := blk_cell b2e 3 (.bool y2.b) rfl
   have b2c4 := blk_cell b2e 4 (.slice y2.a y2.n y2.c) rfl
   have b2c5 := blk_cell b2e 5 (.slice y2.d y2.m y2.e) rfl
   have b2c6 := blk_cell b2e 6 (.bool y3.b) rfl
   have b2c7 := blk_cell b2e 7 (.slice y3.a y3.n y3.c) rfl
   have b2c8 := blk_cell b2e 8 (.slice y3.d y3.m y3.e) rfl
   have b2c9 := blk_cell b2e 9 (.int .i64 m) rfl
   have b2f0 := blk_frozen b2e 0
   have b2f1 := blk_frozen b2e 1
   have b2f2 := blk_frozen b2e 2
   have b2f3 := blk_frozen b2e 3
   have b2f4 := blk_frozen b2e 4
   have b2f5 := blk_frozen b2e 5
   have b2f6 := blk_frozen b2e 6
   have b2f7 := blk_frozen b2e 7
   have b2f8 := blk_frozen b2e 8
   have b2f9 := blk_frozen b2e 9
   have b2l := blk_lt b2e
   clear b2e
   go_wp2_with fail
   clear b2c0 b2c1 b2c2 b2c3 b2c4 b2c5 b2c6 b2c7 b2c8 b2c9 b2f0 b2f1 b2f2 b2f3 b2f4 b2f5 b2f6 b2f7 b2f8 b2f9 b2l
   have HR : Hid (meErr l0 l1 aq.length le mo ri m = 1) := by
    show _ = _
    unfold meErr ndErr
    have t4q := T4.out
    rw [if_neg (by rw [HZ2.out]; simp), if_pos (by omega)]
   go_ret2
   exact (by rw [HR.out]; exact ⟨by unfold meOf; rw [if_neg (by decide)] <;> rfl, HS.out.bel⟩)
  ·
   have t4 : decide (m < 1) = false := decide_eq_false t4p
   have T4 := Lib.hid t4p
   clear t4p
   by_cases t5p : m > 256
   ·
    have t5 : decide (m > 256) = true := decide_eq_true t5p
    have T5 := Lib.hid t5p
    clear t5p
    have b2e := (HS.out.at 0 _ _ _ rfl)
    have b2c0 := blk_cell b2e 0 (.bool y1.b) rfl
    have b2c1 := blk_cell b2e 1 (.slice y1.a y1.n y1.c) rfl
    have b2c2 := blk_cell b2e 2 (.slice y1.d y1.m y1.e) rfl
    have b2c3 := blk_cell b2e 3 (.bool y2.b) rfl
    have b2c4 := blk_cell b2e 4 (.slice y2.a y2.n y2.c) rfl
    have b2c5 := blk_cell b2e 5 (.slice y2.d y2.m y2.e) rfl
    have b2c6 := blk_cell b2e 6 (.bool y3.b) rfl
    have b2c7 := blk_cell b2e 7 (.slice y3.a y3.n y3.c) rfl
    have b2c8 := blk_cell b2e 8 (.slice y3.d y3.m y3.e) rfl
    have b2c9 := blk_cell b2e 9 (.int .i64 m) rfl
    have b2f0 := blk_frozen b2e 0
    have b2f1 := blk_frozen b2e 1
    have b2f2 := blk_frozen b2e 2
    have b2f3 := blk_frozen b2e 3
    have b2f4 := blk_frozen b2e 4
    have b2f5 := blk_frozen b2e 5
    have b2f6 := blk_frozen b2e 6
    have b2f7 := blk_frozen b2e 7
    have b2f8 := blk_frozen b2e 8
    have b2f9 := blk_frozen b2e 9
    have b2l := blk_lt b2e
    clear b2e
    go_wp2_with fail
    clear b2c0 b2c1 b2c2 b2c3 b2c4 b2c5 b2c6 b2c7 b2c8 b2c9 b2f0 b2f1 b2f2 b2f3 b2f4 b2f5 b2f6 b2f7 b2f8 b2f9 b2l
    have HR : Hid (meErr l0 l1 aq.length le mo ri m = 1) := by
     show _ = _
     unfold meErr ndErr
     have t4q := T4.out
     have t5q := T5.out
     rw [if_neg (by rw [HZ2.out]; simp), if_pos (by omega)]
    go_ret2
    exact (by rw [HR.out]; exact ⟨by unfold meOf; rw [if_neg (by decide)] <;> rfl, HS.out.bel⟩)
   ·
    have t5 : decide (m > 256) = false := decide_eq_false t5p
    have T5 := Lib.hid t5p
    clear t5p
    have b2e := (HS.out.at 0 _ _ _ rfl)
    have b2c0 := blk_cell b2e 0 (.bool y1.b) rfl
    have b2c1 := blk_cell b2e 1 (.slice y1.a y1.n y1.c) rfl
    have b2c2 := blk_cell b2e 2 (.slice y1.d y1.m y1.e) rfl
    have b2c3 := blk_cell b2e 3 (.bool y2.b) rfl
    have b2c4 := blk_cell b2e 4 (.slice y2.a y2.n y2.c) rfl
    have b2c5 := blk_cell b2e 5 (.slice y2.d y2.m y2.e) rfl
    have b2c6 := blk_cell b2e 6 (.bool y3.b) rfl
    have b2c7 := blk_cell b2e 7 (.slice y3.a y3.n y3.c) rfl
    have b2c8 := blk_cell b2e 8 (.slice y3.d y3.m y3.e) rfl
    have b2c9 := blk_cell b2e 9 (.int .i64 m) rfl
    have b2f0 := blk_frozen b2e 0
    have b2f1 := blk_frozen b2e 1
    have b2f2 := blk_frozen b2e 2
    have b2f3 := blk_frozen b2e 3
    have b2f4 := blk_frozen b2e 4
    have b2f5 := blk_frozen b2e 5
    have b2f6 := blk_frozen b2e 6
    have b2f7 := blk_frozen b2e 7
    have b2f8 := blk_frozen b2e 8
    have b2f9 := blk_frozen b2e 9
    have b2l := blk_lt b2e
    clear b2e
    go_wp2_with fail
    clear b2c0 b2c1 b2c2 b2c3 b2c4 b2c5 b2c6 b2c7 b2c8 b2c9 b2f0 b2f1 b2f2 b2f3 b2f4 b2f5 b2f6 b2f7 b2f8 b2f9 b2l
    obtain ⟨c6, hc6⟩ : ∃ κ, κ = sgnI (decide (ri.num < 0)) ri.num.natAbs := ⟨_, rfl⟩
    have HC6 := Lib.hid hc6
    clear hc6
    refine (qsignR_any ri _ _ (HS.out.q 0 _ _ rfl)).mono ?_
    rw [← HC6.out]
    rintro e w6 ⟨rfl, hb6⟩
    replace HS := Lib.hid (HS.out.below hb6)
    replace HMK := Lib.hid (ext_trans HMK.out hb6)
    clear hb6
    by_cases t7p : c6 < 0
    ·
     have t7 : decide (c6 < 0) = true := decide_eq_true t7p
     have T7 := Lib.hid t7p
     clear t7p
     go_wp2_with fail
     have HR : Hid (meErr l0 l1 aq.length le mo ri m = 1) := by
      show _ = _
      unfold meErr ndErr
      rw [← HC6.out]
      have t4q := T4.out
      have t5q := T5.out
      have t7q := T7.out
      rw [if_neg (by rw [HZ2.out]; simp), if_pos (by omega)]
     go_ret2
     exact (by rw [HR.out]; exact ⟨by unfold meOf; rw [if_neg (by decide)] <;> rfl, HS.out.bel⟩)
    ·
     have t7 : decide (c6 < 0) = false := decide_eq_false t7p
     have T7 := Lib.hid t7p
     clear t7p
     have b2e := (HS.out.at 0 _ _ _ rfl)
     have b2c0 := blk_cell b2e 0 (.bool y1.b) rfl
     have b2c1 := blk_cell b2e 1 (.slice y1.a y1.n y1.c) rfl
     have b2c2 := blk_cell b2e 2 (.slice y1.d y1.m y1.e) rfl
     have b2c3 := blk_cell b2e 3 (.bool y2.b) rfl
     have b2c4 := blk_cell b2e 4 (.slice y2.a y2.n y2.c) rfl
     have b2c5 := blk_cell b2e 5 (.slice y2.d y2.m y2.e) rfl
     have b2c6 := blk_cell b2e 6 (.bool y3.b) rfl
     have b2c7 := blk_cell b2e 7 (.slice y3.a y3.n y3.c) rfl
     have b2c8 := blk_cell b2e 8 (.slice y3.d y3.m y3.e) rfl
     have b2c9 := blk_cell b2e 9 (.int .i64 m) rfl
     have b2f0 := blk_frozen b2e 0
     have b2f1 := blk_frozen b2e 1
     have b2f2 := blk_frozen b2e 2
     have b2f3 := blk_frozen b2e 3
     have b2f4 := blk_frozen b2e 4
     have b2f5 := blk_frozen b2e 5
     have b2f6 := blk_frozen b2e 6
     have b2f7 := blk_frozen b2e 7
     have b2f8 := blk_frozen b2e 8
     have b2f9 := blk_frozen b2e 9
     have b2l := blk_lt b2e
     clear b2e
     go_wp2_with fail
     clear b2c0 b2c1 b2c2 b2c3 b2c4 b2c5 b2c6 b2c7 b2c8 b2c9 b2f0 b2f1 b2f2 b2f3 b2f4 b2f5 b2f6 b2f7 b2f8 b2f9 b2l
     obtain ⟨c8, hc8⟩ : ∃ κ, κ = cmpR le mo := ⟨_, rfl⟩
     have HC8 := Lib.hid hc8
     clear hc8
     refine (qcmp_any le mo _ _ _ (HS.out.q 2 _ _ rfl) (HS.out.q 1 _ _ rfl) (szQ_mono (szQ_of SE.out) (by omega)) (szQ_mono (szQ_of SM.out) (by omega))).mono ?_
     rw [← HC8.out]
     rintro e w8 ⟨rfl, hb8⟩
     replace HS := Lib.hid (HS.out.below hb8)
     replace HMK := Lib.hid (ext_trans HMK.out hb8)
     clear hb8
     by_cases t9p : c8 > 0
     ·
      have t9 : decide (c8 > 0) = true := decide_eq_true t9p
      have T9 := Lib.hid t9p
      clear t9p
      go_wp2_with fail
      have HR : Hid (meErr l0 l1 aq.length le mo ri m = 1) := by
       show _ = _
       unfold meErr ndErr
       rw [← HC6.out, ← HC8.out]
       have t4q := T4.out
       have t5q := T5.out
       have t7q := T7.out
       have t9q := T9.out
       rw [if_neg (by rw [HZ2.out]; simp), if_pos (by omega)]
      go_ret2
      exact (by rw [HR.out]; exact ⟨by unfold meOf; rw [if_neg (by decide)] <;> rfl, HS.out.bel⟩)
     ·
      have t9 : decide (c8 > 0) = false := decide_eq_false t9p
      have T9 := Lib.hid t9p
      clear t9p
      obtain ⟨b1c0, b1c1, b1c2, b1f0, b1f1, b1f2⟩ := fac3 (x := x3) (HS.out.at 1 _ _ _ rfl)
      have b1l := blk_lt (HS.out.at 1 _ _ _ rfl)
      go_wp2_with fail
      clear b1c0 b1c1 b1c2 b1f0 b1f1 b1f2 b1l
      refine (qonly_any S _ _ (HS.out.q 3 _ _ rfl)).mono ?_
      rintro e w10 ⟨v10, rfl, ⟨z10a, z10b, rfl, hv10, hw10⟩, hb10⟩
      replace HS := Lib.hid (HS.out.below hb10)
      replace HMK := Lib.hid (ext_trans HMK.out hb10)
      clear hb10
      replace HS := Lib.hid (HS.out.addQ hv10)
      clear hv10
      replace HS := Lib.hid (HS.out.addQ hw10)
      clear hw10
      go_wp2_with fail
      have HG12 : Hid (w3.heap.size ≤ w10.heap.size) := by first | exact HMK.out.size | (show _ ≤ _; have := HMK.out.size; omega)
      generalize hW11 : (w10).alloc (.cells _ _) = W11 at *
      replace HS := Lib.hid (((HS.out).alloc (B := w10.heap.size) rfl (by rfl)).to hW11 (by (try simp only [nb5, nb6]); rfl))
      replace HMK : Hid (Below w3.heap.size w3 W11) := by subst hW11; exact Lib.hid ((mk_alloc HMK.out))
      clear hW11
      have HNE : Hid (ndErr le mo ri m = 0) := by
       show _ = _
       unfold ndErr
       rw [← HC6.out, ← HC8.out]
       have t4q := T4.out
       have t5q := T5.out
       have t7q := T7.out
       have t9q := T9.out
       rw [if_neg (by omega)]
      have HM1 : Hid (1 ≤ m) := by show _ ≤ _; have := T4.out; omega
      go_wp2_with fail
      go_loopw [18, 14, 15, 16] (fun u18 u14 u15 u16 wr => ∃ (i : Nat) (ah0 ah1 : R3), i ≤ ts.length ∧ u18 = .int .i64 i ∧ u14 = .int .i64 ((mtNow le ts i : Nat) : Int) ∧ u15 = .bool (decide (m ≤ ((mtBest le ts i : Nat) : Int))) ∧ u16 = .bool (mtOk S mo ri ts i) ∧ Hid (Sx w wr [(w10.heap.size, arr6 ah0 ah1, 51), (w.heap.size + 2, #[.bool y1.b, .slice y1.a y1.n y1.c, .slice y1.d y1.m y1.e, .bool y2.b, .slice y2.a y2.n y2.c, .slice y2.d y2.m y2.e, .bool y3.b, .slice y3.a y3.n y3.c, .slice y3.d y3.m y3.e, .int .i64 m], 58), (w.heap.size + 1, x3.arr, 49), (w.heap.size, arr6 x1 x2, 54)] [(false, ah1.val, (mtPreH S ts i)), (false, ah0.val, (mtPre S ts i)), (false, x3.val, S), (false, y3.val, ri), (false, y2.val, mo), (false, y1.val, le)]) ∧ Hid (Below w3.heap.size w3 wr))
       (fun u _ _ _ _ => ts.length - (intOf u).toNat)
      case atStart => exact ⟨0, z10a, z10b, Nat.zero_le _, rfl, rfl, (by rw [decide_eq_false (by have := HM1.out; show ¬ m ≤ 0; omega)]), rfl, Lib.hid (((((((HS.out.bare).addQ (HS.out.q 4 _ _ rfl)).addQ (HS.out.q 3 _ _ rfl)).addQ (HS.out.q 2 _ _ rfl)).addQ (HS.out.q 5 _ _ rfl)).addQ (HS.out.q 1 _ _ rfl)).addQ (HS.out.q 0 _ _ rfl)), HMK⟩
      case round =>
       obtain ⟨wr13, hwr13⟩ : ∃ z, z = wr := ⟨_, rfl⟩
       subst hwr13
       clear HS HMK
       obtain ⟨i, ah0, ah1, hi, rfl, rfl, rfl, rfl, HS, HMK⟩ := hrel
       by_cases hlt : i < ts.length
       ·
        have hlt' : (i : Int) < ts.length := by omega
        have hge' : (0 : Int) ≤ i := by omega
        have HLT := Lib.hid hlt
        obtain ⟨b, off, rfl, hbl, hEE⟩ := HE.out (by omega)
        have HBL := Lib.hid hbl
        have hnw := mtNow_le le ts i
        have hbt := mtBest_le le ts i
        obtain ⟨Tx, Tg0, Tg1, Tg2, Thx⟩ := hEE i hlt 0 (by omega)
        have T0 : Hid (w3.cell? ⟨b, off + i * 6, none⟩ = some (.bool Tx.b)) := Tg0
        have T1 : Hid (w3.cell? ⟨b, off + i * 6 + 1, none⟩ = some (.slice Tx.a Tx.n Tx.c)) := Tg1
        have T2 : Hid (w3.cell? ⟨b, off + i * 6 + 2, none⟩ = some (.slice Tx.d Tx.m Tx.e)) := Tg2
        clear Tg0 Tg1 Tg2
        obtain ⟨Ty, Tg0, Tg1, Tg2, Thy⟩ := hEE i hlt 1 (by omega)
        have T3 : Hid (w3.cell? ⟨b, off + i * 6 + 3, none⟩ = some (.bool Ty.b)) := Tg0
        have T4 : Hid (w3.cell? ⟨b, off + i * 6 + 4, none⟩ = some (.slice Ty.a Ty.n Ty.c)) := Tg1
        have T5 : Hid (w3.cell? ⟨b, off + i * 6 + 5, none⟩ = some (.slice Ty.d Ty.m Ty.e)) := Tg2
        clear Tg0 Tg1 Tg2
        replace HS := Lib.hid ((HS.out.addQ (Fr.below Thx HMK.out)).addQ (Fr.below Thy HMK.out))
        clear Thx Thy hbl hEE
        have SH0 := Lib.hid (HZT.out i 0)
        have SH1 := Lib.hid (HZT.out i 1)
        have SAH := Lib.hid (mtPre_sz SS.out HZT.out i)
        have HN1 : Hid (mtNow le ts (i + 1) = if cmpR ((ts.getD i []).getD 0 0) le < 0 then 0 else mtNow le ts i + 1) := rfl
        have HB1 : Hid (mtBest le ts (i + 1) = max (mtBest le ts i) (mtNow le ts (i + 1))) := rfl
        have HP1 : Hid (mtPre S ts (i + 1) = (ts.getD i []).getD 0 0) := rfl
        have HP2 : Hid (mtPreH S ts (i + 1) = (ts.getD i []).getD 1 0) := rfl
        have HBD := Lib.hid (mtBad_le (S := S) (mo := mo) (ri := ri) (ts := ts) (i := i))
        have HO1 : Hid (mtOk S mo ri ts (i + 1) = (mtOk S mo ri ts i && !mtBad S mo ri ts i)) := rfl
        generalize mtNow le ts i = nw at *
        generalize mtPre S ts i = ah at *
        generalize mtPreH S ts i = bh at *
        obtain ⟨ob, hob⟩ : ∃ z, z = mtOk S mo ri ts i := ⟨_, rfl⟩
        have HOB := Lib.hid hob
        rw [← hob]
        obtain ⟨lb, hlb⟩ : ∃ z, z = decide (m ≤ ((mtBest le ts i : Nat) : Int)) := ⟨_, rfl⟩
        have HLB := Lib.hid hlb
        rw [← hlb]
        clear hob hlb
        generalize mtBest le ts i = bt at *
        generalize (ts.getD i []).getD 0 0 = h0 at *
        generalize (ts.getD i []).getD 1 0 = h1 at *
        have hTL : ts.length ≤ 300 := by have := HLE.out; have := HEL.out; omega
        obtain ⟨n1, hn1⟩ : ∃ j, j = nw + 1 := ⟨_, rfl⟩
        have HQ1 := Lib.hid hn1
        have hw1 : IntKind.i64.wrap ((nw : Int) + 1) = (n1 : Int) := (IntWalk.i64_in _ (by have := HLE.out; have := HEL.out; omega)).trans (by omega)
        clear hn1 hlt
        go_wp2_with fail
        refine wp_region_held_drew (S := (fun w' => Sx w w' [(w10.heap.size, arr6 ah0 ah1, 51), (w.heap.size + 2, #[.bool y1.b, .slice y1.a y1.n y1.c, .slice y1.d y1.m y1.e, .bool y2.b, .slice y2.a y2.n y2.c, .slice y2.d y2.m y2.e, .bool y3.b, .slice y3.a y3.n y3.c, .slice y3.d y3.m y3.e, .int .i64 m], 58), (w.heap.size + 1, x3.arr, 49), (w.heap.size, arr6 x1 x2, 54)] [])) (by kernel_rfl) ((HS.out.drew).bare) (fun hh => ?_)
        replace HS := Lib.hid HS.out.drew
        replace HMK := Lib.hid (ext_trans HMK.out (Below.refl _ _).drew)
        refine tkB (i := 0) (v := ?vk15) rfl ?hk15 ?rk15
        case hk15 => intro u hSu; go_simp <;> with_reducible rfl
        try simp only [nbs, Act.put]
        refine tkB (i := 1) (v := ?vk16) rfl ?hk16 ?rk16
        case hk16 => intro u hSu; go_simp <;> with_reducible rfl
        try simp only [nbs, Act.put]
        refine tkB (i := 2) (v := ?vk17) rfl ?hk17 ?rk17
        case hk17 => intro u hSu; go_simp <;> with_reducible rfl
        try simp only [nbs, Act.put]
        refine tkB (i := 3) (v := ?vk18) rfl ?hk18 ?rk18
        case hk18 => intro u hSu; go_simp <;> with_reducible rfl
        try simp only [nbs, Act.put]
        refine tkB (i := 5) (v := ?vk19) rfl ?hk19 ?rk19
        case hk19 => intro u hSu; go_simp <;> with_reducible rfl
        try simp only [nbs, Act.put]
        refine tkB (i := 6) (v := ?vk20) rfl ?hk20 ?rk20
        case hk20 => intro u hSu; (try dsimp only at hSu); have qb2e := (hSu.at 1 _ _ _ rfl); have qb2c0 := blk_cell qb2e 0 (.bool y1.b) rfl; have qb2c1 := blk_cell qb2e 1 (.slice y1.a y1.n y1.c) rfl; have qb2c2 := blk_cell qb2e 2 (.slice y1.d y1.m y1.e) rfl; have qb2c3 := blk_cell qb2e 3 (.bool y2.b) rfl; have qb2c4 := blk_cell qb2e 4 (.slice y2.a y2.n y2.c) rfl; have qb2c5 := blk_cell qb2e 5 (.slice y2.d y2.m y2.e) rfl; have qb2c6 := blk_cell qb2e 6 (.bool y3.b) rfl; have qb2c7 := blk_cell qb2e 7 (.slice y3.a y3.n y3.c) rfl; have qb2c8 := blk_cell qb2e 8 (.slice y3.d y3.m y3.e) rfl; have qb2c9 := blk_cell qb2e 9 (.int .i64 m) rfl; clear qb2e; clear hSu; go_simp <;> with_reducible rfl
        try simp only [nbs, Act.put]
        refine rdA (i := 4) rfl (fun K hK => ?_)
        have Tc0 := (HMK.out.cell (p := ⟨b, off + i * 6, none⟩) HBL.out).trans T0.out
        have Tc1 := (HMK.out.cell (p := ⟨b, off + i * 6 + 1, none⟩) HBL.out).trans T1.out
        have Tc2 := (HMK.out.cell (p := ⟨b, off + i * 6 + 2, none⟩) HBL.out).trans T2.out
        have Tc3 := (HMK.out.cell (p := ⟨b, off + i * 6 + 3, none⟩) HBL.out).trans T3.out
        have Tc4 := (HMK.out.cell (p := ⟨b, off + i * 6 + 4, none⟩) HBL.out).trans T4.out
        have Tc5 := (HMK.out.cell (p := ⟨b, off + i * 6 + 5, none⟩) HBL.out).trans T5.out
        go_simp
        refine hK.out _ _ hh (fun hh => ?_)
        clear hK K Tc0 Tc1 Tc2 Tc3 Tc4 Tc5
        try simp only [nbs, Act.put]
        refine rdA (i := 7) rfl (fun K hK => ?_)
        go_simp
        obtain ⟨c21, hc21⟩ : ∃ κ, κ = cmpR h0 le := ⟨_, rfl⟩
        have HC21 := Lib.hid hc21
        clear hc21
        have a22 := HS.out.q 1 _ _ rfl
        have a23 := HS.out.q 7 _ _ rfl
        go_wp2_with (go_at_call 81; (with_reducible refine (qcmp_any h0 le _ _ _ a22 a23 (szQ_mono (szQ_of SH0.out) (by omega)) (szQ_mono (szQ_of SE.out) (by omega))).mono ?_); rw [← HC21.out]; rintro e w21 ⟨rfl, hb21⟩)
        refine hK.out _ _ (Sx.below hh hb21) (fun hh => ?_)
        clear hK K
        try simp only [nbs, Act.put]
        replace HS := Lib.hid (HS.out.below hb21)
        replace HMK := Lib.hid (ext_trans HMK.out hb21)
        clear hb21 a22 a23
        refine tkB (i := 8) (v := ?vk24) rfl ?hk24 ?rk24
        case hk24 => intro u hSu; go_simp <;> with_reducible rfl
        try simp only [nbs, Act.put]
        refine wpAnyH_done (by kernel_rfl) ?_ _
        go_upto_if 70 with fail
        go_cut [14] (fun s14 wx => Hid (∃ r : Nat, s14 = .int .i64 (r : Int) ∧ w21 = wx ∧ Hid (mtNow le ts (i + 1) = r) ∧ r ≤ i + 1))
        case first =>
         by_cases t25p : c21 < 0
         ·
          have t25 : decide (c21 < 0) = true := decide_eq_true t25p
          have T25 := Lib.hid t25p
          clear t25p
          have t25w := T25.out
          go_wp2_with fail
          have HNW : Hid (mtNow le ts (i + 1) = 0) := HN1.out.trans (if_pos (by rw [← HC21.out]; have := T25.out; omega))
          go_meet
          exact Lib.hid ⟨0, rfl, rfl, HNW, by omega⟩
         ·
          have t25 : decide (c21 < 0) = false := decide_eq_false t25p
          have T25 := Lib.hid t25p
          clear t25p
          have t25w := T25.out
          go_wp2_with fail
          have HNW : Hid (mtNow le ts (i + 1) = n1) := (HN1.out.trans (if_neg (by rw [← HC21.out]; have := T25.out; omega))).trans HQ1.out.symm
          go_meet
          exact Lib.hid ⟨n1, rfl, rfl, HNW, by have := HQ1.out; omega⟩
        case rest =>
         obtain ⟨n2, rfl, rfl, HNW, hn2⟩ := hcut.out
         clear hcut
         cases t26 : lb with
         | true =>
          go_wp2_with fail
          refine wp_region_held_drew (S := (fun w' => Sx w w' [(w10.heap.size, arr6 ah0 ah1, 51), (w.heap.size + 2, #[.bool y1.b, .slice y1.a y1.n y1.c, .slice y1.d y1.m y1.e, .bool y2.b, .slice y2.a y2.n y2.c, .slice y2.d y2.m y2.e, .bool y3.b, .slice y3.a y3.n y3.c, .slice y3.d y3.m y3.e, .int .i64 m], 58), (w.heap.size + 1, x3.arr, 49), (w.heap.size, arr6 x1 x2, 54)] [])) (by kernel_rfl) ((HS.out.drew).bare) (fun hh => ?_)
          replace HS := Lib.hid HS.out.drew
          replace HMK := Lib.hid (ext_trans HMK.out (Below.refl _ _).drew)
          cases t28 : ob with
          | true =>
           refine tkB (i := 0) (v := ?vk29) rfl ?hk29 ?rk29
           case hk29 => intro u hSu; go_simp <;> with_reducible rfl
           try simp only [nbs, Act.put]
           refine tkB (i := 1) (v := ?vk30) rfl ?hk30 ?rk30
           case hk30 => intro u hSu; go_simp <;> with_reducible rfl
           try simp only [nbs, Act.put]
           refine tkB (i := 2) (v := ?vk31) rfl ?hk31 ?rk31
           case hk31 => intro u hSu; go_simp <;> with_reducible rfl
           try simp only [nbs, Act.put]
           refine tkB (i := 3) (v := ?vk32) rfl ?hk32 ?rk32
           case hk32 => intro u hSu; go_simp <;> with_reducible rfl
           try simp only [nbs, Act.put]
           refine tkB (i := 4) (v := ?vk33) rfl ?hk33 ?rk33
           case hk33 => intro u hSu; go_simp <;> with_reducible rfl
           try simp only [nbs, Act.put]
           refine tkB (i := 5) (v := ?vk34) rfl ?hk34 ?rk34
           case hk34 => intro u hSu; go_simp <;> with_reducible rfl
           try simp only [nbs, Act.put]
           refine tkB (i := 7) (v := ?vk35) rfl ?hk35 ?rk35
           case hk35 => intro u hSu; go_simp <;> with_reducible rfl
           try simp only [nbs, Act.put]
           refine tkB (i := 8) (v := ?vk36) rfl ?hk36 ?rk36
           case hk36 => intro u hSu; (try dsimp only at hSu); have qb2e := (hSu.at 1 _ _ _ rfl); have qb2c0 := blk_cell qb2e 0 (.bool y1.b) rfl; have qb2c1 := blk_cell qb2e 1 (.slice y1.a y1.n y1.c) rfl; have qb2c2 := blk_cell qb2e 2 (.slice y1.d y1.m y1.e) rfl; have qb2c3 := blk_cell qb2e 3 (.bool y2.b) rfl; have qb2c4 := blk_cell qb2e 4 (.slice y2.a y2.n y2.c) rfl; have qb2c5 := blk_cell qb2e 5 (.slice y2.d y2.m y2.e) rfl; have qb2c6 := blk_cell qb2e 6 (.bool y3.b) rfl; have qb2c7 := blk_cell qb2e 7 (.slice y3.a y3.n y3.c) rfl; have qb2c8 := blk_cell qb2e 8 (.slice y3.d y3.m y3.e) rfl; have qb2c9 := blk_cell qb2e 9 (.int .i64 m) rfl; clear qb2e; clear hSu; go_simp <;> with_reducible rfl
           try simp only [nbs, Act.put]
           refine rdA (i := 6) rfl (fun K hK => ?_)
           have Tc0 := (HMK.out.cell (p := ⟨b, off + i * 6, none⟩) HBL.out).trans T0.out
           have Tc1 := (HMK.out.cell (p := ⟨b, off + i * 6 + 1, none⟩) HBL.out).trans T1.out
           have Tc2 := (HMK.out.cell (p := ⟨b, off + i * 6 + 2, none⟩) HBL.out).trans T2.out
           have Tc3 := (HMK.out.cell (p := ⟨b, off + i * 6 + 3, none⟩) HBL.out).trans T3.out
           have Tc4 := (HMK.out.cell (p := ⟨b, off + i * 6 + 4, none⟩) HBL.out).trans T4.out
           have Tc5 := (HMK.out.cell (p := ⟨b, off + i * 6 + 5, none⟩) HBL.out).trans T5.out
           go_simp
           refine hK.out _ _ hh (fun hh => ?_)
           clear hK K Tc0 Tc1 Tc2 Tc3 Tc4 Tc5
           try simp only [nbs, Act.put]
           refine rdA (i := 9) rfl (fun K hK => ?_)
           go_simp
           obtain ⟨c37, hc37⟩ : ∃ κ, κ = cmpR h1 mo := ⟨_, rfl⟩
           have HC37 := Lib.hid hc37
           clear hc37
           have a38 := HS.out.q 0 _ _ rfl
           have a39 := HS.out.q 6 _ _ rfl
           go_wp2_with (go_at_call 81; (with_reducible refine (qcmp_any h1 mo _ _ _ a38 a39 (szQ_mono (szQ_of SH1.out) (by omega)) (szQ_mono (szQ_of SM.out) (by omega))).mono ?_); rw [← HC37.out]; rintro e w37 ⟨rfl, hb37⟩)
           refine hK.out _ _ (Sx.below hh hb37) (fun hh => ?_)
           clear hK K
           try simp only [nbs, Act.put]
           replace HS := Lib.hid (HS.out.below hb37)
           replace HMK := Lib.hid (ext_trans HMK.out hb37)
           clear hb37 a38 a39
           by_cases t40p : c37 ≤ 0
           ·
            have t40 : decide (c37 ≤ 0) = true := decide_eq_true t40p
            have T40 := Lib.hid t40p
            clear t40p
            refine tkB (i := 10) (v := ?vk41) rfl ?hk41 ?rk41
            case hk41 => intro u hSu; go_simp <;> with_reducible rfl
            try simp only [nbs, Act.put]
            refine tkB (i := 11) (v := ?vk42) rfl ?hk42 ?rk42
            case hk42 => intro u hSu; go_simp <;> with_reducible rfl
            try simp only [nbs, Act.put]
            refine tkB (i := 12) (v := ?vk43) rfl ?hk43 ?rk43
            case hk43 => intro u hSu; go_simp <;> with_reducible rfl
            try simp only [nbs, Act.put]
            refine tkB (i := 13) (v := ?vk44) rfl ?hk44 ?rk44
            case hk44 => intro u hSu; go_simp <;> with_reducible rfl
            try simp only [nbs, Act.put]
            refine tkB (i := 14) (v := ?vk45) rfl ?hk45 ?rk45
            case hk45 => intro u hSu; go_simp <;> with_reducible rfl
            try simp only [nbs, Act.put]
            refine tkB (i := 15) (v := ?vk46) rfl ?hk46 ?rk46
            case hk46 => intro u hSu; go_simp <;> with_reducible rfl
            try simp only [nbs, Act.put]
            refine tkB (i := 16) (v := ?vk47) rfl ?hk47 ?rk47
            case hk47 => intro u hSu; go_simp <;> with_reducible rfl
            try simp only [nbs, Act.put]
            refine tkB (i := 18) (v := ?vk48) rfl ?hk48 ?rk48
            case hk48 => intro u hSu; go_simp <;> with_reducible rfl
            try simp only [nbs, Act.put]
            refine tkB (i := 19) (v := ?vk49) rfl ?hk49 ?rk49
            case hk49 => intro u hSu; (try dsimp only at hSu); obtain ⟨qb3c0, qb3c1, qb3c2, qb3c3, qb3c4, qb3c5, _⟩ := fac6 (x := ah0) (y := ah1) (hSu.at 0 _ _ _ rfl); clear hSu; go_simp <;> with_reducible rfl
            try simp only [nbs, Act.put]
            refine tkB (i := 21) (v := ?vk50) rfl ?hk50 ?rk50
            case hk50 => intro u hSu; go_simp <;> with_reducible rfl
            try simp only [nbs, Act.put]
            refine tkB (i := 22) (v := ?vk51) rfl ?hk51 ?rk51
            case hk51 => intro u hSu; (try dsimp only at hSu); have qb2e := (hSu.at 1 _ _ _ rfl); have qb2c0 := blk_cell qb2e 0 (.bool y1.b) rfl; have qb2c1 := blk_cell qb2e 1 (.slice y1.a y1.n y1.c) rfl; have qb2c2 := blk_cell qb2e 2 (.slice y1.d y1.m y1.e) rfl; have qb2c3 := blk_cell qb2e 3 (.bool y2.b) rfl; have qb2c4 := blk_cell qb2e 4 (.slice y2.a y2.n y2.c) rfl; have qb2c5 := blk_cell qb2e 5 (.slice y2.d y2.m y2.e) rfl; have qb2c6 := blk_cell qb2e 6 (.bool y3.b) rfl; have qb2c7 := blk_cell qb2e 7 (.slice y3.a y3.n y3.c) rfl; have qb2c8 := blk_cell qb2e 8 (.slice y3.d y3.m y3.e) rfl; have qb2c9 := blk_cell qb2e 9 (.int .i64 m) rfl; clear qb2e; clear hSu; go_simp <;> with_reducible rfl
            try simp only [nbs, Act.put]
            refine rdA (i := 17) rfl (fun K hK => ?_)
            have Tc0 := (HMK.out.cell (p := ⟨b, off + i * 6, none⟩) HBL.out).trans T0.out
            have Tc1 := (HMK.out.cell (p := ⟨b, off + i * 6 + 1, none⟩) HBL.out).trans T1.out
            have Tc2 := (HMK.out.cell (p := ⟨b, off + i * 6 + 2, none⟩) HBL.out).trans T2.out
            have Tc3 := (HMK.out.cell (p := ⟨b, off + i * 6 + 3, none⟩) HBL.out).trans T3.out
            have Tc4 := (HMK.out.cell (p := ⟨b, off + i * 6 + 4, none⟩) HBL.out).trans T4.out
            have Tc5 := (HMK.out.cell (p := ⟨b, off + i * 6 + 5, none⟩) HBL.out).trans T5.out
            go_simp
            refine hK.out _ _ hh (fun hh => ?_)
            clear hK K Tc0 Tc1 Tc2 Tc3 Tc4 Tc5
            try simp only [nbs, Act.put]
            refine rdA (i := 20) rfl (fun K hK => ?_)
            go_simp
            have a53 := HS.out.q 0 _ _ rfl
            have a54 := HS.out.q 3 _ _ rfl
            go_wp2_with (go_at_call 82; (with_reducible refine (qsub_any h1 ah _ _ _ a53 a54 (szQ_mono (szQ_of SH1.out) (by omega)) (szQ_mono (szQ_of SAH.out) (by omega))).mono ?_); rintro e w52 ⟨v52, rfl, hv52, hb52⟩; obtain ⟨z52, rfl⟩ := hv52.open3)
            refine hK.out _ _ (Sx.below hh hb52) (fun hh => ?_)
            clear hK K
            try simp only [nbs, Act.put]
            replace HS := Lib.hid (HS.out.below hb52)
            replace HMK := Lib.hid (ext_trans HMK.out hb52)
            clear hb52 a53 a54
            replace HS := Lib.hid (HS.out.addQ hv52)
            clear hv52
            refine rdA (i := 23) rfl (fun K hK => ?_)
            go_simp
            obtain ⟨c55, hc55⟩ : ∃ κ, κ = cmpR (h1 - ah) ri := ⟨_, rfl⟩
            have HC55 := Lib.hid hc55
            clear hc55
            have a56 := HS.out.q 0 _ _ rfl
            have a57 := HS.out.q 6 _ _ rfl
            go_wp2_with (go_at_call 81; (with_reducible refine (qcmp_any (h1 - ah) ri _ _ _ a56 a57 (szQ_mono (szQ_of (szR_sub SH1.out SAH.out)) (by omega)) (szQ_mono (szQ_of SI.out) (by omega))).mono ?_); rw [← HC55.out]; rintro e w55 ⟨rfl, hb55⟩)
            refine hK.out _ _ (Sx.below hh hb55) (fun hh => ?_)
            clear hK K
            try simp only [nbs, Act.put]
            replace HS := Lib.hid (HS.out.below hb55)
            replace HMK := Lib.hid (ext_trans HMK.out hb55)
            clear hb55 a56 a57
            by_cases t58p : c55 ≤ 0
            ·
             have t58 : decide (c55 ≤ 0) = true := decide_eq_true t58p
             have T58 := Lib.hid t58p
             clear t58p
             refine tkB (i := 24) (v := ?vk59) rfl ?hk59 ?rk59
             case hk59 => intro u hSu; go_simp <;> with_reducible rfl
             try simp only [nbs, Act.put]
             refine tkB (i := 25) (v := ?vk60) rfl ?hk60 ?rk60
             case hk60 => intro u hSu; go_simp <;> with_reducible rfl
             try simp only [nbs, Act.put]
             refine tkB (i := 26) (v := ?vk61) rfl ?hk61 ?rk61
             case hk61 => intro u hSu; go_simp <;> with_reducible rfl
             try simp only [nbs, Act.put]
             refine wpAnyH_done (by kernel_rfl) ?_ _
             obtain ⟨b3c0, b3c1, b3c2, b3c3, b3c4, b3c5, b3f0, b3f1, b3f2, b3f3, b3f4, b3f5⟩ := fac6 (x := ah0) (y := ah1) (HS.out.at 0 _ _ _ rfl)
             have b3l := blk_lt (HS.out.at 0 _ _ _ rfl)
             have Tc0 := (HMK.out.cell (p := ⟨b, off + i * 6, none⟩) HBL.out).trans T0.out
             have Tc1 := (HMK.out.cell (p := ⟨b, off + i * 6 + 1, none⟩) HBL.out).trans T1.out
             have Tc2 := (HMK.out.cell (p := ⟨b, off + i * 6 + 2, none⟩) HBL.out).trans T2.out
             have Tc3 := (HMK.out.cell (p := ⟨b, off + i * 6 + 3, none⟩) HBL.out).trans T3.out
             have Tc4 := (HMK.out.cell (p := ⟨b, off + i * 6 + 4, none⟩) HBL.out).trans T4.out
             have Tc5 := (HMK.out.cell (p := ⟨b, off + i * 6 + 5, none⟩) HBL.out).trans T5.out
             go_wp2_with fail
             clear b3c0 b3c1 b3c2 b3c3 b3c4 b3c5 b3f0 b3f1 b3f2 b3f3 b3f4 b3f5 b3l Tc0 Tc1 Tc2 Tc3 Tc4 Tc5
             generalize hW62 : ((((((w55).setCell _ _).setCell _ _).setCell _ _).setCell _ _).setCell _ _).setCell _ _ = W62 at *
             replace HS := Lib.hid (((HS.out).st_RR 0 ah0 ah1 Tx Ty rfl).to hW62 (by (try simp only [nb5, nb6]); rfl))
             replace HMK : Hid (Below w3.heap.size w3 W62) := by subst hW62; exact Lib.hid ((mk_set (mk_set (mk_set (mk_set (mk_set (mk_set HMK.out HG12.out) HG12.out) HG12.out) HG12.out) HG12.out) HG12.out))
             clear hW62
             exact ⟨⟨i + 1, Tx, Ty, by have := HLT.out; omega, by go_num, (by rw [HNW.out] <;> first | rfl | go_num), (by rw [HB1.out, HNW.out, mt_long, ← HLB.out] <;> first | rfl | (simp only [t26, Bool.and_true, Bool.true_and, Bool.and_false, Bool.false_and, Bool.or_true, Bool.true_or, Bool.or_false, Bool.false_or, Bool.not_true, Bool.not_false, cond_true, cond_false]; done) | (simp [t26]; done) | (simp only [t26, Bool.and_true, Bool.true_and, Bool.and_false, Bool.false_and, Bool.or_true, Bool.true_or, Bool.or_false, Bool.false_or, Bool.not_true, Bool.not_false, cond_true, cond_false]; rfl)), (by rw [HO1.out, ← HOB.out, HBD.out] <;> first | rfl | simp only [← HC6.out, ← HC8.out, ← HC21.out, ← HC37.out, ← HC55.out, HZ2.out, t4, t5, t7, t9, t26, t28, t40, t58, Bool.and_true, Bool.true_and, Bool.and_false, Bool.false_and, Bool.or_true, Bool.true_or, Bool.or_false, Bool.false_or, Bool.not_true, Bool.not_false, cond_true, cond_false] | simp [← HC6.out, ← HC8.out, ← HC21.out, ← HC37.out, ← HC55.out, HZ2.out, t4, t5, t7, t9, t26, t28, t40, t58]), Lib.hid (((((((HS.out.bare).addQ (HS.out.q 8 _ _ rfl)).addQ (HS.out.q 7 _ _ rfl)).addQ (HS.out.q 6 _ _ rfl)).addQ (HS.out.q 5 _ _ rfl)).addQ (by rw [HP1.out]; exact (HS.out.q 2 _ _ rfl))).addQ (by rw [HP2.out]; exact (HS.out.q 1 _ _ rfl))), HMK⟩, meas_up HLT.out⟩
            ·
             have t58 : decide (c55 ≤ 0) = false := decide_eq_false t58p
             have T58 := Lib.hid t58p
             clear t58p
             refine tkB (i := 24) (v := ?vk63) rfl ?hk63 ?rk63
             case hk63 => intro u hSu; go_simp <;> with_reducible rfl
             try simp only [nbs, Act.put]
             refine tkB (i := 25) (v := ?vk64) rfl ?hk64 ?rk64
             case hk64 => intro u hSu; go_simp <;> with_reducible rfl
             try simp only [nbs, Act.put]
             refine tkB (i := 26) (v := ?vk65) rfl ?hk65 ?rk65
             case hk65 => intro u hSu; go_simp <;> with_reducible rfl
             try simp only [nbs, Act.put]
             refine wpAnyH_done (by kernel_rfl) ?_ _
             obtain ⟨b3c0, b3c1, b3c2, b3c3, b3c4, b3c5, b3f0, b3f1, b3f2, b3f3, b3f4, b3f5⟩ := fac6 (x := ah0) (y := ah1) (HS.out.at 0 _ _ _ rfl)
             have b3l := blk_lt (HS.out.at 0 _ _ _ rfl)
             have Tc0 := (HMK.out.cell (p := ⟨b, off + i * 6, none⟩) HBL.out).trans T0.out
             have Tc1 := (HMK.out.cell (p := ⟨b, off + i * 6 + 1, none⟩) HBL.out).trans T1.out
             have Tc2 := (HMK.out.cell (p := ⟨b, off + i * 6 + 2, none⟩) HBL.out).trans T2.out
             have Tc3 := (HMK.out.cell (p := ⟨b, off + i * 6 + 3, none⟩) HBL.out).trans T3.out
             have Tc4 := (HMK.out.cell (p := ⟨b, off + i * 6 + 4, none⟩) HBL.out).trans T4.out
             have Tc5 := (HMK.out.cell (p := ⟨b, off + i * 6 + 5, none⟩) HBL.out).trans T5.out
             go_wp2_with fail
             clear b3c0 b3c1 b3c2 b3c3 b3c4 b3c5 b3f0 b3f1 b3f2 b3f3 b3f4 b3f5 b3l Tc0 Tc1 Tc2 Tc3 Tc4 Tc5
             generalize hW66 : ((((((w55).setCell _ _).setCell _ _).setCell _ _).setCell _ _).setCell _ _).setCell _ _ = W66 at *
             replace HS := Lib.hid (((HS.out).st_RR 0 ah0 ah1 Tx Ty rfl).to hW66 (by (try simp only [nb5, nb6]); rfl))
             replace HMK : Hid (Below w3.heap.size w3 W66) := by subst hW66; exact Lib.hid ((mk_set (mk_set (mk_set (mk_set (mk_set (mk_set HMK.out HG12.out) HG12.out) HG12.out) HG12.out) HG12.out) HG12.out))
             clear hW66
             exact ⟨⟨i + 1, Tx, Ty, by have := HLT.out; omega, by go_num, (by rw [HNW.out] <;> first | rfl | go_num), (by rw [HB1.out, HNW.out, mt_long, ← HLB.out] <;> first | rfl | (simp only [t26, Bool.and_true, Bool.true_and, Bool.and_false, Bool.false_and, Bool.or_true, Bool.true_or, Bool.or_false, Bool.false_or, Bool.not_true, Bool.not_false, cond_true, cond_false]; done) | (simp [t26]; done) | (simp only [t26, Bool.and_true, Bool.true_and, Bool.and_false, Bool.false_and, Bool.or_true, Bool.true_or, Bool.or_false, Bool.false_or, Bool.not_true, Bool.not_false, cond_true, cond_false]; rfl)), (by rw [HO1.out, ← HOB.out, HBD.out] <;> first | rfl | simp only [← HC6.out, ← HC8.out, ← HC21.out, ← HC37.out, ← HC55.out, HZ2.out, t4, t5, t7, t9, t26, t28, t40, t58, Bool.and_true, Bool.true_and, Bool.and_false, Bool.false_and, Bool.or_true, Bool.true_or, Bool.or_false, Bool.false_or, Bool.not_true, Bool.not_false, cond_true, cond_false] | simp [← HC6.out, ← HC8.out, ← HC21.out, ← HC37.out, ← HC55.out, HZ2.out, t4, t5, t7, t9, t26, t28, t40, t58]), Lib.hid (((((((HS.out.bare).addQ (HS.out.q 8 _ _ rfl)).addQ (HS.out.q 7 _ _ rfl)).addQ (HS.out.q 6 _ _ rfl)).addQ (HS.out.q 5 _ _ rfl)).addQ (by rw [HP1.out]; exact (HS.out.q 2 _ _ rfl))).addQ (by rw [HP2.out]; exact (HS.out.q 1 _ _ rfl))), HMK⟩, meas_up HLT.out⟩
           ·
            have t40 : decide (c37 ≤ 0) = false := decide_eq_false t40p
            have T40 := Lib.hid t40p
            clear t40p
            refine tkB (i := 10) (v := ?vk67) rfl ?hk67 ?rk67
            case hk67 => intro u hSu; go_simp <;> with_reducible rfl
            try simp only [nbs, Act.put]
            refine tkB (i := 11) (v := ?vk68) rfl ?hk68 ?rk68
            case hk68 => intro u hSu; go_simp <;> with_reducible rfl
            try simp only [nbs, Act.put]
            refine tkB (i := 12) (v := ?vk69) rfl ?hk69 ?rk69
            case hk69 => intro u hSu; go_simp <;> with_reducible rfl
            try simp only [nbs, Act.put]
            refine tkC (i := 13) rfl ?_
            try simp only [nbs, Act.put]
            refine tkC (i := 14) rfl ?_
            try simp only [nbs, Act.put]
            refine tkC (i := 15) rfl ?_
            try simp only [nbs, Act.put]
            refine tkC (i := 16) rfl ?_
            try simp only [nbs, Act.put]
            refine tkC (i := 17) rfl ?_
            try simp only [nbs, Act.put]
            refine tkC (i := 18) rfl ?_
            try simp only [nbs, Act.put]
            refine tkC (i := 19) rfl ?_
            try simp only [nbs, Act.put]
            refine tkC (i := 20) rfl ?_
            try simp only [nbs, Act.put]
            refine tkC (i := 21) rfl ?_
            try simp only [nbs, Act.put]
            refine tkC (i := 22) rfl ?_
            try simp only [nbs, Act.put]
            refine tkC (i := 23) rfl ?_
            try simp only [nbs, Act.put]
            refine tkC (i := 24) rfl ?_
            try simp only [nbs, Act.put]
            refine tkB (i := 25) (v := ?vk70) rfl ?hk70 ?rk70
            case hk70 => intro u hSu; go_simp <;> with_reducible rfl
            try simp only [nbs, Act.put]
            refine tkB (i := 26) (v := ?vk71) rfl ?hk71 ?rk71
            case hk71 => intro u hSu; go_simp <;> with_reducible rfl
            try simp only [nbs, Act.put]
            refine wpAnyH_done (by kernel_rfl) ?_ _
            obtain ⟨b3c0, b3c1, b3c2, b3c3, b3c4, b3c5, b3f0, b3f1, b3f2, b3f3, b3f4, b3f5⟩ := fac6 (x := ah0) (y := ah1) (HS.out.at 0 _ _ _ rfl)
            have b3l := blk_lt (HS.out.at 0 _ _ _ rfl)
            have Tc0 := (HMK.out.cell (p := ⟨b, off + i * 6, none⟩) HBL.out).trans T0.out
            have Tc1 := (HMK.out.cell (p := ⟨b, off + i * 6 + 1, none⟩) HBL.out).trans T1.out
            have Tc2 := (HMK.out.cell (p := ⟨b, off + i * 6 + 2, none⟩) HBL.out).trans T2.out
            have Tc3 := (HMK.out.cell (p := ⟨b, off + i * 6 + 3, none⟩) HBL.out).trans T3.out
            have Tc4 := (HMK.out.cell (p := ⟨b, off + i * 6 + 4, none⟩) HBL.out).trans T4.out
            have Tc5 := (HMK.out.cell (p := ⟨b, off + i * 6 + 5, none⟩) HBL.out).trans T5.out
            go_wp2_with fail
            clear b3c0 b3c1 b3c2 b3c3 b3c4 b3c5 b3f0 b3f1 b3f2 b3f3 b3f4 b3f5 b3l Tc0 Tc1 Tc2 Tc3 Tc4 Tc5
            generalize hW72 : ((((((w37).setCell _ _).setCell _ _).setCell _ _).setCell _ _).setCell _ _).setCell _ _ = W72 at *
            replace HS := Lib.hid (((HS.out).st_RR 0 ah0 ah1 Tx Ty rfl).to hW72 (by (try simp only [nb5, nb6]); rfl))
            replace HMK : Hid (Below w3.heap.size w3 W72) := by subst hW72; exact Lib.hid ((mk_set (mk_set (mk_set (mk_set (mk_set (mk_set HMK.out HG12.out) HG12.out) HG12.out) HG12.out) HG12.out) HG12.out))
            clear hW72
            exact ⟨⟨i + 1, Tx, Ty, by have := HLT.out; omega, by go_num, (by rw [HNW.out] <;> first | rfl | go_num), (by rw [HB1.out, HNW.out, mt_long, ← HLB.out] <;> first | rfl | (simp only [t26, Bool.and_true, Bool.true_and, Bool.and_false, Bool.false_and, Bool.or_true, Bool.true_or, Bool.or_false, Bool.false_or, Bool.not_true, Bool.not_false, cond_true, cond_false]; done) | (simp [t26]; done) | (simp only [t26, Bool.and_true, Bool.true_and, Bool.and_false, Bool.false_and, Bool.or_true, Bool.true_or, Bool.or_false, Bool.false_or, Bool.not_true, Bool.not_false, cond_true, cond_false]; rfl)), (by rw [HO1.out, ← HOB.out, HBD.out] <;> first | rfl | simp only [← HC6.out, ← HC8.out, ← HC21.out, ← HC37.out, HZ2.out, t4, t5, t7, t9, t26, t28, t40, Bool.and_true, Bool.true_and, Bool.and_false, Bool.false_and, Bool.or_true, Bool.true_or, Bool.or_false, Bool.false_or, Bool.not_true, Bool.not_false, cond_true, cond_false] | simp [← HC6.out, ← HC8.out, ← HC21.out, ← HC37.out, HZ2.out, t4, t5, t7, t9, t26, t28, t40]), Lib.hid (((((((HS.out.bare).addQ (HS.out.q 7 _ _ rfl)).addQ (HS.out.q 6 _ _ rfl)).addQ (HS.out.q 5 _ _ rfl)).addQ (HS.out.q 4 _ _ rfl)).addQ (by rw [HP1.out]; exact (HS.out.q 1 _ _ rfl))).addQ (by rw [HP2.out]; exact (HS.out.q 0 _ _ rfl))), HMK⟩, meas_up HLT.out⟩
          | false =>
           refine tkB (i := 0) (v := ?vk73) rfl ?hk73 ?rk73
           case hk73 => intro u hSu; go_simp <;> with_reducible rfl
           try simp only [nbs, Act.put]
           refine tkB (i := 1) (v := ?vk74) rfl ?hk74 ?rk74
           case hk74 => intro u hSu; go_simp <;> with_reducible rfl
           try simp only [nbs, Act.put]
           refine tkC (i := 2) rfl ?_
           try simp only [nbs, Act.put]
           refine tkC (i := 3) rfl ?_
           try simp only [nbs, Act.put]
           refine tkC (i := 4) rfl ?_
           try simp only [nbs, Act.put]
           refine tkC (i := 5) rfl ?_
           try simp only [nbs, Act.put]
           refine tkC (i := 6) rfl ?_
           try simp only [nbs, Act.put]
           refine tkC (i := 7) rfl ?_
           try simp only [nbs, Act.put]
           refine tkC (i := 8) rfl ?_
           try simp only [nbs, Act.put]
           refine tkC (i := 9) rfl ?_
           try simp only [nbs, Act.put]
           refine tkC (i := 10) rfl ?_
           try simp only [nbs, Act.put]
           refine tkB (i := 11) (v := ?vk75) rfl ?hk75 ?rk75
           case hk75 => intro u hSu; go_simp <;> with_reducible rfl
           try simp only [nbs, Act.put]
           refine tkB (i := 12) (v := ?vk76) rfl ?hk76 ?rk76
           case hk76 => intro u hSu; go_simp <;> with_reducible rfl
           try simp only [nbs, Act.put]
           refine tkC (i := 13) rfl ?_
           try simp only [nbs, Act.put]
           refine tkC (i := 14) rfl ?_
           try simp only [nbs, Act.put]
           refine tkC (i := 15) rfl ?_
           try simp only [nbs, Act.put]
           refine tkC (i := 16) rfl ?_
           try simp only [nbs, Act.put]
           refine tkC (i := 17) rfl ?_
           try simp only [nbs, Act.put]
           refine tkC (i := 18) rfl ?_
           try simp only [nbs, Act.put]
           refine tkC (i := 19) rfl ?_
           try simp only [nbs, Act.put]
           refine tkC (i := 20) rfl ?_
           try simp only [nbs, Act.put]
           refine tkC (i := 21) rfl ?_
           try simp only [nbs, Act.put]
           refine tkC (i := 22) rfl ?_
           try simp only [nbs, Act.put]
           refine tkC (i := 23) rfl ?_
           try simp only [nbs, Act.put]
           refine tkC (i := 24) rfl ?_
           try simp only [nbs, Act.put]
           refine tkB (i := 25) (v := ?vk77) rfl ?hk77 ?rk77
           case hk77 => intro u hSu; go_simp <;> with_reducible rfl
           try simp only [nbs, Act.put]
           refine tkB (i := 26) (v := ?vk78) rfl ?hk78 ?rk78
           case hk78 => intro u hSu; go_simp <;> with_reducible rfl
           try simp only [nbs, Act.put]
           refine wpAnyH_done (by kernel_rfl) ?_ _
           generalize w21.drew = Wd79 at *
           obtain ⟨b3c0, b3c1, b3c2, b3c3, b3c4, b3c5, b3f0, b3f1, b3f2, b3f3, b3f4, b3f5⟩ := fac6 (x := ah0) (y := ah1) (HS.out.at 0 _ _ _ rfl)
           have b3l := blk_lt (HS.out.at 0 _ _ _ rfl)
           have Tc0 := (HMK.out.cell (p := ⟨b, off + i * 6, none⟩) HBL.out).trans T0.out
           have Tc1 := (HMK.out.cell (p := ⟨b, off + i * 6 + 1, none⟩) HBL.out).trans T1.out
           have Tc2 := (HMK.out.cell (p := ⟨b, off + i * 6 + 2, none⟩) HBL.out).trans T2.out
           have Tc3 := (HMK.out.cell (p := ⟨b, off + i * 6 + 3, none⟩) HBL.out).trans T3.out
           have Tc4 := (HMK.out.cell (p := ⟨b, off + i * 6 + 4, none⟩) HBL.out).trans T4.out
           have Tc5 := (HMK.out.cell (p := ⟨b, off + i * 6 + 5, none⟩) HBL.out).trans T5.out
           go_wp2_with fail
           clear b3c0 b3c1 b3c2 b3c3 b3c4 b3c5 b3f0 b3f1 b3f2 b3f3 b3f4 b3f5 b3l Tc0 Tc1 Tc2 Tc3 Tc4 Tc5
           generalize hW80 : ((((((Wd79).setCell _ _).setCell _ _).setCell _ _).setCell _ _).setCell _ _).setCell _ _ = W80 at *
           replace HS := Lib.hid (((HS.out).st_RR 0 ah0 ah1 Tx Ty rfl).to hW80 (by (try simp only [nb5, nb6]); rfl))
           replace HMK : Hid (Below w3.heap.size w3 W80) := by subst hW80; exact Lib.hid ((mk_set (mk_set (mk_set (mk_set (mk_set (mk_set HMK.out HG12.out) HG12.out) HG12.out) HG12.out) HG12.out) HG12.out))
           clear hW80
           exact ⟨⟨i + 1, Tx, Ty, by have := HLT.out; omega, by go_num, (by rw [HNW.out] <;> first | rfl | go_num), (by rw [HB1.out, HNW.out, mt_long, ← HLB.out] <;> first | rfl | (simp only [t26, Bool.and_true, Bool.true_and, Bool.and_false, Bool.false_and, Bool.or_true, Bool.true_or, Bool.or_false, Bool.false_or, Bool.not_true, Bool.not_false, cond_true, cond_false]; done) | (simp [t26]; done) | (simp only [t26, Bool.and_true, Bool.true_and, Bool.and_false, Bool.false_and, Bool.or_true, Bool.true_or, Bool.or_false, Bool.false_or, Bool.not_true, Bool.not_false, cond_true, cond_false]; rfl)), (by rw [HO1.out, ← HOB.out, HBD.out] <;> first | rfl | simp only [← HC6.out, ← HC8.out, ← HC21.out, HZ2.out, t4, t5, t7, t9, t26, t28, Bool.and_true, Bool.true_and, Bool.and_false, Bool.false_and, Bool.or_true, Bool.true_or, Bool.or_false, Bool.false_or, Bool.not_true, Bool.not_false, cond_true, cond_false] | simp [← HC6.out, ← HC8.out, ← HC21.out, HZ2.out, t4, t5, t7, t9, t26, t28]), Lib.hid (((((((HS.out.bare).addQ (HS.out.q 7 _ _ rfl)).addQ (HS.out.q 6 _ _ rfl)).addQ (HS.out.q 5 _ _ rfl)).addQ (HS.out.q 4 _ _ rfl)).addQ (by rw [HP1.out]; exact (HS.out.q 1 _ _ rfl))).addQ (by rw [HP2.out]; exact (HS.out.q 0 _ _ rfl))), HMK⟩, meas_up HLT.out⟩
         | false =>
          have b2e := (HS.out.at 1 _ _ _ rfl)
          have b2c0 := blk_cell b2e 0 (.bool y1.b) rfl
          have b2c1 := blk_cell b2e 1 (.slice y1.a y1.n y1.c) rfl
          have b2c2 := blk_cell b2e 2 (.slice y1.d y1.m y1.e) rfl
          have b2c3 := blk_cell b2e 3 (.bool y2.b) rfl
          have b2c4 := blk_cell b2e 4 (.slice y2.a y2.n y2.c) rfl
          have b2c5 := blk_cell b2e 5 (.slice y2.d y2.m y2.e) rfl
          have b2c6 := blk_cell b2e 6 (.bool y3.b) rfl
          have b2c7 := blk_cell b2e 7 (.slice y3.a y3.n y3.c) rfl
          have b2c8 := blk_cell b2e 8 (.slice y3.d y3.m y3.e) rfl
          have b2c9 := blk_cell b2e 9 (.int .i64 m) rfl
          have b2f0 := blk_frozen b2e 0
          have b2f1 := blk_frozen b2e 1
          have b2f2 := blk_frozen b2e 2
          have b2f3 := blk_frozen b2e 3
          have b2f4 := blk_frozen b2e 4
          have b2f5 := blk_frozen b2e 5
          have b2f6 := blk_frozen b2e 6
          have b2f7 := blk_frozen b2e 7
          have b2f8 := blk_frozen b2e 8
          have b2f9 := blk_frozen b2e 9
          have b2l := blk_lt b2e
          clear b2e
          go_wp2_with fail
          clear b2c0 b2c1 b2c2 b2c3 b2c4 b2c5 b2c6 b2c7 b2c8 b2c9 b2f0 b2f1 b2f2 b2f3 b2f4 b2f5 b2f6 b2f7 b2f8 b2f9 b2l
          refine wp_region_held_drew (S := (fun w' => Sx w w' [(w10.heap.size, arr6 ah0 ah1, 51), (w.heap.size + 2, #[.bool y1.b, .slice y1.a y1.n y1.c, .slice y1.d y1.m y1.e, .bool y2.b, .slice y2.a y2.n y2.c, .slice y2.d y2.m y2.e, .bool y3.b, .slice y3.a y3.n y3.c, .slice y3.d y3.m y3.e, .int .i64 m], 58), (w.heap.size + 1, x3.arr, 49), (w.heap.size, arr6 x1 x2, 54)] [])) (by kernel_rfl) ((HS.out.drew).bare) (fun hh => ?_)
          replace HS := Lib.hid HS.out.drew
          replace HMK := Lib.hid (ext_trans HMK.out (Below.refl _ _).drew)
          cases t82 : ob with
          | true =>
           refine tkB (i := 0) (v := ?vk83) rfl ?hk83 ?rk83
           case hk83 => intro u hSu; go_simp <;> with_reducible rfl
           try simp only [nbs, Act.put]
           refine tkB (i := 1) (v := ?vk84) rfl ?hk84 ?rk84
           case hk84 => intro u hSu; go_simp <;> with_reducible rfl
           try simp only [nbs, Act.put]
           refine tkB (i := 2) (v := ?vk85) rfl ?hk85 ?rk85
           case hk85 => intro u hSu; go_simp <;> with_reducible rfl
           try simp only [nbs, Act.put]
           refine tkB (i := 3) (v := ?vk86) rfl ?hk86 ?rk86
           case hk86 => intro u hSu; go_simp <;> with_reducible rfl
           try simp only [nbs, Act.put]
           refine tkB (i := 4) (v := ?vk87) rfl ?hk87 ?rk87
           case hk87 => intro u hSu; go_simp <;> with_reducible rfl
           try simp only [nbs, Act.put]
           refine tkB (i := 5) (v := ?vk88) rfl ?hk88 ?rk88
           case hk88 => intro u hSu; go_simp <;> with_reducible rfl
           try simp only [nbs, Act.put]
           refine tkB (i := 7) (v := ?vk89) rfl ?hk89 ?rk89
           case hk89 => intro u hSu; go_simp <;> with_reducible rfl
           try simp only [nbs, Act.put]
           refine tkB (i := 8) (v := ?vk90) rfl ?hk90 ?rk90
           case hk90 => intro u hSu; (try dsimp only at hSu); have qb2e := (hSu.at 1 _ _ _ rfl); have qb2c0 := blk_cell qb2e 0 (.bool y1.b) rfl; have qb2c1 := blk_cell qb2e 1 (.slice y1.a y1.n y1.c) rfl; have qb2c2 := blk_cell qb2e 2 (.slice y1.d y1.m y1.e) rfl; have qb2c3 := blk_cell qb2e 3 (.bool y2.b) rfl; have qb2c4 := blk_cell qb2e 4 (.slice y2.a y2.n y2.c) rfl; have qb2c5 := blk_cell qb2e 5 (.slice y2.d y2.m y2.e) rfl; have qb2c6 := blk_cell qb2e 6 (.bool y3.b) rfl; have qb2c7 := blk_cell qb2e 7 (.slice y3.a y3.n y3.c) rfl; have qb2c8 := blk_cell qb2e 8 (.slice y3.d y3.m y3.e) rfl; have qb2c9 := blk_cell qb2e 9 (.int .i64 m) rfl; clear qb2e; clear hSu; go_simp <;> with_reducible rfl
           try simp only [nbs, Act.put]
           refine rdA (i := 6) rfl (fun K hK => ?_)
           have Tc0 := (HMK.out.cell (p := ⟨b, off + i * 6, none⟩) HBL.out).trans T0.out
           have Tc1 := (HMK.out.cell (p := ⟨b, off + i * 6 + 1, none⟩) HBL.out).trans T1.out
           have Tc2 := (HMK.out.cell (p := ⟨b, off + i * 6 + 2, none⟩) HBL.out).trans T2.out
           have Tc3 := (HMK.out.cell (p := ⟨b, off + i * 6 + 3, none⟩) HBL.out).trans T3.out
           have Tc4 := (HMK.out.cell (p := ⟨b, off + i * 6 + 4, none⟩) HBL.out).trans T4.out
           have Tc5 := (HMK.out.cell (p := ⟨b, off + i * 6 + 5, none⟩) HBL.out).trans T5.out
           go_simp
           refine hK.out _ _ hh (fun hh => ?_)
           clear hK K Tc0 Tc1 Tc2 Tc3 Tc4 Tc5
           try simp only [nbs, Act.put]
           refine rdA (i := 9) rfl (fun K hK => ?_)
           go_simp
           obtain ⟨c91, hc91⟩ : ∃ κ, κ = cmpR h1 mo := ⟨_, rfl⟩
           have HC91 := Lib.hid hc91
           clear hc91
           have a92 := HS.out.q 0 _ _ rfl
           have a93 := HS.out.q 6 _ _ rfl
           go_wp2_with (go_at_call 81; (with_reducible refine (qcmp_any h1 mo _ _ _ a92 a93 (szQ_mono (szQ_of SH1.out) (by omega)) (szQ_mono (szQ_of SM.out) (by omega))).mono ?_); rw [← HC91.out]; rintro e w91 ⟨rfl, hb91⟩)
           refine hK.out _ _ (Sx.below hh hb91) (fun hh => ?_)
           clear hK K
           try simp only [nbs, Act.put]
           replace HS := Lib.hid (HS.out.below hb91)
           replace HMK := Lib.hid (ext_trans HMK.out hb91)
           clear hb91 a92 a93
           by_cases t94p : c91 ≤ 0
           ·
            have t94 : decide (c91 ≤ 0) = true := decide_eq_true t94p
            have T94 := Lib.hid t94p
            clear t94p
            refine tkB (i := 10) (v := ?vk95) rfl ?hk95 ?rk95
            case hk95 => intro u hSu; go_simp <;> with_reducible rfl
            try simp only [nbs, Act.put]
            refine tkB (i := 11) (v := ?vk96) rfl ?hk96 ?rk96
            case hk96 => intro u hSu; go_simp <;> with_reducible rfl
            try simp only [nbs, Act.put]
            refine tkB (i := 12) (v := ?vk97) rfl ?hk97 ?rk97
            case hk97 => intro u hSu; go_simp <;> with_reducible rfl
            try simp only [nbs, Act.put]
            refine tkB (i := 13) (v := ?vk98) rfl ?hk98 ?rk98
            case hk98 => intro u hSu; go_simp <;> with_reducible rfl
            try simp only [nbs, Act.put]
            refine tkB (i := 14) (v := ?vk99) rfl ?hk99 ?rk99
            case hk99 => intro u hSu; go_simp <;> with_reducible rfl
            try simp only [nbs, Act.put]
            refine tkB (i := 15) (v := ?vk100) rfl ?hk100 ?rk100
            case hk100 => intro u hSu; go_simp <;> with_reducible rfl
            try simp only [nbs, Act.put]
            refine tkB (i := 16) (v := ?vk101) rfl ?hk101 ?rk101
            case hk101 => intro u hSu; go_simp <;> with_reducible rfl
            try simp only [nbs, Act.put]
            refine tkB (i := 18) (v := ?vk102) rfl ?hk102 ?rk102
            case hk102 => intro u hSu; go_simp <;> with_reducible rfl
            try simp only [nbs, Act.put]
            refine tkB (i := 19) (v := ?vk103) rfl ?hk103 ?rk103
            case hk103 => intro u hSu; (try dsimp only at hSu); obtain ⟨qb3c0, qb3c1, qb3c2, qb3c3, qb3c4, qb3c5, _⟩ := fac6 (x := ah0) (y := ah1) (hSu.at 0 _ _ _ rfl); clear hSu; go_simp <;> with_reducible rfl
            try simp only [nbs, Act.put]
            refine tkB (i := 21) (v := ?vk104) rfl ?hk104 ?rk104
            case hk104 => intro u hSu; go_simp <;> with_reducible rfl
            try simp only [nbs, Act.put]
            refine tkB (i := 22) (v := ?vk105) rfl ?hk105 ?rk105
            case hk105 => intro u hSu; (try dsimp only at hSu); have qb2e := (hSu.at 1 _ _ _ rfl); have qb2c0 := blk_cell qb2e 0 (.bool y1.b) rfl; have qb2c1 := blk_cell qb2e 1 (.slice y1.a y1.n y1.c) rfl; have qb2c2 := blk_cell qb2e 2 (.slice y1.d y1.m y1.e) rfl; have qb2c3 := blk_cell qb2e 3 (.bool y2.b) rfl; have qb2c4 := blk_cell qb2e 4 (.slice y2.a y2.n y2.c) rfl; have qb2c5 := blk_cell qb2e 5 (.slice y2.d y2.m y2.e) rfl; have qb2c6 := blk_cell qb2e 6 (.bool y3.b) rfl; have qb2c7 := blk_cell qb2e 7 (.slice y3.a y3.n y3.c) rfl; have qb2c8 := blk_cell qb2e 8 (.slice y3.d y3.m y3.e) rfl; have qb2c9 := blk_cell qb2e 9 (.int .i64 m) rfl; clear qb2e; clear hSu; go_simp <;> with_reducible rfl
            try simp only [nbs, Act.put]
            refine rdA (i := 17) rfl (fun K hK => ?_)
            have Tc0 := (HMK.out.cell (p := ⟨b, off + i * 6, none⟩) HBL.out).trans T0.out
            have Tc1 := (HMK.out.cell (p := ⟨b, off + i * 6 + 1, none⟩) HBL.out).trans T1.out
            have Tc2 := (HMK.out.cell (p := ⟨b, off + i * 6 + 2, none⟩) HBL.out).trans T2.out
            have Tc3 := (HMK.out.cell (p := ⟨b, off + i * 6 + 3, none⟩) HBL.out).trans T3.out
            have Tc4 := (HMK.out.cell (p := ⟨b, off + i * 6 + 4, none⟩) HBL.out).trans T4.out
            have Tc5 := (HMK.out.cell (p := ⟨b, off + i * 6 + 5, none⟩) HBL.out).trans T5.out
            go_simp
            refine hK.out _ _ hh (fun hh => ?_)
            clear hK K Tc0 Tc1 Tc2 Tc3 Tc4 Tc5
            try simp only [nbs, Act.put]
            refine rdA (i := 20) rfl (fun K hK => ?_)
            go_simp
            have a107 := HS.out.q 0 _ _ rfl
            have a108 := HS.out.q 3 _ _ rfl
            go_wp2_with (go_at_call 82; (with_reducible refine (qsub_any h1 ah _ _ _ a107 a108 (szQ_mono (szQ_of SH1.out) (by omega)) (szQ_mono (szQ_of SAH.out) (by omega))).mono ?_); rintro e w106 ⟨v106, rfl, hv106, hb106⟩; obtain ⟨z106, rfl⟩ := hv106.open3)
            refine hK.out _ _ (Sx.below hh hb106) (fun hh => ?_)
            clear hK K
            try simp only [nbs, Act.put]
            replace HS := Lib.hid (HS.out.below hb106)
            replace HMK := Lib.hid (ext_trans HMK.out hb106)
            clear hb106 a107 a108
            replace HS := Lib.hid (HS.out.addQ hv106)
            clear hv106
            refine rdA (i := 23) rfl (fun K hK => ?_)
            go_simp
            obtain ⟨c109, hc109⟩ : ∃ κ, κ = cmpR (h1 - ah) ri := ⟨_, rfl⟩
            have HC109 := Lib.hid hc109
            clear hc109
            have a110 := HS.out.q 0 _ _ rfl
            have a111 := HS.out.q 6 _ _ rfl
            go_wp2_with (go_at_call 81; (with_reducible refine (qcmp_any (h1 - ah) ri _ _ _ a110 a111 (szQ_mono (szQ_of (szR_sub SH1.out SAH.out)) (by omega)) (szQ_mono (szQ_of SI.out) (by omega))).mono ?_); rw [← HC109.out]; rintro e w109 ⟨rfl, hb109⟩)
            refine hK.out _ _ (Sx.below hh hb109) (fun hh => ?_)
            clear hK K
            try simp only [nbs, Act.put]
            replace HS := Lib.hid (HS.out.below hb109)
            replace HMK := Lib.hid (ext_trans HMK.out hb109)
            clear hb109 a110 a111
            by_cases t112p : c109 ≤ 0
            ·
             have t112 : decide (c109 ≤ 0) = true := decide_eq_true t112p
             have T112 := Lib.hid t112p
             clear t112p
             refine tkB (i := 24) (v := ?vk113) rfl ?hk113 ?rk113
             case hk113 => intro u hSu; go_simp <;> with_reducible rfl
             try simp only [nbs, Act.put]
             refine tkB (i := 25) (v := ?vk114) rfl ?hk114 ?rk114
             case hk114 => intro u hSu; go_simp <;> with_reducible rfl
             try simp only [nbs, Act.put]
             refine tkB (i := 26) (v := ?vk115) rfl ?hk115 ?rk115
             case hk115 => intro u hSu; go_simp <;> with_reducible rfl
             try simp only [nbs, Act.put]
             refine wpAnyH_done (by kernel_rfl) ?_ _
             obtain ⟨b3c0, b3c1, b3c2, b3c3, b3c4, b3c5, b3f0, b3f1, b3f2, b3f3, b3f4, b3f5⟩ := fac6 (x := ah0) (y := ah1) (HS.out.at 0 _ _ _ rfl)
             have b3l := blk_lt (HS.out.at 0 _ _ _ rfl)
             have Tc0 := (HMK.out.cell (p := ⟨b, off + i * 6, none⟩) HBL.out).trans T0.out
             have Tc1 := (HMK.out.cell (p := ⟨b, off + i * 6 + 1, none⟩) HBL.out).trans T1.out
             have Tc2 := (HMK.out.cell (p := ⟨b, off + i * 6 + 2, none⟩) HBL.out).trans T2.out
             have Tc3 := (HMK.out.cell (p := ⟨b, off + i * 6 + 3, none⟩) HBL.out).trans T3.out
             have Tc4 := (HMK.out.cell (p := ⟨b, off + i * 6 + 4, none⟩) HBL.out).trans T4.out
             have Tc5 := (HMK.out.cell (p := ⟨b, off + i * 6 + 5, none⟩) HBL.out).trans T5.out
             go_wp2_with fail
             clear b3c0 b3c1 b3c2 b3c3 b3c4 b3c5 b3f0 b3f1 b3f2 b3f3 b3f4 b3f5 b3l Tc0 Tc1 Tc2 Tc3 Tc4 Tc5
             generalize hW116 : ((((((w109).setCell _ _).setCell _ _).setCell _ _).setCell _ _).setCell _ _).setCell _ _ = W116 at *
             replace HS := Lib.hid (((HS.out).st_RR 0 ah0 ah1 Tx Ty rfl).to hW116 (by (try simp only [nb5, nb6]); rfl))
             replace HMK : Hid (Below w3.heap.size w3 W116) := by subst hW116; exact Lib.hid ((mk_set (mk_set (mk_set (mk_set (mk_set (mk_set HMK.out HG12.out) HG12.out) HG12.out) HG12.out) HG12.out) HG12.out))
             clear hW116
             exact ⟨⟨i + 1, Tx, Ty, by have := HLT.out; omega, by go_num, (by rw [HNW.out] <;> first | rfl | go_num), (by rw [HB1.out, HNW.out, mt_long, ← HLB.out] <;> first | rfl | (simp only [t26, Bool.and_true, Bool.true_and, Bool.and_false, Bool.false_and, Bool.or_true, Bool.true_or, Bool.or_false, Bool.false_or, Bool.not_true, Bool.not_false, cond_true, cond_false]; done) | (simp [t26]; done) | (simp only [t26, Bool.and_true, Bool.true_and, Bool.and_false, Bool.false_and, Bool.or_true, Bool.true_or, Bool.or_false, Bool.false_or, Bool.not_true, Bool.not_false, cond_true, cond_false]; rfl)), (by rw [HO1.out, ← HOB.out, HBD.out] <;> first | rfl | simp only [← HC6.out, ← HC8.out, ← HC21.out, ← HC91.out, ← HC109.out, HZ2.out, t4, t5, t7, t9, t26, t82, t94, t112, Bool.and_true, Bool.true_and, Bool.and_false, Bool.false_and, Bool.or_true, Bool.true_or, Bool.or_false, Bool.false_or, Bool.not_true, Bool.not_false, cond_true, cond_false] | simp [← HC6.out, ← HC8.out, ← HC21.out, ← HC91.out, ← HC109.out, HZ2.out, t4, t5, t7, t9, t26, t82, t94, t112]), Lib.hid (((((((HS.out.bare).addQ (HS.out.q 8 _ _ rfl)).addQ (HS.out.q 7 _ _ rfl)).addQ (HS.out.q 6 _ _ rfl)).addQ (HS.out.q 5 _ _ rfl)).addQ (by rw [HP1.out]; exact (HS.out.q 2 _ _ rfl))).addQ (by rw [HP2.out]; exact (HS.out.q 1 _ _ rfl))), HMK⟩, meas_up HLT.out⟩
            ·
             have t112 : decide (c109 ≤ 0) = false := decide_eq_false t112p
             have T112 := Lib.hid t112p
             clear t112p
             refine tkB (i := 24) (v := ?vk117) rfl ?hk117 ?rk117
             case hk117 => intro u hSu; go_simp <;> with_reducible rfl
             try simp only [nbs, Act.put]
             refine tkB (i := 25) (v := ?vk118) rfl ?hk118 ?rk118
             case hk118 => intro u hSu; go_simp <;> with_reducible rfl
             try simp only [nbs, Act.put]
             refine tkB (i := 26) (v := ?vk119) rfl ?hk119 ?rk119
             case hk119 => intro u hSu; go_simp <;> with_reducible rfl
             try simp only [nbs, Act.put]
             refine wpAnyH_done (by kernel_rfl) ?_ _
             obtain ⟨b3c0, b3c1, b3c2, b3c3, b3c4, b3c5, b3f0, b3f1, b3f2, b3f3, b3f4, b3f5⟩ := fac6 (x := ah0) (y := ah1) (HS.out.at 0 _ _ _ rfl)
             have b3l := blk_lt (HS.out.at 0 _ _ _ rfl)
             have Tc0 := (HMK.out.cell (p := ⟨b, off + i * 6, none⟩) HBL.out).trans T0.out
             have Tc1 := (HMK.out.cell (p := ⟨b, off + i * 6 + 1, none⟩) HBL.out).trans T1.out
             have Tc2 := (HMK.out.cell (p := ⟨b, off + i * 6 + 2, none⟩) HBL.out).trans T2.out
             have Tc3 := (HMK.out.cell (p := ⟨b, off + i * 6 + 3, none⟩) HBL.out).trans T3.out
             have Tc4 := (HMK.out.cell (p := ⟨b, off + i * 6 + 4, none⟩) HBL.out).trans T4.out
             have Tc5 := (HMK.out.cell (p := ⟨b, off + i * 6 + 5, none⟩) HBL.out).trans T5.out
             go_wp2_with fail
             clear b3c0 b3c1 b3c2 b3c3 b3c4 b3c5 b3f0 b3f1 b3f2 b3f3 b3f4 b3f5 b3l Tc0 Tc1 Tc2 Tc3 Tc4 Tc5
             generalize hW120 : ((((((w109).setCell _ _).setCell _ _).setCell _ _).setCell _ _).setCell _ _).setCell _ _ = W120 at *
             replace HS := Lib.hid (((HS.out).st_RR 0 ah0 ah1 Tx Ty rfl).to hW120 (by (try simp only [nb5, nb6]); rfl))
             replace HMK : Hid (Below w3.heap.size w3 W120) := by subst hW120; exact Lib.hid ((mk_set (mk_set (mk_set (mk_set (mk_set (mk_set HMK.out HG12.out) HG12.out) HG12.out) HG12.out) HG12.out) HG12.out))
             clear hW120
             exact ⟨⟨i + 1, Tx, Ty, by have := HLT.out; omega, by go_num, (by rw [HNW.out] <;> first | rfl | go_num), (by rw [HB1.out, HNW.out, mt_long, ← HLB.out] <;> first | rfl | (simp only [t26, Bool.and_true, Bool.true_and, Bool.and_false, Bool.false_and, Bool.or_true, Bool.true_or, Bool.or_false, Bool.false_or, Bool.not_true, Bool.not_false, cond_true, cond_false]; done) | (simp [t26]; done) | (simp only [t26, Bool.and_true, Bool.true_and, Bool.and_false, Bool.false_and, Bool.or_true, Bool.true_or, Bool.or_false, Bool.false_or, Bool.not_true, Bool.not_false, cond_true, cond_false]; rfl)), (by rw [HO1.out, ← HOB.out, HBD.out] <;> first | rfl | simp only [← HC6.out, ← HC8.out, ← HC21.out, ← HC91.out, ← HC109.out, HZ2.out, t4, t5, t7, t9, t26, t82, t94, t112, Bool.and_true, Bool.true_and, Bool.and_false, Bool.false_and, Bool.or_true, Bool.true_or, Bool.or_false, Bool.false_or, Bool.not_true, Bool.not_false, cond_true, cond_false] | simp [← HC6.out, ← HC8.out, ← HC21.out, ← HC91.out, ← HC109.out, HZ2.out, t4, t5, t7, t9, t26, t82, t94, t112]), Lib.hid (((((((HS.out.bare).addQ (HS.out.q 8 _ _ rfl)).addQ (HS.out.q 7 _ _ rfl)).addQ (HS.out.q 6 _ _ rfl)).addQ (HS.out.q 5 _ _ rfl)).addQ (by rw [HP1.out]; exact (HS.out.q 2 _ _ rfl))).addQ (by rw [HP2.out]; exact (HS.out.q 1 _ _ rfl))), HMK⟩, meas_up HLT.out⟩
           ·
            have t94 : decide (c91 ≤ 0) = false := decide_eq_false t94p
            have T94 := Lib.hid t94p
            clear t94p
            refine tkB (i := 10) (v := ?vk121) rfl ?hk121 ?rk121
            case hk121 => intro u hSu; go_simp <;> with_reducible rfl
            try simp only [nbs, Act.put]
            refine tkB (i := 11) (v := ?vk122) rfl ?hk122 ?rk122
            case hk122 => intro u hSu; go_simp <;> with_reducible rfl
            try simp only [nbs, Act.put]
            refine tkB (i := 12) (v := ?vk123) rfl ?hk123 ?rk123
            case hk123 => intro u hSu; go_simp <;> with_reducible rfl
            try simp only [nbs, Act.put]
            refine tkC (i := 13) rfl ?_
            try simp only [nbs, Act.put]
            refine tkC (i := 14) rfl ?_
            try simp only [nbs, Act.put]
            refine tkC (i := 15) rfl ?_
            try simp only [nbs, Act.put]
            refine tkC (i := 16) rfl ?_
            try simp only [nbs, Act.put]
            refine tkC (i := 17) rfl ?_
            try simp only [nbs, Act.put]
            refine tkC (i := 18) rfl ?_
            try simp only [nbs, Act.put]
            refine tkC (i := 19) rfl ?_
            try simp only [nbs, Act.put]
            refine tkC (i := 20) rfl ?_
            try simp only [nbs, Act.put]
            refine tkC (i := 21) rfl ?_
            try simp only [nbs, Act.put]
            refine tkC (i := 22) rfl ?_
            try simp only [nbs, Act.put]
            refine tkC (i := 23) rfl ?_
            try simp only [nbs, Act.put]
            refine tkC (i := 24) rfl ?_
            try simp only [nbs, Act.put]
            refine tkB (i := 25) (v := ?vk124) rfl ?hk124 ?rk124
            case hk124 => intro u hSu; go_simp <;> with_reducible rfl
            try simp only [nbs, Act.put]
            refine tkB (i := 26) (v := ?vk125) rfl ?hk125 ?rk125
            case hk125 => intro u hSu; go_simp <;> with_reducible rfl
            try simp only [nbs, Act.put]
            refine wpAnyH_done (by kernel_rfl) ?_ _
            obtain ⟨b3c0, b3c1, b3c2, b3c3, b3c4, b3c5, b3f0, b3f1, b3f2, b3f3, b3f4, b3f5⟩ := fac6 (x := ah0) (y := ah1) (HS.out.at 0 _ _ _ rfl)
            have b3l := blk_lt (HS.out.at 0 _ _ _ rfl)
            have Tc0 := (HMK.out.cell (p := ⟨b, off + i * 6, none⟩) HBL.out).trans T0.out
            have Tc1 := (HMK.out.cell (p := ⟨b, off + i * 6 + 1, none⟩) HBL.out).trans T1.out
            have Tc2 := (HMK.out.cell (p := ⟨b, off + i * 6 + 2, none⟩) HBL.out).trans T2.out
            have Tc3 := (HMK.out.cell (p := ⟨b, off + i * 6 + 3, none⟩) HBL.out).trans T3.out
            have Tc4 := (HMK.out.cell (p := ⟨b, off + i * 6 + 4, none⟩) HBL.out).trans T4.out
            have Tc5 := (HMK.out.cell (p := ⟨b, off + i * 6 + 5, none⟩) HBL.out).trans T5.out
            go_wp2_with fail
            clear b3c0 b3c1 b3c2 b3c3 b3c4 b3c5 b3f0 b3f1 b3f2 b3f3 b3f4 b3f5 b3l Tc0 Tc1 Tc2 Tc3 Tc4 Tc5
            generalize hW126 : ((((((w91).setCell _ _).setCell _ _).setCell _ _).setCell _ _).setCell _ _).setCell _ _ = W126 at *
            replace HS := Lib.hid (((HS.out).st_RR 0 ah0 ah1 Tx Ty rfl).to hW126 (by (try simp only [nb5, nb6]); rfl))
            replace HMK : Hid (Below w3.heap.size w3 W126) := by subst hW126; exact Lib.hid ((mk_set (mk_set (mk_set (mk_set (mk_set (mk_set HMK.out HG12.out) HG12.out) HG12.out) HG12.out) HG12.out) HG12.out))
            clear hW126
            exact ⟨⟨i + 1, Tx, Ty, by have := HLT.out; omega, by go_num, (by rw [HNW.out] <;> first | rfl | go_num), (by rw [HB1.out, HNW.out, mt_long, ← HLB.out] <;> first | rfl | (simp only [t26, Bool.and_true, Bool.true_and, Bool.and_false, Bool.false_and, Bool.or_true, Bool.true_or, Bool.or_false, Bool.false_or, Bool.not_true, Bool.not_false, cond_true, cond_false]; done) | (simp [t26]; done) | (simp only [t26, Bool.and_true, Bool.true_and, Bool.and_false, Bool.false_and, Bool.or_true, Bool.true_or, Bool.or_false, Bool.false_or, Bool.not_true, Bool.not_false, cond_true, cond_false]; rfl)), (by rw [HO1.out, ← HOB.out, HBD.out] <;> first | rfl | simp only [← HC6.out, ← HC8.out, ← HC21.out, ← HC91.out, HZ2.out, t4, t5, t7, t9, t26, t82, t94, Bool.and_true, Bool.true_and, Bool.and_false, Bool.false_and, Bool.or_true, Bool.true_or, Bool.or_false, Bool.false_or, Bool.not_true, Bool.not_false, cond_true, cond_false] | simp [← HC6.out, ← HC8.out, ← HC21.out, ← HC91.out, HZ2.out, t4, t5, t7, t9, t26, t82, t94]), Lib.hid (((((((HS.out.bare).addQ (HS.out.q 7 _ _ rfl)).addQ (HS.out.q 6 _ _ rfl)).addQ (HS.out.q 5 _ _ rfl)).addQ (HS.out.q 4 _ _ rfl)).addQ (by rw [HP1.out]; exact (HS.out.q 1 _ _ rfl))).addQ (by rw [HP2.out]; exact (HS.out.q 0 _ _ rfl))), HMK⟩, meas_up HLT.out⟩
          | false =>
           refine tkB (i := 0) (v := ?vk127) rfl ?hk127 ?rk127
           case hk127 => intro u hSu; go_simp <;> with_reducible rfl
           try simp only [nbs, Act.put]
           refine tkB (i := 1) (v := ?vk128) rfl ?hk128 ?rk128
           case hk128 => intro u hSu; go_simp <;> with_reducible rfl
           try simp only [nbs, Act.put]
           refine tkC (i := 2) rfl ?_
           try simp only [nbs, Act.put]
           refine tkC (i := 3) rfl ?_
           try simp only [nbs, Act.put]
           refine tkC (i := 4) rfl ?_
           try simp only [nbs, Act.put]
           refine tkC (i := 5) rfl ?_
           try simp only [nbs, Act.put]
           refine tkC (i := 6) rfl ?_
           try simp only [nbs, Act.put]
           refine tkC (i := 7) rfl ?_
           try simp only [nbs, Act.put]
           refine tkC (i := 8) rfl ?_
           try simp only [nbs, Act.put]
           refine tkC (i := 9) rfl ?_
           try simp only [nbs, Act.put]
           refine tkC (i := 10) rfl ?_
           try simp only [nbs, Act.put]
           refine tkB (i := 11) (v := ?vk129) rfl ?hk129 ?rk129
           case hk129 => intro u hSu; go_simp <;> with_reducible rfl
           try simp only [nbs, Act.put]
           refine tkB (i := 12) (v := ?vk130) rfl ?hk130 ?rk130
           case hk130 => intro u hSu; go_simp <;> with_reducible rfl
           try simp only [nbs, Act.put]
           refine tkC (i := 13) rfl ?_
           try simp only [nbs, Act.put]
           refine tkC (i := 14) rfl ?_
           try simp only [nbs, Act.put]
           refine tkC (i := 15) rfl ?_
           try simp only [nbs, Act.put]
           refine tkC (i := 16) rfl ?_
           try simp only [nbs, Act.put]
           refine tkC (i := 17) rfl ?_
           try simp only [nbs, Act.put]
           refine tkC (i := 18) rfl ?_
           try simp only [nbs, Act.put]
           refine tkC (i := 19) rfl ?_
           try simp only [nbs, Act.put]
           refine tkC (i := 20) rfl ?_
           try simp only [nbs, Act.put]
           refine tkC (i := 21) rfl ?_
           try simp only [nbs, Act.put]
           refine tkC (i := 22) rfl ?_
           try simp only [nbs, Act.put]
           refine tkC (i := 23) rfl ?_
           try simp only [nbs, Act.put]
           refine tkC (i := 24) rfl ?_
           try simp only [nbs, Act.put]
           refine tkB (i := 25) (v := ?vk131) rfl ?hk131 ?rk131
           case hk131 => intro u hSu; go_simp <;> with_reducible rfl
           try simp only [nbs, Act.put]
           refine tkB (i := 26) (v := ?vk132) rfl ?hk132 ?rk132
           case hk132 => intro u hSu; go_simp <;> with_reducible rfl
           try simp only [nbs, Act.put]
           refine wpAnyH_done (by kernel_rfl) ?_ _
           generalize w21.drew = Wd133 at *
           obtain ⟨b3c0, b3c1, b3c2, b3c3, b3c4, b3c5, b3f0, b3f1, b3f2, b3f3, b3f4, b3f5⟩ := fac6 (x := ah0) (y := ah1) (HS.out.at 0 _ _ _ rfl)
           have b3l := blk_lt (HS.out.at 0 _ _ _ rfl)
           have Tc0 := (HMK.out.cell (p := ⟨b, off + i * 6, none⟩) HBL.out).trans T0.out
           have Tc1 := (HMK.out.cell (p := ⟨b, off + i * 6 + 1, none⟩) HBL.out).trans T1.out
           have Tc2 := (HMK.out.cell (p := ⟨b, off + i * 6 + 2, none⟩) HBL.out).trans T2.out
           have Tc3 := (HMK.out.cell (p := ⟨b, off + i * 6 + 3, none⟩) HBL.out).trans T3.out
           have Tc4 := (HMK.out.cell (p := ⟨b, off + i * 6 + 4, none⟩) HBL.out).trans T4.out
           have Tc5 := (HMK.out.cell (p := ⟨b, off + i * 6 + 5, none⟩) HBL.out).trans T5.out
           go_wp2_with fail
           clear b3c0 b3c1 b3c2 b3c3 b3c4 b3c5 b3f0 b3f1 b3f2 b3f3 b3f4 b3f5 b3l Tc0 Tc1 Tc2 Tc3 Tc4 Tc5
           generalize hW134 : ((((((Wd133).setCell _ _).setCell _ _).setCell _ _).setCell _ _).setCell _ _).setCell _ _ = W134 at *
           replace HS := Lib.hid (((HS.out).st_RR 0 ah0 ah1 Tx Ty rfl).to hW134 (by (try simp only [nb5, nb6]); rfl))
           replace HMK : Hid (Below w3.heap.size w3 W134) := by subst hW134; exact Lib.hid ((mk_set (mk_set (mk_set (mk_set (mk_set (mk_set HMK.out HG12.out) HG12.out) HG12.out) HG12.out) HG12.out) HG12.out))
           clear hW134
           exact ⟨⟨i + 1, Tx, Ty, by have := HLT.out; omega, by go_num, (by rw [HNW.out] <;> first | rfl | go_num), (by rw [HB1.out, HNW.out, mt_long, ← HLB.out] <;> first | rfl | (simp only [t26, Bool.and_true, Bool.true_and, Bool.and_false, Bool.false_and, Bool.or_true, Bool.true_or, Bool.or_false, Bool.false_or, Bool.not_true, Bool.not_false, cond_true, cond_false]; done) | (simp [t26]; done) | (simp only [t26, Bool.and_true, Bool.true_and, Bool.and_false, Bool.false_and, Bool.or_true, Bool.true_or, Bool.or_false, Bool.false_or, Bool.not_true, Bool.not_false, cond_true, cond_false]; rfl)), (by rw [HO1.out, ← HOB.out, HBD.out] <;> first | rfl | simp only [← HC6.out, ← HC8.out, ← HC21.out, HZ2.out, t4, t5, t7, t9, t26, t82, Bool.and_true, Bool.true_and, Bool.and_false, Bool.false_and, Bool.or_true, Bool.true_or, Bool.or_false, Bool.false_or, Bool.not_true, Bool.not_false, cond_true, cond_false] | simp [← HC6.out, ← HC8.out, ← HC21.out, HZ2.out, t4, t5, t7, t9, t26, t82]), Lib.hid (((((((HS.out.bare).addQ (HS.out.q 7 _ _ rfl)).addQ (HS.out.q 6 _ _ rfl)).addQ (HS.out.q 5 _ _ rfl)).addQ (HS.out.q 4 _ _ rfl)).addQ (by rw [HP1.out]; exact (HS.out.q 1 _ _ rfl))).addQ (by rw [HP2.out]; exact (HS.out.q 0 _ _ rfl))), HMK⟩, meas_up HLT.out⟩
       ·
        obtain rfl : i = ts.length := by omega
        cases t135 : (decide (m ≤ ((mtBest le ts ts.length : Nat) : Int))) with
        | true =>
         go_wp2_with fail
         have HR : Hid (meErr l0 l1 aq.length le mo ri m = 0) := by show _ = _; unfold meErr; rw [if_neg (by rw [HZ2.out]; simp), HNE.out]
         have HR2 : Hid (meOf S le mo ri m ts 0 = (mtOk S mo ri ts ts.length)) := by show _ = _; unfold meOf mtOf; rw [if_pos rfl]; simp only [t135, Bool.and_true, Bool.true_and, Bool.and_false, Bool.false_and, Bool.or_true, Bool.true_or, Bool.or_false, Bool.false_or, Bool.not_true, Bool.not_false, cond_true, cond_false]
         go_ret2
         exact (by rw [HR.out, HR2.out]; exact ⟨by rfl, HS.out.bel⟩)
        | false =>
         go_wp2_with fail
         have HR : Hid (meErr l0 l1 aq.length le mo ri m = 0) := by show _ = _; unfold meErr; rw [if_neg (by rw [HZ2.out]; simp), HNE.out]
         have HR2 : Hid (meOf S le mo ri m ts 0 = false) := by show _ = _; unfold meOf mtOf; rw [if_pos rfl]; simp only [t135, Bool.and_true, Bool.true_and, Bool.and_false, Bool.false_and, Bool.or_true, Bool.true_or, Bool.or_false, Bool.false_or, Bool.not_true, Bool.not_false, cond_true, cond_false]
         go_ret2
         exact (by rw [HR.out, HR2.out]; exact ⟨by rfl, HS.out.bel⟩)
 ·
  obtain ⟨er2, her2⟩ : ∃ c, c = flErr l0 l1 aq.length := ⟨_, rfl⟩
  have HER2 := Lib.hid her2
  rw [← her2] at hz2
  have en2 : (er2 == 0) = false := beq_eq_false_iff_ne.2 hz2
  have eo2 : (er2 != 0) = true := bne_iff_ne.2 hz2
  have ep2 : decide (er2 = 0) = false := decide_eq_false hz2
  have HNZ2 := Lib.hid hz2
  clear her2 hz2
  refine (qfollow_any l0 l1 S aq k HK.out z HZK.out _ _ _ _ (rngQ (HS.out.q 5 _ _ rfl) (HS.out.q 4 _ _ rfl)) HLL.out (HS.out.q 3 _ _ rfl) (HA.out.bQ HS.out.bel) HLE.out SL0.out SL1.out SS.out HZA.out HZF0.out).mono ?_
  rintro e w136 ⟨v136, rfl, hv136, hb136⟩
  clear hv136
  rw [← HER2.out]
  replace HS := Lib.hid (HS.out.below hb136)
  clear hb136
  go_wp2_with fail
  have HR : Hid (meErr l0 l1 aq.length le mo ri m = er2) := by show _ = _; unfold meErr; rw [← HER2.out, if_pos HNZ2.out]
  go_ret2
  exact (by rw [HR.out]; exact ⟨by unfold meOf; rw [if_neg HNZ2.out] <;> rfl, HS.out.bel⟩)
end Go.Proofs.YtfjcccpibhhncaaGreat

namespace Go.Proofs.YtfjcccpibhhncaaGreat
open Go.RowKit

theorem pairsB {W : World} {B T : Nat} {n0 d0 n1 d1 : Int} (h : W.heap[B]? = some (.cells #[.int .i64 n0, .int .i64 d0, .int .i64 n1, .int .i64 d1] T (0, 0))) : PairsOf W (.slice (some ⟨B, 0, none⟩) 2 2) [(n0, d0), (n1, d1)] := by
 refine ⟨_, 2, rfl, fun _ => ⟨B, 0, rfl, blk_lt h, fun i hi => ?_⟩⟩
 match i, hi with
 | 0, _ => exact ⟨blk_cell h 0 _ rfl, blk_cell h 1 _ rfl⟩
 | 1, _ => exact ⟨blk_cell h 2 _ rfl, blk_cell h 3 _ rfl⟩
 | i + 2, hi => simp at hi; omega
theorem light2_any (n0 d0 n1 d1 : Int) (v : Value) (w : World) (h : PairsOf w v [(n0, d0), (n1, d1)]) : Calls Tryz.prog 11 #[v] w (RetBool (lightUp [(n0, d0), (n1, d1)] 2) w) := light_any [(n0, d0), (n1, d1)] v w h (by simp)
theorem loQ_sz {a b : Rat} {k : Nat} (h1 : szR a k) (h2 : szR b k) : szR (loQ a b) k := by unfold loQ; split <;> assumption
theorem hiQ_sz {a b : Rat} {k : Nat} (h1 : szR a k) (h2 : szR b k) : szR (hiQ a b) k := by unfold hiQ; split <;> assumption
theorem fracP_sz {n d : Int} (h : i64P (n, d)) : szR (fracQ n d) 100 := szR_mono (fracQ_szR n d h.1.1 h.1.2 h.2.1 h.2.2) (by omega)
end Go.Proofs.YtfjcccpibhhncaaGreat

namespace Go.Proofs.YtfjcccpibhhncaaGreat
open Go.RowKit

theorem ofN_any (n d : Int) (w : World) (h : i64P (n, d)) : Calls Tryz.prog 17 #[.agg #[.int .i64 n, .int .i64 d]] w (RetRat (fracQ n d) w) := of_any n d w h.1.1 h.1.2 h.2.1 h.2.2
theorem qofN_any (n d : Int) (w : World) (h : i64P (n, d)) : Calls Tryz.prog 19 #[.agg #[.int .i64 n, .int .i64 d]] w (RetR (fracQ n d) w) := qof_any n d w h.1.1 h.1.2 h.2.1 h.2.2
theorem fracQ_bd {n d : Int} (h : i64P (n, d)) : bdQ 9223372036854775808 (fracQ n d) := by
 obtain ⟨⟨h1, h2⟩, _, _⟩ := h
 dsimp only at h1 h2
 have e : (((9223372036854775808 : Nat) : Int) : Rat) = ((9223372036854775808 : Int) : Rat) := rfl
 have g1 : ((-9223372036854775808 : Int) : Rat) ≤ (n : Rat) := Rat.intCast_le_intCast.2 h1
 have g2 : (n : Rat) ≤ ((9223372036854775808 : Int) : Rat) := Rat.intCast_le_intCast.2 (by omega)
 have e2 : ((-9223372036854775808 : Int) : Rat) = -((9223372036854775808 : Int) : Rat) := by rw [← Rat.intCast_neg] <;> rfl
 have hB : (0 : Rat) ≤ ((9223372036854775808 : Int) : Rat) := Rat.intCast_le_intCast.2 (by omega : (0 : Int) ≤ 9223372036854775808)
 rw [e2] at g1
 unfold bdQ fracQ
 rw [e]
 generalize ((9223372036854775808 : Int) : Rat) = B at *
 split
 ·
  exact ⟨g1, g2⟩
 ·
  rename_i hd
  have hd1 : (1 : Int) ≤ d := by omega
  have hd2 : ((1 : Int) : Rat) ≤ (d : Rat) := Rat.intCast_le_intCast.2 hd1
  have hd3 : ((1 : Int) : Rat) = 1 := rfl
  rw [hd3] at hd2
  generalize (d : Rat) = D at *
  generalize (n : Rat) = N at *
  have hx : N / D * D = N := Rat.div_mul_cancel (by grind)
  generalize N / D = x at *
  constructor
  ·
   rcases Decidable.em (-B ≤ x) with h | h
   ·
    exact h
   ·
    have g := Rat.mul_nonneg (a := -B - x) (b := D - 1) (by grind) (by grind)
    have g3 := Rat.mul_nonneg (a := B) (b := D - 1) hB (by grind)
    grind
  ·
   rcases Decidable.em (x ≤ B) with h | h
   ·
    exact h
   ·
    have g := Rat.mul_nonneg (a := x - B) (b := D - 1) (by grind) (by grind)
    have g3 := Rat.mul_nonneg (a := B) (b := D - 1) hB (by grind)
    grind
theorem bdQ_zero (B : Nat) : bdQ B 0 := by
 have h : (0 : Rat) ≤ ((B : Int) : Rat) := Rat.intCast_le_intCast.2 (by omega : (0 : Int) ≤ (B : Int))
 constructor <;> grind
theorem fracsQ_at {fs : List (Int × Int)} {i : Nat} (h : i < fs.length) : (fracsQ fs).getD i 0 = fracQ (fs.getD i (0, 0)).1 (fs.getD i (0, 0)).2 := by
 unfold fracsQ
 simp [List.getD, h]
theorem fracsQ_out {fs : List (Int × Int)} {i : Nat} (h : ¬ i < fs.length) : (fracsQ fs).getD i 0 = 0 := by
 rw [List.getD_eq_getElem?_getD, List.getElem?_eq_none (by simp [fracsQ]; omega)]
 rfl
theorem fracsQ_bd {fs : List (Int × Int)} (hr : ∀ i, i < fs.length → i64P (fs.getD i (0, 0))) (i : Nat) : bdQ 9223372036854775808 ((fracsQ fs).getD i 0) := by
 by_cases h : i < fs.length
 ·
  rw [fracsQ_at h]; exact fracQ_bd (hr i h)
 ·
  rw [fracsQ_out h]; exact bdQ_zero _
theorem fracsQ_szN {fs : List (Int × Int)} (hr : ∀ i, i < fs.length → i64P (fs.getD i (0, 0))) (i : Nat) : szR ((fracsQ fs).getD i 0) 1000 := by
 by_cases h : i < fs.length
 ·
  rw [fracsQ_at h]; exact szR_mono (fracP_sz (hr i h)) (by omega)
 ·
  rw [fracsQ_out h]; exact szR_zero _ (by omega)
theorem fracQ_sz30 {n d : Int} (h : i64P (n, d)) : szR (fracQ n d) 30 := szR_mono (fracQ_szR n d h.1.1 h.1.2 h.2.1 h.2.2) (by omega)
theorem flErr_part {l0 l1 : Rat} {n : Nat} (h : flErr l0 l1 n = 0) : partB l0 l1 = true := by
 unfold flErr at h
 rcases Bool.eq_false_or_eq_true (partB l0 l1) with hb | hb
 ·
  exact hb
 ·
  rw [if_pos hb] at h; exact absurd h (by decide)
theorem fl_szs {n d : Int} {l0 l1 : Rat} {k : Nat} {fs : List (Int × Int)} (hk : k ≤ 256) (h : i64P (n, d)) (hr : ∀ i, i < fs.length → i64P (fs.getD i (0, 0))) (hll : l0 ≤ l1) (m : Nat) (he : flErr l0 l1 m = 0) (i : Nat) :
  szR (flUp (fracQ n d) l0 l1 k (fracsQ fs) i).1 30 ∧ szR (flUp (fracQ n d) l0 l1 k (fracsQ fs) i).2 30 := by
 obtain ⟨p1, p2⟩ := partB_iff.1 (flErr_part he)
 exact (fl_ok hk (by omega) (fracQ_bd h) (fracQ_sz30 h) p1 (by grind) (by grind) p2 (fracsQ_bd hr) i).2.2
theorem flR_szs {n d : Int} {l0 l1 : Rat} {k : Nat} {fs : List (Int × Int)} (hk : k ≤ 256) (h : i64P (n, d)) (hr : ∀ i, i < fs.length → i64P (fs.getD i (0, 0))) (hll : l0 ≤ l1) (m c : Nat) (he : flErr l0 l1 m = 0) (i j : Nat) :
  szR (((flR (fracQ n d) l0 l1 k (fracsQ fs) c).getD i []).getD j 0) 1000 := by
 by_cases hi : i < c
 ·
  rw [flR_at _ _ _ _ _ hi]
  obtain ⟨g1, g2⟩ := fl_szs hk h hr hll m he (i + 1)
  match j with
  | 0 => exact szR_mono g1 (by omega)
  | 1 => exact szR_mono g2 (by omega)
  | j + 2 => exact szR_zero _ (by omega)
 ·
  have e : (flR (fracQ n d) l0 l1 k (fracsQ fs) c).getD i [] = [] := by
   rw [List.getD_eq_getElem?_getD, List.getElem?_eq_none (by rw [flR_len]; omega)]
   rfl
  rw [e]
  exact szR_zero _ (by omega)
theorem pairs4 {W : World} {B T : Nat} {n0 d0 n1 d1 n2 d2 n3 d3 : Int} (h : W.heap[B]? = some (.cells #[.int .i64 n0, .int .i64 d0, .int .i64 n1, .int .i64 d1, .int .i64 n2, .int .i64 d2, .int .i64 n3, .int .i64 d3] T (0, 0))) : PairsOf W (.slice (some ⟨B, 0, none⟩) 4 4) [(n0, d0), (n1, d1), (n2, d2), (n3, d3)] := by
 refine ⟨_, 4, rfl, fun _ => ⟨B, 0, rfl, blk_lt h, fun i hi => ?_⟩⟩
 match i, hi with
 | 0, _ => exact ⟨blk_cell h 0 _ rfl, blk_cell h 1 _ rfl⟩
 | 1, _ => exact ⟨blk_cell h 2 _ rfl, blk_cell h 3 _ rfl⟩
 | 2, _ => exact ⟨blk_cell h 4 _ rfl, blk_cell h 5 _ rfl⟩
 | 3, _ => exact ⟨blk_cell h 6 _ rfl, blk_cell h 7 _ rfl⟩
 | i + 4, hi => (have h4 : i + 4 < 4 := hi; omega)
theorem light4_any (n0 d0 n1 d1 n2 d2 n3 d3 : Int) (v : Value) (w : World) (h : PairsOf w v [(n0, d0), (n1, d1), (n2, d2), (n3, d3)]) : Calls Tryz.prog 11 #[v] w (RetBool (lightUp [(n0, d0), (n1, d1), (n2, d2), (n3, d3)] 4) w) := light_any [(n0, d0), (n1, d1), (n2, d2), (n3, d3)] v w h (by simp)
def needV (y1 y2 y3 : R3) (m : Int) : Value := .agg #[.bool y1.b, .slice y1.a y1.n y1.c, .slice y1.d y1.m y1.e, .bool y2.b, .slice y2.a y2.n y2.c, .slice y2.d y2.m y2.e, .bool y3.b, .slice y3.a y3.n y3.c, .slice y3.d y3.m y3.e, .int .i64 m]
def RetNeed (q1 q2 q3 : Rat) (m : Int) (w : World) (e : Ending) (w' : World) : Prop :=
 ∃ y1 y2 y3 z1 z2 z3 : R3, e = .returned (.tuple #[needV y1 y2 y3 m, needV z1 z2 z3 m]) ∧ (IsRat w' y1.val q1 ∧ IsRat w' y2.val q2 ∧ IsRat w' y3.val q3) ∧ (IsR w' z1.val q1 ∧ IsR w' z2.val q2 ∧ IsR w' z3.val q3) ∧ Below w.heap.size w w'
theorem Sx.st_RRRI {w0 w : World} {bs : List Bx} {fs : List Fx} (h : Sx w0 w bs fs) (i : Nat) (o0 : R3) (o1 : R3) (o2 : R3) (o3 : Int) (n0 : R3) (n1 : R3) (n2 : R3) (n3 : Int) {B T : Nat} (hi : bs[i]? = some (B, #[.bool o0.b, .slice o0.a o0.n o0.c, .slice o0.d o0.m o0.e, .bool o1.b, .slice o1.a o1.n o1.c, .slice o1.d o1.m o1.e, .bool o2.b, .slice o2.a o2.n o2.c, .slice o2.d o2.m o2.e, .int .i64 o3], T)) :
  Sx w0 (((((((((((w).setCell ⟨B, 0, none⟩ (.bool n0.b)).setCell ⟨B, 1, none⟩ (.slice n0.a n0.n n0.c)).setCell ⟨B, 2, none⟩ (.slice n0.d n0.m n0.e)).setCell ⟨B, 3, none⟩ (.bool n1.b)).setCell ⟨B, 4, none⟩ (.slice n1.a n1.n n1.c)).setCell ⟨B, 5, none⟩ (.slice n1.d n1.m n1.e)).setCell ⟨B, 6, none⟩ (.bool n2.b)).setCell ⟨B, 7, none⟩ (.slice n2.a n2.n n2.c)).setCell ⟨B, 8, none⟩ (.slice n2.d n2.m n2.e)).setCell ⟨B, 9, none⟩ (.int .i64 n3)) (bs.set i (B, #[.bool n0.b, .slice n0.a n0.n n0.c, .slice n0.d n0.m n0.e, .bool n1.b, .slice n1.a n1.n n1.c, .slice n1.d n1.m n1.e, .bool n2.b, .slice n2.a n2.n n2.c, .slice n2.d n2.m n2.e, .int .i64 n3], T)) fs := by
 have hl := (List.getElem?_eq_some_iff.1 hi).1
 have g := ((((((((((h).set i hi 0 (v := .bool n0.b) rfl).set i (by rw [List.getElem?_set, if_pos rfl, if_pos (by simpa using hl)]) 1 (v := .slice n0.a n0.n n0.c) rfl).set i (by rw [List.getElem?_set, if_pos rfl, if_pos (by simpa using hl)]) 2 (v := .slice n0.d n0.m n0.e) rfl).set i (by rw [List.getElem?_set, if_pos rfl, if_pos (by simpa using hl)]) 3 (v := .bool n1.b) rfl).set i (by rw [List.getElem?_set, if_pos rfl, if_pos (by simpa using hl)]) 4 (v := .slice n1.a n1.n n1.c) rfl).set i (by rw [List.getElem?_set, if_pos rfl, if_pos (by simpa using hl)]) 5 (v := .slice n1.d n1.m n1.e) rfl).set i (by rw [List.getElem?_set, if_pos rfl, if_pos (by simpa using hl)]) 6 (v := .bool n2.b) rfl).set i (by rw [List.getElem?_set, if_pos rfl, if_pos (by simpa using hl)]) 7 (v := .slice n2.a n2.n n2.c) rfl).set i (by rw [List.getElem?_set, if_pos rfl, if_pos (by simpa using hl)]) 8 (v := .slice n2.d n2.m n2.e) rfl).set i (by rw [List.getElem?_set, if_pos rfl, if_pos (by simpa using hl)]) 9 (v := .int .i64 n3) rfl
 simpa using g
theorem GsR.st_RRRI {w0 w : World} {bs : List Bx} {gs : List GrR} {fs : List Fx} (h : GsR w0 w bs gs) (hs : Sx w0 w bs fs) (i : Nat) (o0 : R3) (o1 : R3) (o2 : R3) (o3 : Int) (n0 : R3) (n1 : R3) (n2 : R3) (n3 : Int) {B T : Nat} (hi : bs[i]? = some (B, #[.bool o0.b, .slice o0.a o0.n o0.c, .slice o0.d o0.m o0.e, .bool o1.b, .slice o1.a o1.n o1.c, .slice o1.d o1.m o1.e, .bool o2.b, .slice o2.a o2.n o2.c, .slice o2.d o2.m o2.e, .int .i64 o3], T)) :
  GsR w0 (((((((((((w).setCell ⟨B, 0, none⟩ (.bool n0.b)).setCell ⟨B, 1, none⟩ (.slice n0.a n0.n n0.c)).setCell ⟨B, 2, none⟩ (.slice n0.d n0.m n0.e)).setCell ⟨B, 3, none⟩ (.bool n1.b)).setCell ⟨B, 4, none⟩ (.slice n1.a n1.n n1.c)).setCell ⟨B, 5, none⟩ (.slice n1.d n1.m n1.e)).setCell ⟨B, 6, none⟩ (.bool n2.b)).setCell ⟨B, 7, none⟩ (.slice n2.a n2.n n2.c)).setCell ⟨B, 8, none⟩ (.slice n2.d n2.m n2.e)).setCell ⟨B, 9, none⟩ (.int .i64 n3)) (bs.set i (B, #[.bool n0.b, .slice n0.a n0.n n0.c, .slice n0.d n0.m n0.e, .bool n1.b, .slice n1.a n1.n n1.c, .slice n1.d n1.m n1.e, .bool n2.b, .slice n2.a n2.n n2.c, .slice n2.d n2.m n2.e, .int .i64 n3], T)) gs := by
 have hl := (List.getElem?_eq_some_iff.1 hi).1
 have g := ((((((((((h).set2 (hs) i hi 0 (.bool n0.b)).set2 ((hs).set i hi 0 (v := .bool n0.b) rfl) i (by rw [List.getElem?_set, if_pos rfl, if_pos (by simpa using hl)]) 1 (.slice n0.a n0.n n0.c)).set2 (((hs).set i hi 0 (v := .bool n0.b) rfl).set i (by rw [List.getElem?_set, if_pos rfl, if_pos (by simpa using hl)]) 1 (v := .slice n0.a n0.n n0.c) rfl) i (by rw [List.getElem?_set, if_pos rfl, if_pos (by simpa using hl)]) 2 (.slice n0.d n0.m n0.e)).set2 ((((hs).set i hi 0 (v := .bool n0.b) rfl).set i (by rw [List.getElem?_set, if_pos rfl, if_pos (by simpa using hl)]) 1 (v := .slice n0.a n0.n n0.c) rfl).set i (by rw [List.getElem?_set, if_pos rfl, if_pos (by simpa using hl)]) 2 (v := .slice n0.d n0.m n0.e) rfl) i (by rw [List.getElem?_set, if_pos rfl, if_pos (by simpa using hl)]) 3 (.bool n1.b)).set2 (((((hs).set i hi 0 (v := .bool n0.b) rfl).set i (by rw [List.getElem?_set, if_pos rfl, if_pos (by simpa using hl)]) 1 (v := .slice n0.a n0.n n0.c) rfl).set i (by rw [List.getElem?_set, if_pos rfl, if_pos (by simpa using hl)]) 2 (v := .slice n0.d n0.m n0.e) rfl).set i (by rw [List.getElem?_set, if_pos rfl, if_pos (by simpa using hl)]) 3 (v := .bool n1.b) rfl) i (by rw [List.getElem?_set, if_pos rfl, if_pos (by simpa using hl)]) 4 (.slice n1.a n1.n n1.c)).set2 ((((((hs).set i hi 0 (v := .bool n0.b) rfl).set i (by rw [List.getElem?_set, if_pos rfl, if_pos (by simpa using hl)]) 1 (v := .slice n0.a n0.n n0.c) rfl).set i (by rw [List.getElem?_set, if_pos rfl, if_pos (by simpa using hl)]) 2 (v := .slice n0.d n0.m n0.e) rfl).set i (by rw [List.getElem?_set, if_pos rfl, if_pos (by simpa using hl)]) 3 (v := .bool n1.b) rfl).set i (by rw [List.getElem?_set, if_pos rfl, if_pos (by simpa using hl)]) 4 (v := .slice n1.a n1.n n1.c) rfl) i (by rw [List.getElem?_set, if_pos rfl, if_pos (by simpa using hl)]) 5 (.slice n1.d n1.m n1.e)).set2 (((((((hs).set i hi 0 (v := .bool n0.b) rfl).set i (by rw [List.getElem?_set, if_pos rfl, if_pos (by simpa using hl)]) 1 (v := .slice n0.a n0.n n0.c) rfl).set i (by rw [List.getElem?_set, if_pos rfl, if_pos (by simpa using hl)]) 2 (v := .slice n0.d n0.m n0.e) rfl).set i (by rw [List.getElem?_set, if_pos rfl, if_pos (by simpa using hl)]) 3 (v := .bool n1.b) rfl).set i (by rw [List.getElem?_set, if_pos rfl, if_pos (by simpa using hl)]) 4 (v := .slice n1.a n1.n n1.c) rfl).set i (by rw [List.getElem?_set, if_pos rfl, if_pos (by simpa using hl)]) 5 (v := .slice n1.d n1.m n1.e) rfl) i (by rw [List.getElem?_set, if_pos rfl, if_pos (by simpa using hl)]) 6 (.bool n2.b)).set2 ((((((((hs).set i hi 0 (v := .bool n0.b) rfl).set i (by rw [List.getElem?_set, if_pos rfl, if_pos (by simpa using hl)]) 1 (v := .slice n0.a n0.n n0.c) rfl).set i (by rw [List.getElem?_set, if_pos rfl, if_pos (by simpa using hl)]) 2 (v := .slice n0.d n0.m n0.e) rfl).set i (by rw [List.getElem?_set, if_pos rfl, if_pos (by simpa using hl)]) 3 (v := .bool n1.b) rfl).set i (by rw [List.getElem?_set, if_pos rfl, if_pos (by simpa using hl)]) 4 (v := .slice n1.a n1.n n1.c) rfl).set i (by rw [List.getElem?_set, if_pos rfl, if_pos (by simpa using hl)]) 5 (v := .slice n1.d n1.m n1.e) rfl).set i (by rw [List.getElem?_set, if_pos rfl, if_pos (by simpa using hl)]) 6 (v := .bool n2.b) rfl) i (by rw [List.getElem?_set, if_pos rfl, if_pos (by simpa using hl)]) 7 (.slice n2.a n2.n n2.c)).set2 (((((((((hs).set i hi 0 (v := .bool n0.b) rfl).set i (by rw [List.getElem?_set, if_pos rfl, if_pos (by simpa using hl)]) 1 (v := .slice n0.a n0.n n0.c) rfl).set i (by rw [List.getElem?_set, if_pos rfl, if_pos (by simpa using hl)]) 2 (v := .slice n0.d n0.m n0.e) rfl).set i (by rw [List.getElem?_set, if_pos rfl, if_pos (by simpa using hl)]) 3 (v := .bool n1.b) rfl).set i (by rw [List.getElem?_set, if_pos rfl, if_pos (by simpa using hl)]) 4 (v := .slice n1.a n1.n n1.c) rfl).set i (by rw [List.getElem?_set, if_pos rfl, if_pos (by simpa using hl)]) 5 (v := .slice n1.d n1.m n1.e) rfl).set i (by rw [List.getElem?_set, if_pos rfl, if_pos (by simpa using hl)]) 6 (v := .bool n2.b) rfl).set i (by rw [List.getElem?_set, if_pos rfl, if_pos (by simpa using hl)]) 7 (v := .slice n2.a n2.n n2.c) rfl) i (by rw [List.getElem?_set, if_pos rfl, if_pos (by simpa using hl)]) 8 (.slice n2.d n2.m n2.e)).set2 ((((((((((hs).set i hi 0 (v := .bool n0.b) rfl).set i (by rw [List.getElem?_set, if_pos rfl, if_pos (by simpa using hl)]) 1 (v := .slice n0.a n0.n n0.c) rfl).set i (by rw [List.getElem?_set, if_pos rfl, if_pos (by simpa using hl)]) 2 (v := .slice n0.d n0.m n0.e) rfl).set i (by rw [List.getElem?_set, if_pos rfl, if_pos (by simpa using hl)]) 3 (v := .bool n1.b) rfl).set i (by rw [List.getElem?_set, if_pos rfl, if_pos (by simpa using hl)]) 4 (v := .slice n1.a n1.n n1.c) rfl).set i (by rw [List.getElem?_set, if_pos rfl, if_pos (by simpa using hl)]) 5 (v := .slice n1.d n1.m n1.e) rfl).set i (by rw [List.getElem?_set, if_pos rfl, if_pos (by simpa using hl)]) 6 (v := .bool n2.b) rfl).set i (by rw [List.getElem?_set, if_pos rfl, if_pos (by simpa using hl)]) 7 (v := .slice n2.a n2.n n2.c) rfl).set i (by rw [List.getElem?_set, if_pos rfl, if_pos (by simpa using hl)]) 8 (v := .slice n2.d n2.m n2.e) rfl) i (by rw [List.getElem?_set, if_pos rfl, if_pos (by simpa using hl)]) 9 (.int .i64 n3)
 simpa using g
set_option maxRecDepth 100000 in
set_option maxHeartbeats 4000000 in
theorem need_any (pn pd qn qd rn rd m : Int) (w : World) (h1 : i64P (pn, pd)) (h2 : i64P (qn, qd)) (h3 : i64P (rn, rd)) : Calls Tryz.prog 15 #[.agg #[.int .i64 pn, .int .i64 pd, .int .i64 qn, .int .i64 qd, .int .i64 rn, .int .i64 rd, .int .i64 m]] w (RetNeed (fracQ pn pd) (fracQ qn qd) (fracQ rn rd) m w) := by
 have HS := Lib.hid (Sx.init w)
 have HP1 := Lib.hid h1
 have HP2 := Lib.hid h2
 have HP3 := Lib.hid h3
 clear h1 h2 h3
 go_enter Tryz.func15, Tryz.ntmps15
 go_wp2_with fail
 generalize hW1 : (((w).alloc (.cells _ _)).alloc (.cells _ _)).alloc (.cells _ _) = W1 at *
 replace HS := Lib.hid (((((HS.out).alloc (B := w.heap.size) rfl (by rfl)).alloc (B := w.heap.size + 1) (by simp) (by rfl)).alloc (B := w.heap.size + 2) (by simp) (by rfl)).to hW1 (by (try simp only [nb5, nb6]); rfl))
 clear hW1
 refine wp_region_held_drew (S := (fun w' => Sx w w' [(w.heap.size, #[.int .i64 pn, .int .i64 pd, .int .i64 qn, .int .i64 qd, .int .i64 rn, .int .i64 rd, .int .i64 m], 27)] [])) (by kernel_rfl) (((HS.out.drew).erase 1).erase 0) (fun hh => ?_)
 replace HS := Lib.hid HS.out.drew
 refine tkB (i := 0) (v := ?vk3) rfl ?hk3 ?rk3
 case hk3 => intro u hSu; go_simp <;> with_reducible rfl
 try simp only [nbs, Act.put]
 refine tkB (i := 1) (v := ?vk4) rfl ?hk4 ?rk4
 case hk4 => intro u hSu; (try dsimp only at hSu); have qb0e := (hSu.at 0 _ _ _ rfl); have qb0c0 := blk_cell qb0e 0 (.int .i64 pn) rfl; have qb0c1 := blk_cell qb0e 1 (.int .i64 pd) rfl; have qb0c2 := blk_cell qb0e 2 (.int .i64 qn) rfl; have qb0c3 := blk_cell qb0e 3 (.int .i64 qd) rfl; have qb0c4 := blk_cell qb0e 4 (.int .i64 rn) rfl; have qb0c5 := blk_cell qb0e 5 (.int .i64 rd) rfl; have qb0c6 := blk_cell qb0e 6 (.int .i64 m) rfl; clear qb0e; clear hSu; go_simp <;> with_reducible rfl
 try simp only [nbs, Act.put]
 refine tkB (i := 3) (v := ?vk5) rfl ?hk5 ?rk5
 case hk5 => intro u hSu; go_simp <;> with_reducible rfl
 try simp only [nbs, Act.put]
 refine tkB (i := 4) (v := ?vk6) rfl ?hk6 ?rk6
 case hk6 => intro u hSu; (try dsimp only at hSu); have qb0e := (hSu.at 0 _ _ _ rfl); have qb0c0 := blk_cell qb0e 0 (.int .i64 pn) rfl; have qb0c1 := blk_cell qb0e 1 (.int .i64 pd) rfl; have qb0c2 := blk_cell qb0e 2 (.int .i64 qn) rfl; have qb0c3 := blk_cell qb0e 3 (.int .i64 qd) rfl; have qb0c4 := blk_cell qb0e 4 (.int .i64 rn) rfl; have qb0c5 := blk_cell qb0e 5 (.int .i64 rd) rfl; have qb0c6 := blk_cell qb0e 6 (.int .i64 m) rfl; clear qb0e; clear hSu; go_simp <;> with_reducible rfl
 try simp only [nbs, Act.put]
 refine tkB (i := 6) (v := ?vk7) rfl ?hk7 ?rk7
 case hk7 => intro u hSu; go_simp <;> with_reducible rfl
 try simp only [nbs, Act.put]
 refine tkB (i := 7) (v := ?vk8) rfl ?hk8 ?rk8
 case hk8 => intro u hSu; (try dsimp only at hSu); have qb0e := (hSu.at 0 _ _ _ rfl); have qb0c0 := blk_cell qb0e 0 (.int .i64 pn) rfl; have qb0c1 := blk_cell qb0e 1 (.int .i64 pd) rfl; have qb0c2 := blk_cell qb0e 2 (.int .i64 qn) rfl; have qb0c3 := blk_cell qb0e 3 (.int .i64 qd) rfl; have qb0c4 := blk_cell qb0e 4 (.int .i64 rn) rfl; have qb0c5 := blk_cell qb0e 5 (.int .i64 rd) rfl; have qb0c6 := blk_cell qb0e 6 (.int .i64 m) rfl; clear qb0e; clear hSu; go_simp <;> with_reducible rfl
 try simp only [nbs, Act.put]
 refine tkB (i := 9) (v := ?vk9) rfl ?hk9 ?rk9
 case hk9 => intro u hSu; go_simp <;> with_reducible rfl
 try simp only [nbs, Act.put]
 refine tkB (i := 10) (v := ?vk10) rfl ?hk10 ?rk10
 case hk10 => intro u hSu; (try dsimp only at hSu); have qb0e := (hSu.at 0 _ _ _ rfl); have qb0c0 := blk_cell qb0e 0 (.int .i64 pn) rfl; have qb0c1 := blk_cell qb0e 1 (.int .i64 pd) rfl; have qb0c2 := blk_cell qb0e 2 (.int .i64 qn) rfl; have qb0c3 := blk_cell qb0e 3 (.int .i64 qd) rfl; have qb0c4 := blk_cell qb0e 4 (.int .i64 rn) rfl; have qb0c5 := blk_cell qb0e 5 (.int .i64 rd) rfl; have qb0c6 := blk_cell qb0e 6 (.int .i64 m) rfl; clear qb0e; clear hSu; go_simp <;> with_reducible rfl
 try simp only [nbs, Act.put]
 refine tkB (i := 12) (v := ?vk11) rfl ?hk11 ?rk11
 case hk11 => intro u hSu; go_simp <;> with_reducible rfl
 try simp only [nbs, Act.put]
 refine tkB (i := 13) (v := ?vk12) rfl ?hk12 ?rk12
 case hk12 => intro u hSu; (try dsimp only at hSu); have qb0e := (hSu.at 0 _ _ _ rfl); have qb0c0 := blk_cell qb0e 0 (.int .i64 pn) rfl; have qb0c1 := blk_cell qb0e 1 (.int .i64 pd) rfl; have qb0c2 := blk_cell qb0e 2 (.int .i64 qn) rfl; have qb0c3 := blk_cell qb0e 3 (.int .i64 qd) rfl; have qb0c4 := blk_cell qb0e 4 (.int .i64 rn) rfl; have qb0c5 := blk_cell qb0e 5 (.int .i64 rd) rfl; have qb0c6 := blk_cell qb0e 6 (.int .i64 m) rfl; clear qb0e; clear hSu; go_simp <;> with_reducible rfl
 try simp only [nbs, Act.put]
 refine tkB (i := 15) (v := ?vk13) rfl ?hk13 ?rk13
 case hk13 => intro u hSu; go_simp <;> with_reducible rfl
 try simp only [nbs, Act.put]
 refine tkB (i := 16) (v := ?vk14) rfl ?hk14 ?rk14
 case hk14 => intro u hSu; (try dsimp only at hSu); have qb0e := (hSu.at 0 _ _ _ rfl); have qb0c0 := blk_cell qb0e 0 (.int .i64 pn) rfl; have qb0c1 := blk_cell qb0e 1 (.int .i64 pd) rfl; have qb0c2 := blk_cell qb0e 2 (.int .i64 qn) rfl; have qb0c3 := blk_cell qb0e 3 (.int .i64 qd) rfl; have qb0c4 := blk_cell qb0e 4 (.int .i64 rn) rfl; have qb0c5 := blk_cell qb0e 5 (.int .i64 rd) rfl; have qb0c6 := blk_cell qb0e 6 (.int .i64 m) rfl; clear qb0e; clear hSu; go_simp <;> with_reducible rfl
 try simp only [nbs, Act.put]
 refine tkB (i := 18) (v := ?vk15) rfl ?hk15 ?rk15
 case hk15 => intro u hSu; go_simp <;> with_reducible rfl
 try simp only [nbs, Act.put]
 refine tkB (i := 19) (v := ?vk16) rfl ?hk16 ?rk16
 case hk16 => intro u hSu; (try dsimp only at hSu); have qb0e := (hSu.at 0 _ _ _ rfl); have qb0c0 := blk_cell qb0e 0 (.int .i64 pn) rfl; have qb0c1 := blk_cell qb0e 1 (.int .i64 pd) rfl; have qb0c2 := blk_cell qb0e 2 (.int .i64 qn) rfl; have qb0c3 := blk_cell qb0e 3 (.int .i64 qd) rfl; have qb0c4 := blk_cell qb0e 4 (.int .i64 rn) rfl; have qb0c5 := blk_cell qb0e 5 (.int .i64 rd) rfl; have qb0c6 := blk_cell qb0e 6 (.int .i64 m) rfl; clear qb0e; clear hSu; go_simp <;> with_reducible rfl
 try simp only [nbs, Act.put]
 refine tkB (i := 21) (v := ?vk17) rfl ?hk17 ?rk17
 case hk17 => intro u hSu; go_simp <;> with_reducible rfl
 try simp only [nbs, Act.put]
 refine tkB (i := 22) (v := ?vk18) rfl ?hk18 ?rk18
 case hk18 => intro u hSu; (try dsimp only at hSu); have qb0e := (hSu.at 0 _ _ _ rfl); have qb0c0 := blk_cell qb0e 0 (.int .i64 pn) rfl; have qb0c1 := blk_cell qb0e 1 (.int .i64 pd) rfl; have qb0c2 := blk_cell qb0e 2 (.int .i64 qn) rfl; have qb0c3 := blk_cell qb0e 3 (.int .i64 qd) rfl; have qb0c4 := blk_cell qb0e 4 (.int .i64 rn) rfl; have qb0c5 := blk_cell qb0e 5 (.int .i64 rd) rfl; have qb0c6 := blk_cell qb0e 6 (.int .i64 m) rfl; clear qb0e; clear hSu; go_simp <;> with_reducible rfl
 try simp only [nbs, Act.put]
 refine rdA (i := 2) rfl (fun K hK => ?_)
 go_simp
 go_wp2_with (go_at_call 17; (with_reducible refine (ofN_any pn pd _ HP1.out).mono ?_); rintro e w19 ⟨v19, rfl, hv19, hb19⟩; obtain ⟨z19, rfl⟩ := hv19.open3)
 refine hK.out _ _ (Sx.below hh hb19) (fun hh => ?_)
 clear hK K
 try simp only [nbs, Act.put]
 replace HS := Lib.hid (HS.out.below hb19)
 clear hb19
 replace HS := Lib.hid (HS.out.addP hv19)
 clear hv19
 refine rdA (i := 5) rfl (fun K hK => ?_)
 go_simp
 go_wp2_with (go_at_call 17; (with_reducible refine (ofN_any qn qd _ HP2.out).mono ?_); rintro e w20 ⟨v20, rfl, hv20, hb20⟩; obtain ⟨z20, rfl⟩ := hv20.open3)
 refine hK.out _ _ (Sx.below hh hb20) (fun hh => ?_)
 clear hK K
 try simp only [nbs, Act.put]
 replace HS := Lib.hid (HS.out.below hb20)
 clear hb20
 replace HS := Lib.hid (HS.out.addP hv20)
 clear hv20
 refine rdA (i := 8) rfl (fun K hK => ?_)
 go_simp
 go_wp2_with (go_at_call 17; (with_reducible refine (ofN_any rn rd _ HP3.out).mono ?_); rintro e w21 ⟨v21, rfl, hv21, hb21⟩; obtain ⟨z21, rfl⟩ := hv21.open3)
 refine hK.out _ _ (Sx.below hh hb21) (fun hh => ?_)
 clear hK K
 try simp only [nbs, Act.put]
 replace HS := Lib.hid (HS.out.below hb21)
 clear hb21
 replace HS := Lib.hid (HS.out.addP hv21)
 clear hv21
 refine tkB (i := 11) (v := ?vk22) rfl ?hk22 ?rk22
 case hk22 => intro u hSu; go_simp <;> with_reducible rfl
 try simp only [nbs, Act.put]
 refine rdA (i := 14) rfl (fun K hK => ?_)
 go_simp
 go_wp2_with (go_at_call 19; (with_reducible refine (qofN_any pn pd _ HP1.out).mono ?_); rintro e w23 ⟨v23, rfl, hv23, hb23⟩; obtain ⟨z23, rfl⟩ := hv23.open3)
 refine hK.out _ _ (Sx.below hh hb23) (fun hh => ?_)
 clear hK K
 try simp only [nbs, Act.put]
 replace HS := Lib.hid (HS.out.below hb23)
 clear hb23
 replace HS := Lib.hid (HS.out.addQ hv23)
 clear hv23
 refine rdA (i := 17) rfl (fun K hK => ?_)
 go_simp
 go_wp2_with (go_at_call 19; (with_reducible refine (qofN_any qn qd _ HP2.out).mono ?_); rintro e w24 ⟨v24, rfl, hv24, hb24⟩; obtain ⟨z24, rfl⟩ := hv24.open3)
 refine hK.out _ _ (Sx.below hh hb24) (fun hh => ?_)
 clear hK K
 try simp only [nbs, Act.put]
 replace HS := Lib.hid (HS.out.below hb24)
 clear hb24
 replace HS := Lib.hid (HS.out.addQ hv24)
 clear hv24
 refine rdA (i := 20) rfl (fun K hK => ?_)
 go_simp
 go_wp2_with (go_at_call 19; (with_reducible refine (qofN_any rn rd _ HP3.out).mono ?_); rintro e w25 ⟨v25, rfl, hv25, hb25⟩; obtain ⟨z25, rfl⟩ := hv25.open3)
 refine hK.out _ _ (Sx.below hh hb25) (fun hh => ?_)
 clear hK K
 try simp only [nbs, Act.put]
 replace HS := Lib.hid (HS.out.below hb25)
 clear hb25
 replace HS := Lib.hid (HS.out.addQ hv25)
 clear hv25
 refine tkB (i := 23) (v := ?vk26) rfl ?hk26 ?rk26
 case hk26 => intro u hSu; go_simp <;> with_reducible rfl
 try simp only [nbs, Act.put]
 refine rdA (i := 24) rfl (fun K hK => ?_)
 have b1e := (HS.out.at 1 _ _ _ rfl)
 have b1c0 := blk_cell b1e 0 (.bool false) rfl
 have b1c1 := blk_cell b1e 1 (.slice none 0 0) rfl
 have b1c2 := blk_cell b1e 2 (.slice none 0 0) rfl
 have b1c3 := blk_cell b1e 3 (.bool false) rfl
 have b1c4 := blk_cell b1e 4 (.slice none 0 0) rfl
 have b1c5 := blk_cell b1e 5 (.slice none 0 0) rfl
 have b1c6 := blk_cell b1e 6 (.bool false) rfl
 have b1c7 := blk_cell b1e 7 (.slice none 0 0) rfl
 have b1c8 := blk_cell b1e 8 (.slice none 0 0) rfl
 have b1c9 := blk_cell b1e 9 (.int .i64 0) rfl
 have b1f0 := blk_frozen b1e 0
 have b1f1 := blk_frozen b1e 1
 have b1f2 := blk_frozen b1e 2
 have b1f3 := blk_frozen b1e 3
 have b1f4 := blk_frozen b1e 4
 have b1f5 := blk_frozen b1e 5
 have b1f6 := blk_frozen b1e 6
 have b1f7 := blk_frozen b1e 7
 have b1f8 := blk_frozen b1e 8
 have b1f9 := blk_frozen b1e 9
 have b1l := blk_lt b1e
 clear b1e
 go_simp
 refine hK.out _ _ ((((((HS.out).st_RRRI 1 r30 r30 r30 0 z19 z20 z21 m rfl)).erase 1)).erase 0) (fun hh => ?_)
 clear hK K b1c0 b1c1 b1c2 b1c3 b1c4 b1c5 b1c6 b1c7 b1c8 b1c9 b1f0 b1f1 b1f2 b1f3 b1f4 b1f5 b1f6 b1f7 b1f8 b1f9 b1l
 try simp only [nbs, Act.put]
 generalize hW27 : ((((((((((w25).setCell _ _).setCell _ _).setCell _ _).setCell _ _).setCell _ _).setCell _ _).setCell _ _).setCell _ _).setCell _ _).setCell _ _ = W27 at *
 replace HS := Lib.hid (((HS.out).st_RRRI 1 r30 r30 r30 0 z19 z20 z21 m rfl).to hW27 (by (try simp only [nb5, nb6]); rfl))
 clear hW27
 refine rdA (i := 25) rfl (fun K hK => ?_)
 have b2e := (HS.out.at 0 _ _ _ rfl)
 have b2c0 := blk_cell b2e 0 (.bool false) rfl
 have b2c1 := blk_cell b2e 1 (.slice none 0 0) rfl
 have b2c2 := blk_cell b2e 2 (.slice none 0 0) rfl
 have b2c3 := blk_cell b2e 3 (.bool false) rfl
 have b2c4 := blk_cell b2e 4 (.slice none 0 0) rfl
 have b2c5 := blk_cell b2e 5 (.slice none 0 0) rfl
 have b2c6 := blk_cell b2e 6 (.bool false) rfl
 have b2c7 := blk_cell b2e 7 (.slice none 0 0) rfl
 have b2c8 := blk_cell b2e 8 (.slice none 0 0) rfl
 have b2c9 := blk_cell b2e 9 (.int .i64 0) rfl
 have b2f0 := blk_frozen b2e 0
 have b2f1 := blk_frozen b2e 1
 have b2f2 := blk_frozen b2e 2
 have b2f3 := blk_frozen b2e 3
 have b2f4 := blk_frozen b2e 4
 have b2f5 := blk_frozen b2e 5
 have b2f6 := blk_frozen b2e 6
 have b2f7 := blk_frozen b2e 7
 have b2f8 := blk_frozen b2e 8
 have b2f9 := blk_frozen b2e 9
 have b2l := blk_lt b2e
 clear b2e
 go_simp
 refine hK.out _ _ ((((((HS.out).st_RRRI 0 r30 r30 r30 0 z23 z24 z25 m rfl)).erase 1)).erase 0) (fun hh => ?_)
 clear hK K b2c0 b2c1 b2c2 b2c3 b2c4 b2c5 b2c6 b2c7 b2c8 b2c9 b2f0 b2f1 b2f2 b2f3 b2f4 b2f5 b2f6 b2f7 b2f8 b2f9 b2l
 try simp only [nbs, Act.put]
 generalize hW28 : ((((((((((W27).setCell _ _).setCell _ _).setCell _ _).setCell _ _).setCell _ _).setCell _ _).setCell _ _).setCell _ _).setCell _ _).setCell _ _ = W28 at *
 replace HS := Lib.hid (((HS.out).st_RRRI 0 r30 r30 r30 0 z23 z24 z25 m rfl).to hW28 (by (try simp only [nb5, nb6]); rfl))
 clear hW28
 refine wpAnyH_done (by kernel_rfl) ?_ _
 have b1e := (HS.out.at 1 _ _ _ rfl)
 have b1c0 := blk_cell b1e 0 (.bool z19.b) rfl
 have b1c1 := blk_cell b1e 1 (.slice z19.a z19.n z19.c) rfl
 have b1c2 := blk_cell b1e 2 (.slice z19.d z19.m z19.e) rfl
 have b1c3 := blk_cell b1e 3 (.bool z20.b) rfl
 have b1c4 := blk_cell b1e 4 (.slice z20.a z20.n z20.c) rfl
 have b1c5 := blk_cell b1e 5 (.slice z20.d z20.m z20.e) rfl
 have b1c6 := blk_cell b1e 6 (.bool z21.b) rfl
 have b1c7 := blk_cell b1e 7 (.slice z21.a z21.n z21.c) rfl
 have b1c8 := blk_cell b1e 8 (.slice z21.d z21.m z21.e) rfl
 have b1c9 := blk_cell b1e 9 (.int .i64 m) rfl
 have b1f0 := blk_frozen b1e 0
 have b1f1 := blk_frozen b1e 1
 have b1f2 := blk_frozen b1e 2
 have b1f3 := blk_frozen b1e 3
 have b1f4 := blk_frozen b1e 4
 have b1f5 := blk_frozen b1e 5
 have b1f6 := blk_frozen b1e 6
 have b1f7 := blk_frozen b1e 7
 have b1f8 := blk_frozen b1e 8
 have b1f9 := blk_frozen b1e 9
 have b1l := blk_lt b1e
 clear b1e
 have b2e := (HS.out.at 0 _ _ _ rfl)
 have b2c0 := blk_cell b2e 0 (.bool z23.b) rfl
 have b2c1 := blk_cell b2e 1 (.slice z23.a z23.n z23.c) rfl
 have b2c2 := blk_cell b2e 2 (.slice z23.d z23.m z23.e) rfl
 have b2c3 := blk_cell b2e 3 (.bool z24.b) rfl
 have b2c4 := blk_cell b2e 4 (.slice z24.a z24.n z24.c) rfl
 have b2c5 := blk_cell b2e 5 (.slice z24.d z24.m z24.e) rfl
 have b2c6 := blk_cell b2e 6 (.bool z25.b) rfl
 have b2c7 := blk_cell b2e 7 (.slice z25.a z25.n z25.c) rfl
 have b2c8 := blk_cell b2e 8 (.slice z25.d z25.m z25.e) rfl
 have b2c9 := blk_cell b2e 9 (.int .i64 m) rfl
 have b2f0 := blk_frozen b2e 0
 have b2f1 := blk_frozen b2e 1
 have b2f2 := blk_frozen b2e 2
 have b2f3 := blk_frozen b2e 3
 have b2f4 := blk_frozen b2e 4
 have b2f5 := blk_frozen b2e 5
 have b2f6 := blk_frozen b2e 6
 have b2f7 := blk_frozen b2e 7
 have b2f8 := blk_frozen b2e 8
 have b2f9 := blk_frozen b2e 9
 have b2l := blk_lt b2e
 clear b2e
 go_wp2_with fail
 clear b1c0 b1c1 b1c2 b1c3 b1c4 b1c5 b1c6 b1c7 b1c8 b1c9 b1f0 b1f1 b1f2 b1f3 b1f4 b1f5 b1f6 b1f7 b1f8 b1f9 b1l b2c0 b2c1 b2c2 b2c3 b2c4 b2c5 b2c6 b2c7 b2c8 b2c9 b2f0 b2f1 b2f2 b2f3 b2f4 b2f5 b2f6 b2f7 b2f8 b2f9 b2l
 have b1e := (HS.out.at 1 _ _ _ rfl)
 have b1c0 := blk_cell b1e 0 (.bool z19.b) rfl
 have b1c1 := blk_cell b1e 1 (.slice z19.a z19.n z19.c) rfl
 have b1c2 := blk_cell b1e 2 (.slice z19.d z19.m z19.e) rfl
 have b1c3 := blk_cell b1e 3 (.bool z20.b) rfl
 have b1c4 := blk_cell b1e 4 (.slice z20.a z20.n z20.c) rfl
 have b1c5 := blk_cell b1e 5 (.slice z20.d z20.m z20.e) rfl
 have b1c6 := blk_cell b1e 6 (.bool z21.b) rfl
 have b1c7 := blk_cell b1e 7 (.slice z21.a z21.n z21.c) rfl
 have b1c8 := blk_cell b1e 8 (.slice z21.d z21.m z21.e) rfl
 have b1c9 := blk_cell b1e 9 (.int .i64 m) rfl
 clear b1e
 have b2e := (HS.out.at 0 _ _ _ rfl)
 have b2c0 := blk_cell b2e 0 (.bool z23.b) rfl
 have b2c1 := blk_cell b2e 1 (.slice z23.a z23.n z23.c) rfl
 have b2c2 := blk_cell b2e 2 (.slice z23.d z23.m z23.e) rfl
 have b2c3 := blk_cell b2e 3 (.bool z24.b) rfl
 have b2c4 := blk_cell b2e 4 (.slice z24.a z24.n z24.c) rfl
 have b2c5 := blk_cell b2e 5 (.slice z24.d z24.m z24.e) rfl
 have b2c6 := blk_cell b2e 6 (.bool z25.b) rfl
 have b2c7 := blk_cell b2e 7 (.slice z25.a z25.n z25.c) rfl
 have b2c8 := blk_cell b2e 8 (.slice z25.d z25.m z25.e) rfl
 have b2c9 := blk_cell b2e 9 (.int .i64 m) rfl
 clear b2e
 refine bodyPost_ret (v := .tuple #[.agg #[.bool z19.b, .slice z19.a z19.n z19.c, .slice z19.d z19.m z19.e, .bool z20.b, .slice z20.a z20.n z20.c, .slice z20.d z20.m z20.e, .bool z21.b, .slice z21.a z21.n z21.c, .slice z21.d z21.m z21.e, .int .i64 m], .agg #[.bool z23.b, .slice z23.a z23.n z23.c, .slice z23.d z23.m z23.e, .bool z24.b, .slice z24.a z24.n z24.c, .slice z24.d z24.m z24.e, .bool z25.b, .slice z25.a z25.n z25.c, .slice z25.d z25.m z25.e, .int .i64 m]]) (by simp [results, Tryz.results15, go_sem, b1c0, b1c1, b1c2, b1c3, b1c4, b1c5, b1c6, b1c7, b1c8, b1c9, b2c0, b2c1, b2c2, b2c3, b2c4, b2c5, b2c6, b2c7, b2c8, b2c9]) rfl ⟨z19, z20, z21, z23, z24, z25, rfl, ⟨(HS.out.p 5 _ _ rfl), (HS.out.p 4 _ _ rfl), (HS.out.p 3 _ _ rfl)⟩, ⟨(HS.out.q 2 _ _ rfl), (HS.out.q 1 _ _ rfl), (HS.out.q 0 _ _ rfl)⟩, HS.out.bel⟩
end Go.Proofs.YtfjcccpibhhncaaGreat

namespace Go.Proofs.YtfjcccpibhhncaaGreat
open Go.RowKit

def adUp (n : Nat) (le mo ri : Rat) (m : Int) (ls : List (List Rat)) : Nat → Int
 | 0 => 0
 | i + 1 => if adUp n le mo ri m ls i ≠ 0 then adUp n le mo ri m ls i else meErr ((ls.getD i []).getD 0 0) ((ls.getD i []).getD 1 0) n le mo ri m
def adBad (S le mo ri : Rat) (m : Int) (k : Nat) (aq : List Rat) (ls : List (List Rat)) (i : Nat) : Bool := !mtOf S le mo ri m (flR S ((ls.getD i []).getD 0 0) ((ls.getD i []).getD 1 0) k aq aq.length)
def adErr (n : Nat) (le mo ri : Rat) (m : Int) (ls : List (List Rat)) : Int := if ls.length < 1 ∨ 64 < ls.length then 4 else adUp n le mo ri m ls ls.length
def adIx (S le mo ri : Rat) (m : Int) (k : Nat) (aq : List Rat) (ls : List (List Rat)) (er : Int) : Int := if er = 0 then firstUp (adBad S le mo ri m k aq ls) ls.length else 0
theorem adUp_stay {n : Nat} {le mo ri : Rat} {m : Int} {ls : List (List Rat)} {i c : Nat} (h : adUp n le mo ri m ls i ≠ 0) (hi : i ≤ c) : adUp n le mo ri m ls c = adUp n le mo ri m ls i := by
  induction c with
  | zero => obtain rfl : i = 0 := by omega
            rfl
  | succ c ih =>
    rcases Nat.lt_or_ge i (c + 1) with h1 | h1
    · have e := ih (by omega)
      show (if adUp n le mo ri m ls c ≠ 0 then adUp n le mo ri m ls c else _) = _
      rw [if_pos (by rw [e]; exact h), e]
    · obtain rfl : i = c + 1 := by omega
      rfl
theorem adUp_s {n : Nat} {le mo ri : Rat} {m : Int} {ls : List (List Rat)} {i : Nat} (h : adUp n le mo ri m ls i = 0) : adUp n le mo ri m ls (i + 1) = meErr ((ls.getD i []).getD 0 0) ((ls.getD i []).getD 1 0) n le mo ri m := by
 show (if adUp n le mo ri m ls i ≠ 0 then adUp n le mo ri m ls i else _) = _
 rw [if_neg (by rw [h]; simp)]
theorem adUp_zero {n : Nat} {le mo ri : Rat} {m : Int} {ls : List (List Rat)} {c : Nat} (h : adUp n le mo ri m ls c = 0) (i : Nat) (hi : i < c) : meErr ((ls.getD i []).getD 0 0) ((ls.getD i []).getD 1 0) n le mo ri m = 0 := by
 have h1 : adUp n le mo ri m ls (i + 1) = 0 := by
  rcases Decidable.em (adUp n le mo ri m ls (i + 1) = 0) with h0 | h0
  ·
   exact h0
  ·
   rw [adUp_stay h0 hi] at h; exact h
 have h2 : adUp n le mo ri m ls i = 0 := by
  rcases Decidable.em (adUp n le mo ri m ls i = 0) with h0 | h0
  ·
   exact h0
  ·
   rw [adUp_stay h0 (by omega : i ≤ c)] at h; exact absurd h h0
 rw [← adUp_s h2]; exact h1
theorem meErr_fl {l0 l1 : Rat} {n : Nat} {le mo ri : Rat} {m : Int} (h : meErr l0 l1 n le mo ri m = 0) : flErr l0 l1 n = 0 := by
 unfold meErr at h
 rcases Decidable.em (flErr l0 l1 n = 0) with h0 | h0
 ·
  exact h0
 ·
  rw [if_pos h0] at h; exact h
def RetII (a b : Int) (w : World) (e : Ending) (w' : World) : Prop := e = .returned (.tuple #[.int .i64 a, .int .i64 b]) ∧ Below w.heap.size w w'
set_option maxRecDepth 100000 in
set_option maxHeartbeats 8000000 in
theorem admit1_any (l0 l1 S le mo ri : Rat) (m : Int) (aq : List Rat) (k : Nat) (hk : k ≤ 256) (z : Int) (hz : min (max z 0) 256 = (k : Int)) (x1 x2 x3 y1 y2 y3 : R3) (aa : Option Addr) (ca bn bs ba bk tn ts ta tk : Nat) (w : World) (hx1 : IsRat w x1.val l0) (hx2 : IsRat w x2.val l1) (hS : IsRat w x3.val S) (ha : FrcsOf IsRat w (.slice aa aq.length ca) aq) (h1 : IsRat w y1.val le) (h2 : IsRat w y2.val mo) (h3 : IsRat w y3.val ri) (hl : aq.length ≤ 300) (s0 : szR l0 1000) (s1 : szR l1 1000) (sS : szR S 1000) (sa : ∀ i, szR (aq.getD i 0) 1000) (s4 : szR le 1000) (s5 : szR mo 1000) (s6 : szR ri 1000) (sF : ∀ i, szR (flUp S l0 l1 k aq i).1 1000 ∧ szR (flUp S l0 l1 k aq i).2 1000) (sT : ∀ i j, szR (((flR S l0 l1 k aq aq.length).getD i []).getD j 0) 1000)
  (hn : w.heap[bn]? = some (.cells #[.bool y1.b, .slice y1.a y1.n y1.c, .slice y1.d y1.m y1.e, .bool y2.b, .slice y2.a y2.n y2.c, .slice y2.d y2.m y2.e, .bool y3.b, .slice y3.a y3.n y3.c, .slice y3.d y3.m y3.e, .int .i64 m] tn (0, 0))) (hs : w.heap[bs]? = some (.cells #[.bool x3.b, .slice x3.a x3.n x3.c, .slice x3.d x3.m x3.e] ts (0, 0))) (hq : w.heap[ba]? = some (.cells #[.slice aa aq.length ca] ta (0, 0))) (hkk : w.heap[bk]? = some (.cells #[.int .i64 z] tk (0, 0))) :
  Calls Tryz.prog 59 #[.agg #[.bool x1.b, .slice x1.a x1.n x1.c, .slice x1.d x1.m x1.e, .bool x2.b, .slice x2.a x2.n x2.c, .slice x2.d x2.m x2.e], .pointer (some ⟨bn, 0, none⟩), .pointer (some ⟨bs, 0, none⟩), .pointer (some ⟨ba, 0, none⟩), .pointer (some ⟨bk, 0, none⟩)] w (RetBool (!mtOf S le mo ri m (flR S l0 l1 k aq aq.length)) w) := by
 have HS := Lib.hid (((((((Sx.init w).addP hx1).addP hx2).addP hS).addP h1).addP h2).addP h3)
 have SL0 := Lib.hid s0
 have SL1 := Lib.hid s1
 have SS := Lib.hid sS
 have SE := Lib.hid s4
 have SM := Lib.hid s5
 have SI := Lib.hid s6
 have HZA := Lib.hid sa
 have HZF := Lib.hid sF
 have HZT := Lib.hid sT
 have HK := Lib.hid hk
 have HZK := Lib.hid hz
 have HA := Lib.hid ha
 have HLE := Lib.hid hl
 have N0 := Lib.hid (blk_cell hn 0 (.bool y1.b) rfl)
 have N1 := Lib.hid (blk_cell hn 1 (.slice y1.a y1.n y1.c) rfl)
 have N2 := Lib.hid (blk_cell hn 2 (.slice y1.d y1.m y1.e) rfl)
 have N3 := Lib.hid (blk_cell hn 3 (.bool y2.b) rfl)
 have N4 := Lib.hid (blk_cell hn 4 (.slice y2.a y2.n y2.c) rfl)
 have N5 := Lib.hid (blk_cell hn 5 (.slice y2.d y2.m y2.e) rfl)
 have N6 := Lib.hid (blk_cell hn 6 (.bool y3.b) rfl)
 have N7 := Lib.hid (blk_cell hn 7 (.slice y3.a y3.n y3.c) rfl)
 have N8 := Lib.hid (blk_cell hn 8 (.slice y3.d y3.m y3.e) rfl)
 have N9 := Lib.hid (blk_cell hn 9 (.int .i64 m) rfl)
 have NL := Lib.hid (blk_lt hn)
 have T0 := Lib.hid (blk_cell hs 0 (.bool x3.b) rfl)
 have T1 := Lib.hid (blk_cell hs 1 (.slice x3.a x3.n x3.c) rfl)
 have T2 := Lib.hid (blk_cell hs 2 (.slice x3.d x3.m x3.e) rfl)
 have TL := Lib.hid (blk_lt hs)
 have A0 := Lib.hid (blk_cell hq 0 (.slice aa aq.length ca) rfl)
 have AL := Lib.hid (blk_lt hq)
 have K0 := Lib.hid (blk_cell hkk 0 (.int .i64 z) rfl)
 have KL := Lib.hid (blk_lt hkk)
 clear hx1 hx2 hS ha h1 h2 h3 s0 s1 sS s4 s5 s6 sa sF sT hk hz hl hn hs hq hkk
 go_enter Tryz.func59, Tryz.ntmps59
 go_wp2_with fail
 generalize hW1 : (w).alloc (.cells _ _) = W1 at *
 replace HS := Lib.hid (((HS.out).alloc (B := w.heap.size) rfl (by rfl)).to hW1 (by (try simp only [nb5, nb6]); rfl))
 clear hW1
 refine wp_region_held_drew (S := (fun w' => Sx w w' [(w.heap.size, arr6 x1 x2, 46)] [])) (by kernel_rfl) ((HS.out.drew).bare) (fun hh => ?_)
 replace HS := Lib.hid HS.out.drew
 refine tkB (i := 0) (v := ?vk3) rfl ?hk3 ?rk3
 case hk3 => intro u hSu; (try dsimp only at hSu); have Nc0 := (hSu.bel.cell (p := ⟨bn, 0, none⟩) NL.out).trans N0.out; have Nc1 := (hSu.bel.cell (p := ⟨bn, 1, none⟩) NL.out).trans N1.out; have Nc2 := (hSu.bel.cell (p := ⟨bn, 2, none⟩) NL.out).trans N2.out; have Nc3 := (hSu.bel.cell (p := ⟨bn, 3, none⟩) NL.out).trans N3.out; have Nc4 := (hSu.bel.cell (p := ⟨bn, 4, none⟩) NL.out).trans N4.out; have Nc5 := (hSu.bel.cell (p := ⟨bn, 5, none⟩) NL.out).trans N5.out; have Nc6 := (hSu.bel.cell (p := ⟨bn, 6, none⟩) NL.out).trans N6.out; have Nc7 := (hSu.bel.cell (p := ⟨bn, 7, none⟩) NL.out).trans N7.out; have Nc8 := (hSu.bel.cell (p := ⟨bn, 8, none⟩) NL.out).trans N8.out; have Nc9 := (hSu.bel.cell (p := ⟨bn, 9, none⟩) NL.out).trans N9.out; clear hSu; go_simp <;> with_reducible rfl
 try simp only [nbs, Act.put]
 refine tkB (i := 1) (v := ?vk4) rfl ?hk4 ?rk4
 case hk4 => intro u hSu; (try dsimp only at hSu); have Tc0 := (hSu.bel.cell (p := ⟨bs, 0, none⟩) TL.out).trans T0.out; have Tc1 := (hSu.bel.cell (p := ⟨bs, 1, none⟩) TL.out).trans T1.out; have Tc2 := (hSu.bel.cell (p := ⟨bs, 2, none⟩) TL.out).trans T2.out; clear hSu; go_simp <;> with_reducible rfl
 try simp only [nbs, Act.put]
 refine tkB (i := 2) (v := ?vk5) rfl ?hk5 ?rk5
 case hk5 => intro u hSu; (try dsimp only at hSu); obtain ⟨qb0c0, qb0c1, qb0c2, qb0c3, qb0c4, qb0c5, _⟩ := fac6 (x := x1) (y := x2) (hSu.at 0 _ _ _ rfl); clear hSu; go_simp <;> with_reducible rfl
 try simp only [nbs, Act.put]
 refine tkB (i := 3) (v := ?vk6) rfl ?hk6 ?rk6
 case hk6 => intro u hSu; (try dsimp only at hSu); have Tc0 := (hSu.bel.cell (p := ⟨bs, 0, none⟩) TL.out).trans T0.out; have Tc1 := (hSu.bel.cell (p := ⟨bs, 1, none⟩) TL.out).trans T1.out; have Tc2 := (hSu.bel.cell (p := ⟨bs, 2, none⟩) TL.out).trans T2.out; clear hSu; go_simp <;> with_reducible rfl
 try simp only [nbs, Act.put]
 refine tkB (i := 4) (v := ?vk7) rfl ?hk7 ?rk7
 case hk7 => intro u hSu; (try dsimp only at hSu); have Ac0 := (hSu.bel.cell (p := ⟨ba, 0, none⟩) AL.out).trans A0.out; clear hSu; go_simp <;> with_reducible rfl
 try simp only [nbs, Act.put]
 refine tkB (i := 5) (v := ?vk8) rfl ?hk8 ?rk8
 case hk8 => intro u hSu; (try dsimp only at hSu); have Kc0 := (hSu.bel.cell (p := ⟨bk, 0, none⟩) KL.out).trans K0.out; clear hSu; go_simp <;> with_reducible rfl
 try simp only [nbs, Act.put]
 refine rdA (i := 6) rfl (fun K hK => ?_)
 go_simp
 have a10 := HS.out.p 5 _ _ rfl
 have a11 := HS.out.p 4 _ _ rfl
 have a12 := HS.out.p 3 _ _ rfl
 go_wp2_with (go_at_call 61; (with_reducible refine (follow_any l0 l1 S aq k HK.out z HZK.out _ _ _ _ (rngP a10 a11) a12 (HA.out.bP HS.out.bel) HLE.out SL0.out SL1.out SS.out HZA.out HZF.out).mono ?_); rintro e w9 ⟨v9, rfl, hv9, hb9⟩; have HV9 := Lib.hid hv9; clear hv9)
 refine hK.out _ _ (Sx.below hh hb9) (fun hh => ?_)
 clear hK K
 try simp only [nbs, Act.put]
 replace HS := Lib.hid (HS.out.below hb9)
 clear hb9 a10 a11 a12
 refine rdA (i := 7) rfl (fun K hK => ?_)
 go_simp
 have a14 := HS.out.p 2 _ _ rfl
 have a15 := HS.out.p 1 _ _ rfl
 have a16 := HS.out.p 0 _ _ rfl
 have a17 := HS.out.p 3 _ _ rfl
 go_wp2_with (go_at_call 60; (with_reducible refine (nmeets_any S le mo ri m _ y1 y2 y3 _ _ _ a14 a15 a16 a17 HV9.out (by rw [flR_len]; exact HLE.out) SE.out SM.out SI.out SS.out HZT.out).mono ?_); rintro e w13 ⟨rfl, hb13⟩)
 refine hK.out _ _ (Sx.below hh hb13) (fun hh => ?_)
 clear hK K
 try simp only [nbs, Act.put]
 replace HS := Lib.hid (HS.out.below hb13)
 clear hb13 a14 a15 a16 a17
 cases t18 : (mtOf S le mo ri m (flR S l0 l1 k aq aq.length)) with
 | true =>
  refine tkB (i := 8) (v := ?vk19) rfl ?hk19 ?rk19
  case hk19 => intro u hSu; go_simp <;> with_reducible rfl
  try simp only [nbs, Act.put]
  refine tkB (i := 9) (v := ?vk20) rfl ?hk20 ?rk20
  case hk20 => intro u hSu; go_simp <;> with_reducible rfl
  try simp only [nbs, Act.put]
  refine wpAnyH_done (by kernel_rfl) ?_ _
  go_wp2_with fail
  have HR : Hid ((!mtOf S le mo ri m (flR S l0 l1 k aq aq.length)) = false) := by show _ = _; rw [t18]; rfl
  go_ret
  exact ⟨by rw [HR.out] <;> rfl, HS.out.bel⟩
 | false =>
  refine tkB (i := 8) (v := ?vk21) rfl ?hk21 ?rk21
  case hk21 => intro u hSu; go_simp <;> with_reducible rfl
  try simp only [nbs, Act.put]
  refine tkB (i := 9) (v := ?vk22) rfl ?hk22 ?rk22
  case hk22 => intro u hSu; go_simp <;> with_reducible rfl
  try simp only [nbs, Act.put]
  refine wpAnyH_done (by kernel_rfl) ?_ _
  go_wp2_with fail
  have HR : Hid ((!mtOf S le mo ri m (flR S l0 l1 k aq aq.length)) = true) := by show _ = _; rw [t18]; rfl
  go_ret
  exact ⟨by rw [HR.out] <;> rfl, HS.out.bel⟩
set_option maxRecDepth 100000 in
set_option maxHeartbeats 8000000 in
theorem indexF_any (ls : List (List Rat)) (f : Nat → Bool) (bn bs ba bk : Nat) (v : Value) (w : World) (h : RecsOf true 2 w v ls) (hl : ls.length ≤ 300) (hf : ∀ i (x y : R3), i < ls.length → ∀ W, Below w.heap.size w W → IsRat W x.val ((ls.getD i []).getD 0 0) → IsRat W y.val ((ls.getD i []).getD 1 0) → Calls Tryz.prog 59 #[.agg #[.bool x.b, .slice x.a x.n x.c, .slice x.d x.m x.e, .bool y.b, .slice y.a y.n y.c, .slice y.d y.m y.e], .pointer (some ⟨bn, 0, none⟩), .pointer (some ⟨bs, 0, none⟩), .pointer (some ⟨ba, 0, none⟩), .pointer (some ⟨bk, 0, none⟩)] W (RetBool (f i) W)) :
  Calls Tryz.prog 58 #[v, .func (.func 59) #[] #[.pointer (some ⟨bn, 0, none⟩), .pointer (some ⟨bs, 0, none⟩), .pointer (some ⟨ba, 0, none⟩), .pointer (some ⟨bk, 0, none⟩)]] w (RetInt (firstUp f ls.length) w) := by
 have HS := Lib.hid (Sx.init w)
 have HF := Lib.hid hf
 obtain ⟨al, cl, rfl, hE⟩ := h
 have HE := Lib.hid hE
 clear hE hf
 go_enter Tryz.func58, Tryz.ntmps58
 go_wp2_with fail
 go_loopw [8] (fun u8 wr => ∃ (i : Nat), i ≤ ls.length ∧ u8 = .int .i64 i ∧ Hid (firstUp f i = -1) ∧ Hid (Sx w wr [] []))
  (fun u _ => ls.length - (intOf u).toNat)
 case atStart => exact ⟨0, Nat.zero_le _, rfl, Lib.hid rfl, Lib.hid (HS.out.bare)⟩
 case round =>
  obtain ⟨wr1, hwr1⟩ : ∃ z, z = wr := ⟨_, rfl⟩
  subst hwr1
  clear HS
  obtain ⟨i, hi, rfl, HOK, HS⟩ := hrel
  by_cases hlt : i < ls.length
  ·
   have hlt' : (i : Int) < ls.length := by omega
   have hge' : (0 : Int) ≤ i := by omega
   have HLT := Lib.hid hlt
   obtain ⟨b, off, rfl, hbl, hEE⟩ := HE.out (by omega)
   have HBL := Lib.hid hbl
   obtain ⟨Tx, Tg0, Tg1, Tg2, Thx⟩ := hEE i hlt 0 (by omega)
   have T0 : Hid (w.cell? ⟨b, off + i * 6, none⟩ = some (.bool Tx.b)) := Tg0
   have T1 : Hid (w.cell? ⟨b, off + i * 6 + 1, none⟩ = some (.slice Tx.a Tx.n Tx.c)) := Tg1
   have T2 : Hid (w.cell? ⟨b, off + i * 6 + 2, none⟩ = some (.slice Tx.d Tx.m Tx.e)) := Tg2
   clear Tg0 Tg1 Tg2
   obtain ⟨Ty, Tg0, Tg1, Tg2, Thy⟩ := hEE i hlt 1 (by omega)
   have T3 : Hid (w.cell? ⟨b, off + i * 6 + 3, none⟩ = some (.bool Ty.b)) := Tg0
   have T4 : Hid (w.cell? ⟨b, off + i * 6 + 4, none⟩ = some (.slice Ty.a Ty.n Ty.c)) := Tg1
   have T5 : Hid (w.cell? ⟨b, off + i * 6 + 5, none⟩ = some (.slice Ty.d Ty.m Ty.e)) := Tg2
   clear Tg0 Tg1 Tg2
   replace HS := Lib.hid ((HS.out.addP (Fr.below Thx HS.out.bel)).addP (Fr.below Thy HS.out.bel))
   clear hbl hEE Thx Thy
   clear hlt
   have Tc0 := (HS.out.bel.cell (p := ⟨b, off + i * 6, none⟩) HBL.out).trans T0.out
   have Tc1 := (HS.out.bel.cell (p := ⟨b, off + i * 6 + 1, none⟩) HBL.out).trans T1.out
   have Tc2 := (HS.out.bel.cell (p := ⟨b, off + i * 6 + 2, none⟩) HBL.out).trans T2.out
   have Tc3 := (HS.out.bel.cell (p := ⟨b, off + i * 6 + 3, none⟩) HBL.out).trans T3.out
   have Tc4 := (HS.out.bel.cell (p := ⟨b, off + i * 6 + 4, none⟩) HBL.out).trans T4.out
   have Tc5 := (HS.out.bel.cell (p := ⟨b, off + i * 6 + 5, none⟩) HBL.out).trans T5.out
   go_wp2_with fail
   clear Tc0 Tc1 Tc2 Tc3 Tc4 Tc5
   cases t2 : f i with
   | true =>
    refine (HF.out i Tx Ty HLT.out _ HS.out.bel (HS.out.p 1 _ _ rfl) (HS.out.p 0 _ _ rfl)).mono ?_
    rw [t2]
    rintro e w3 ⟨rfl, hb3⟩
    replace HS := Lib.hid (HS.out.below hb3)
    clear hb3
    go_wp2_with fail
    have HR : Hid (firstUp f ls.length = i) := firstUp_at HOK.out t2 HLT.out
    go_ret
    exact ⟨by rw [HR.out] <;> rfl, HS.out.bel⟩
   | false =>
    refine (HF.out i Tx Ty HLT.out _ HS.out.bel (HS.out.p 1 _ _ rfl) (HS.out.p 0 _ _ rfl)).mono ?_
    rw [t2]
    rintro e w4 ⟨rfl, hb4⟩
    replace HS := Lib.hid (HS.out.below hb4)
    clear hb4
    go_wp2_with fail
    exact ⟨⟨i + 1, by have := HLT.out; omega, by go_num, Lib.hid (firstUp_next HOK.out t2), Lib.hid (HS.out.bare)⟩, meas_up HLT.out⟩
  ·
   obtain rfl : i = ls.length := by omega
   go_wp2_with fail
   have HR := HOK
   go_ret
   exact ⟨by rw [HR.out] <;> rfl, HS.out.bel⟩
set_option maxRecDepth 100000 in
set_option maxHeartbeats 8000000 in
theorem padmit_any (S le mo ri : Rat) (m : Int) (aq : List Rat) (ls : List (List Rat)) (k : Nat) (hk : k ≤ 256) (z : Int) (hz : min (max z 0) 256 = (k : Int)) (y1 y2 y3 : R3) (vl vS va : Value) (w : World) (hl0 : RecsOf true 2 w vl ls) (hS : IsRat w vS S) (ha : FrcsOf IsRat w va aq) (h1 : IsRat w y1.val le) (h2 : IsRat w y2.val mo) (h3 : IsRat w y3.val ri) (hl : aq.length ≤ 300) (sl : ∀ i j, szR ((ls.getD i []).getD j 0) 1000) (sS : szR S 1000) (sa : ∀ i, szR (aq.getD i 0) 1000) (s4 : szR le 1000) (s5 : szR mo 1000) (s6 : szR ri 1000) (sF : ∀ j, flErr ((ls.getD j []).getD 0 0) ((ls.getD j []).getD 1 0) aq.length = 0 → ∀ i, szR (flUp S ((ls.getD j []).getD 0 0) ((ls.getD j []).getD 1 0) k aq i).1 1000 ∧ szR (flUp S ((ls.getD j []).getD 0 0) ((ls.getD j []).getD 1 0) k aq i).2 1000) (sT : ∀ j, flErr ((ls.getD j []).getD 0 0) ((ls.getD j []).getD 1 0) aq.length = 0 → ∀ i n, szR (((flR S ((ls.getD j []).getD 0 0) ((ls.getD j []).getD 1 0) k aq aq.length).getD i []).getD n 0) 1000) :
  Calls Tryz.prog 16 #[vl, vS, va, .agg #[.bool y1.b, .slice y1.a y1.n y1.c, .slice y1.d y1.m y1.e, .bool y2.b, .slice y2.a y2.n y2.c, .slice y2.d y2.m y2.e, .bool y3.b, .slice y3.a y3.n y3.c, .slice y3.d y3.m y3.e, .int .i64 m], .int .i64 z] w (RetII (adIx S le mo ri m k aq ls (adErr aq.length le mo ri m ls)) (adErr aq.length le mo ri m ls) w) := by
 obtain ⟨x3, rfl⟩ := hS.open3
 have HS := Lib.hid (((((Sx.init w).addP hS).addP h1).addP h2).addP h3)
 have SS := Lib.hid sS
 have SE := Lib.hid s4
 have SM := Lib.hid s5
 have SI := Lib.hid s6
 have HZA := Lib.hid sa
 have HZL := Lib.hid sl
 have HZF := Lib.hid sF
 have HZT := Lib.hid sT
 have HK := Lib.hid hk
 have HZK := Lib.hid hz
 have HA := Lib.hid ha
 have HLE := Lib.hid hl
 have HR0 := Lib.hid hl0
 obtain ⟨aa, ca, rfl, _⟩ := ha
 obtain ⟨al, cl, rfl, hE⟩ := hl0
 have HE := Lib.hid hE
 clear hS h1 h2 h3 sS s4 s5 s6 sa sl sF sT hk hz hl hE
 by_cases h1 : ls.length < 1
 ·
  have HR : Hid (adErr aq.length le mo ri m ls = 4) := by show _ = _; unfold adErr; rw [if_pos (by omega)]
  have t1 : decide ((ls.length : Int) < 1) = true := decide_eq_true (by omega)
  have t1b : decide (ls.length < 1) = true := decide_eq_true (by omega)
  go_enter Tryz.func16, Tryz.ntmps16
  go_wp2_with fail
  generalize hW1 : ((((w).alloc (.cells _ _)).alloc (.cells _ _)).alloc (.cells _ _)).alloc (.cells _ _) = W1 at *
  replace HS := Lib.hid ((((((HS.out).alloc (B := w.heap.size) rfl (by rfl)).alloc (B := w.heap.size + 1) (by simp) (by rfl)).alloc (B := w.heap.size + 2) (by simp) (by rfl)).alloc (B := w.heap.size + 3) (by simp) (by rfl)).to hW1 (by (try simp only [nb5, nb6]); rfl))
  clear hW1
  go_ret2
  exact (by rw [HR.out]; exact ⟨by unfold adIx; rw [if_neg (by decide)] <;> rfl, HS.out.bel⟩)
 by_cases h2 : 64 < ls.length
 ·
  have HR : Hid (adErr aq.length le mo ri m ls = 4) := by show _ = _; unfold adErr; rw [if_pos (by omega)]
  have t1 : decide ((ls.length : Int) < 1) = false := decide_eq_false (by omega)
  have t1b : decide (ls.length < 1) = false := decide_eq_false (by omega)
  have t2 : decide ((ls.length : Int) > 64) = true := decide_eq_true (by omega)
  have t2b : decide (64 < ls.length) = true := decide_eq_true (by omega)
  go_enter Tryz.func16, Tryz.ntmps16
  go_wp2_with fail
  generalize hW2 : ((((w).alloc (.cells _ _)).alloc (.cells _ _)).alloc (.cells _ _)).alloc (.cells _ _) = W2 at *
  replace HS := Lib.hid ((((((HS.out).alloc (B := w.heap.size) rfl (by rfl)).alloc (B := w.heap.size + 1) (by simp) (by rfl)).alloc (B := w.heap.size + 2) (by simp) (by rfl)).alloc (B := w.heap.size + 3) (by simp) (by rfl)).to hW2 (by (try simp only [nb5, nb6]); rfl))
  clear hW2
  go_ret2
  exact (by rw [HR.out]; exact ⟨by unfold adIx; rw [if_neg (by decide)] <;> rfl, HS.out.bel⟩)
 ·
  have HLN : Hid (¬ ls.length < 1 ∧ ¬ 64 < ls.length) := ⟨h1, h2⟩
  have t1 : decide ((ls.length : Int) < 1) = false := decide_eq_false (by omega)
  have t1b : decide (ls.length < 1) = false := decide_eq_false (by omega)
  have t2 : decide ((ls.length : Int) > 64) = false := decide_eq_false (by omega)
  have t2b : decide (64 < ls.length) = false := decide_eq_false (by omega)
  go_enter Tryz.func16, Tryz.ntmps16
  go_wp2_with fail
  generalize hW3 : ((((w).alloc (.cells _ _)).alloc (.cells _ _)).alloc (.cells _ _)).alloc (.cells _ _) = W3 at *
  replace HS := Lib.hid ((((((HS.out).alloc (B := w.heap.size) rfl (by rfl)).alloc (B := w.heap.size + 1) (by simp) (by rfl)).alloc (B := w.heap.size + 2) (by simp) (by rfl)).alloc (B := w.heap.size + 3) (by simp) (by rfl)).to hW3 (by (try simp only [nb5, nb6]); rfl))
  clear hW3
  go_loopw [26] (fun u26 wr => ∃ (i : Nat), i ≤ ls.length ∧ u26 = .int .i64 i ∧ Hid (adUp aq.length le mo ri m ls i = 0) ∧ Hid (Sx w wr [(w.heap.size + 3, #[.int .i64 z], 3), (w.heap.size + 2, #[.bool y1.b, .slice y1.a y1.n y1.c, .slice y1.d y1.m y1.e, .bool y2.b, .slice y2.a y2.n y2.c, .slice y2.d y2.m y2.e, .bool y3.b, .slice y3.a y3.n y3.c, .slice y3.d y3.m y3.e, .int .i64 m], 56), (w.heap.size + 1, #[.slice aa aq.length ca], 28), (w.heap.size, x3.arr, 41)] [(true, y3.val, ri), (true, y2.val, mo), (true, y1.val, le), (true, x3.val, S)]))
   (fun u _ => ls.length - (intOf u).toNat)
  case atStart => exact ⟨0, Nat.zero_le _, rfl, Lib.hid rfl, Lib.hid (((((HS.out.bare).addP (HS.out.p 3 _ _ rfl)).addP (HS.out.p 2 _ _ rfl)).addP (HS.out.p 1 _ _ rfl)).addP (HS.out.p 0 _ _ rfl))⟩
  case round =>
   obtain ⟨wr4, hwr4⟩ : ∃ z, z = wr := ⟨_, rfl⟩
   subst hwr4
   clear HS
   obtain ⟨i, hi, rfl, HOK, HS⟩ := hrel
   by_cases hlt : i < ls.length
   ·
    have hlt' : (i : Int) < ls.length := by omega
    have hge' : (0 : Int) ≤ i := by omega
    have HLT := Lib.hid hlt
    obtain ⟨b, off, rfl, hbl, hEE⟩ := HE.out (by omega)
    have HBL := Lib.hid hbl
    obtain ⟨Tx, Tg0, Tg1, Tg2, Thx⟩ := hEE i hlt 0 (by omega)
    have T0 : Hid (w.cell? ⟨b, off + i * 6, none⟩ = some (.bool Tx.b)) := Tg0
    have T1 : Hid (w.cell? ⟨b, off + i * 6 + 1, none⟩ = some (.slice Tx.a Tx.n Tx.c)) := Tg1
    have T2 : Hid (w.cell? ⟨b, off + i * 6 + 2, none⟩ = some (.slice Tx.d Tx.m Tx.e)) := Tg2
    clear Tg0 Tg1 Tg2
    obtain ⟨Ty, Tg0, Tg1, Tg2, Thy⟩ := hEE i hlt 1 (by omega)
    have T3 : Hid (w.cell? ⟨b, off + i * 6 + 3, none⟩ = some (.bool Ty.b)) := Tg0
    have T4 : Hid (w.cell? ⟨b, off + i * 6 + 4, none⟩ = some (.slice Ty.a Ty.n Ty.c)) := Tg1
    have T5 : Hid (w.cell? ⟨b, off + i * 6 + 5, none⟩ = some (.slice Ty.d Ty.m Ty.e)) := Tg2
    clear Tg0 Tg1 Tg2
    replace HS := Lib.hid ((HS.out.addP (Fr.below Thx HS.out.bel)).addP (Fr.below Thy HS.out.bel))
    clear hbl hEE Thx Thy
    have SL0 := Lib.hid (HZL.out i 0)
    have SL1 := Lib.hid (HZL.out i 1)
    have HAS := Lib.hid (adUp_s HOK.out)
    generalize (ls.getD i []).getD 0 0 = l0 at *
    generalize (ls.getD i []).getD 1 0 = l1 at *
    clear hlt
    have b1e := (HS.out.at 2 _ _ _ rfl)
    have b1c0 := blk_cell b1e 0 (.slice aa aq.length ca) rfl
    have b1f0 := blk_frozen b1e 0
    have b1l := blk_lt b1e
    clear b1e
    have Tc0 := (HS.out.bel.cell (p := ⟨b, off + i * 6, none⟩) HBL.out).trans T0.out
    have Tc1 := (HS.out.bel.cell (p := ⟨b, off + i * 6 + 1, none⟩) HBL.out).trans T1.out
    have Tc2 := (HS.out.bel.cell (p := ⟨b, off + i * 6 + 2, none⟩) HBL.out).trans T2.out
    have Tc3 := (HS.out.bel.cell (p := ⟨b, off + i * 6 + 3, none⟩) HBL.out).trans T3.out
    have Tc4 := (HS.out.bel.cell (p := ⟨b, off + i * 6 + 4, none⟩) HBL.out).trans T4.out
    have Tc5 := (HS.out.bel.cell (p := ⟨b, off + i * 6 + 5, none⟩) HBL.out).trans T5.out
    go_wp2_with fail
    clear b1c0 b1f0 b1l Tc0 Tc1 Tc2 Tc3 Tc4 Tc5
    generalize hW5 : (wr4).alloc (.cells _ _) = W5 at *
    replace HS := Lib.hid (((HS.out).alloc (B := wr4.heap.size) rfl (by rfl)).to hW5 (by (try simp only [nb5, nb6]); rfl))
    clear hW5
    by_cases hz6 : flErr l0 l1 aq.length = 0
    ·
     have HZ6 := Lib.hid hz6
     clear hz6
     refine (tcheck_any l0 l1 aq.length _ _ _ _ (rngP (HS.out.p 1 _ _ rfl) (HS.out.p 0 _ _ rfl)) SL1.out).mono ?_
     rw [HZ6.out]
     rintro e w7 ⟨rfl, hb7⟩
     replace HS := Lib.hid (HS.out.below hb7)
     clear hb7
     have b2e := (HS.out.at 2 _ _ _ rfl)
     have b2c0 := blk_cell b2e 0 (.bool y1.b) rfl
     have b2c1 := blk_cell b2e 1 (.slice y1.a y1.n y1.c) rfl
     have b2c2 := blk_cell b2e 2 (.slice y1.d y1.m y1.e) rfl
     have b2c3 := blk_cell b2e 3 (.bool y2.b) rfl
     have b2c4 := blk_cell b2e 4 (.slice y2.a y2.n y2.c) rfl
     have b2c5 := blk_cell b2e 5 (.slice y2.d y2.m y2.e) rfl
     have b2c6 := blk_cell b2e 6 (.bool y3.b) rfl
     have b2c7 := blk_cell b2e 7 (.slice y3.a y3.n y3.c) rfl
     have b2c8 := blk_cell b2e 8 (.slice y3.d y3.m y3.e) rfl
     have b2c9 := blk_cell b2e 9 (.int .i64 m) rfl
     have b2f0 := blk_frozen b2e 0
     have b2f1 := blk_frozen b2e 1
     have b2f2 := blk_frozen b2e 2
     have b2f3 := blk_frozen b2e 3
     have b2f4 := blk_frozen b2e 4
     have b2f5 := blk_frozen b2e 5
     have b2f6 := blk_frozen b2e 6
     have b2f7 := blk_frozen b2e 7
     have b2f8 := blk_frozen b2e 8
     have b2f9 := blk_frozen b2e 9
     have b2l := blk_lt b2e
     clear b2e
     go_wp2_with fail
     clear b2c0 b2c1 b2c2 b2c3 b2c4 b2c5 b2c6 b2c7 b2c8 b2c9 b2f0 b2f1 b2f2 b2f3 b2f4 b2f5 b2f6 b2f7 b2f8 b2f9 b2l
     by_cases hz8 : ndErr le mo ri m = 0
     ·
      have HZ8 := Lib.hid hz8
      clear hz8
      refine (ncheck_any le mo ri m y1 y2 y3 _ (HS.out.p 4 _ _ rfl) (HS.out.p 3 _ _ rfl) (HS.out.p 2 _ _ rfl) SE.out SM.out SI.out).mono ?_
      rw [HZ8.out]
      rintro e w9 ⟨rfl, hb9⟩
      replace HS := Lib.hid (HS.out.below hb9)
      clear hb9
      go_wp2_with fail
      exact ⟨⟨i + 1, by have := HLT.out; omega, by go_num, (by show _ = _; rw [HAS.out]; unfold meErr; rw [if_neg (by rw [HZ6.out]; simp), HZ8.out]), Lib.hid ((((((HS.out).erase 0).addP (HS.out.p 5 _ _ rfl)).addP (HS.out.p 4 _ _ rfl)).addP (HS.out.p 3 _ _ rfl)).addP (HS.out.p 2 _ _ rfl))⟩, meas_up HLT.out⟩
     ·
      obtain ⟨er8, her8⟩ : ∃ c, c = ndErr le mo ri m := ⟨_, rfl⟩
      have HER8 := Lib.hid her8
      rw [← her8] at hz8
      have en8 : (er8 == 0) = false := beq_eq_false_iff_ne.2 hz8
      have eo8 : (er8 != 0) = true := bne_iff_ne.2 hz8
      have ep8 : decide (er8 = 0) = false := decide_eq_false hz8
      have HNZ8 := Lib.hid hz8
      clear her8 hz8
      refine (ncheck_any le mo ri m y1 y2 y3 _ (HS.out.p 4 _ _ rfl) (HS.out.p 3 _ _ rfl) (HS.out.p 2 _ _ rfl) SE.out SM.out SI.out).mono ?_
      rw [← HER8.out]
      rintro e w10 ⟨rfl, hb10⟩
      replace HS := Lib.hid (HS.out.below hb10)
      clear hb10
      go_wp2_with fail
      have HE1 : Hid (adUp aq.length le mo ri m ls (i + 1) = er8) := by show _ = _; rw [HAS.out]; unfold meErr; rw [if_neg (by rw [HZ6.out]; simp), ← HER8.out]
      have HR : Hid (adErr aq.length le mo ri m ls = er8) := by show _ = _; unfold adErr; rw [if_neg (by have := HLN.out; omega), adUp_stay (i := i + 1) (by rw [HE1.out]; exact HNZ8.out) HLT.out, HE1.out]
      go_ret2
      exact (by rw [HR.out]; exact ⟨by unfold adIx; rw [if_neg HNZ8.out] <;> rfl, HS.out.bel⟩)
    ·
     obtain ⟨er6, her6⟩ : ∃ c, c = flErr l0 l1 aq.length := ⟨_, rfl⟩
     have HER6 := Lib.hid her6
     rw [← her6] at hz6
     have en6 : (er6 == 0) = false := beq_eq_false_iff_ne.2 hz6
     have eo6 : (er6 != 0) = true := bne_iff_ne.2 hz6
     have ep6 : decide (er6 = 0) = false := decide_eq_false hz6
     have HNZ6 := Lib.hid hz6
     clear her6 hz6
     refine (tcheck_any l0 l1 aq.length _ _ _ _ (rngP (HS.out.p 1 _ _ rfl) (HS.out.p 0 _ _ rfl)) SL1.out).mono ?_
     rw [← HER6.out]
     rintro e w11 ⟨rfl, hb11⟩
     replace HS := Lib.hid (HS.out.below hb11)
     clear hb11
     go_wp2_with fail
     have HE1 : Hid (adUp aq.length le mo ri m ls (i + 1) = er6) := by show _ = _; rw [HAS.out]; unfold meErr; rw [← HER6.out, if_pos HNZ6.out]
     have HR : Hid (adErr aq.length le mo ri m ls = er6) := by show _ = _; unfold adErr; rw [if_neg (by have := HLN.out; omega), adUp_stay (i := i + 1) (by rw [HE1.out]; exact HNZ6.out) HLT.out, HE1.out]
     go_ret2
     exact (by rw [HR.out]; exact ⟨by unfold adIx; rw [if_neg HNZ6.out] <;> rfl, HS.out.bel⟩)
   ·
    obtain rfl : i = ls.length := by omega
    have HR : Hid (adErr aq.length le mo ri m ls = 0) := by show _ = _; unfold adErr; rw [if_neg (by have := HLN.out; omega)]; exact HOK.out
    go_wp2_with fail
    refine (indexF_any ls (adBad S le mo ri m k aq ls) _ _ _ _ _ _ (HR0.out.below HS.out.bel) (by have := HLN.out; omega) (fun i x y hi W hb hx hy => admit1_any _ _ S le mo ri m aq k HK.out z HZK.out x y x3 y1 y2 y3 aa ca _ _ _ _ _ _ _ _ W hx hy ((HS.out.p 3 _ _ rfl).below hb) ((HA.out.bP HS.out.bel).bP hb) ((HS.out.p 2 _ _ rfl).below hb) ((HS.out.p 1 _ _ rfl).below hb) ((HS.out.p 0 _ _ rfl).below hb) HLE.out (HZL.out i 0) (HZL.out i 1) SS.out HZA.out SE.out SM.out SI.out (HZF.out i (meErr_fl (adUp_zero HOK.out i hi))) (HZT.out i (meErr_fl (adUp_zero HOK.out i hi))) (blk_keep (HS.out.at 1 _ _ _ rfl) hb (blk_lt (HS.out.at 1 _ _ _ rfl))) (blk_keep (HS.out.at 3 _ _ _ rfl) hb (blk_lt (HS.out.at 3 _ _ _ rfl))) (blk_keep (HS.out.at 2 _ _ _ rfl) hb (blk_lt (HS.out.at 2 _ _ _ rfl))) (blk_keep (HS.out.at 0 _ _ _ rfl) hb (blk_lt (HS.out.at 0 _ _ _ rfl))))).mono ?_
    rintro e w12 ⟨rfl, hb12⟩
    replace HS := Lib.hid (HS.out.below hb12)
    clear hb12
    go_wp2_with fail
    go_ret2
    exact (by rw [HR.out]; exact ⟨by unfold adIx; rw [if_pos rfl] <;> rfl, HS.out.bel⟩)
end Go.Proofs.YtfjcccpibhhncaaGreat
