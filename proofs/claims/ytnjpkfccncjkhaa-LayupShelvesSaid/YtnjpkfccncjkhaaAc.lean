/- Part c of the lemmas and walks. -/
import Derived.Test.YtnjpkfccncjkhaaAb

namespace Go.Proofs.Ytnjpkfccncjkhaa
open Go.RowKit

set_option maxHeartbeats 2000000 in
theorem negRat_any (x : Rat) (vx : Value) (w : World) (hx : IsRat w vx x) : Calls Try.prog 96 #[vx] w (RetRat (-x) w) := by
 obtain ⟨a1, c1, a2, c2, rfl, n1, n2⟩ := hx.opened
 have N1 := Lib.hid n1
 have N2 := Lib.hid n2
 have He := Lib.hid (neg_lt_num x)
 clear hx n1 n2
 go_enter Try.func96, Try.ntmps96
 go_wp2_with fail
 generalize hneg : decide (x.num < 0) = neg at *
 have hal : Below w.heap.size w ((w.alloc (.cells #[.bool neg, .slice a1 (dig b64 x.num.natAbs).length c1, .slice a2 (dig b64 (dn x.den)).length c2] 45)).alloc (.cells #[.bool false, .slice none 0 0, .slice none 0 0] 45)) :=
  ((Below.refl _ _).alloc (Nat.le_refl _) _).alloc (by simp) _
 have hB1 := (blk_keep (blk_new w #[.bool neg, .slice a1 (dig b64 x.num.natAbs).length c1, .slice a2 (dig b64 (dn x.den)).length c2] 45) ((Below.refl _ _).alloc (Nat.le_refl _) (.cells #[.bool false, .slice none 0 0, .slice none 0 0] 45)) (by simp))
 have hB2 := blk_new (w.alloc (.cells #[.bool neg, .slice a1 (dig b64 x.num.natAbs).length c1, .slice a2 (dig b64 (dn x.den)).length c2] 45)) #[.bool false, .slice none 0 0, .slice none 0 0] 45
 rw [World.size_alloc] at hB2
 generalize ((w.alloc (.cells #[.bool neg, .slice a1 (dig b64 x.num.natAbs).length c1, .slice a2 (dig b64 (dn x.den)).length c2] 45)).alloc (.cells #[.bool false, .slice none 0 0, .slice none 0 0] 45)) = W at *
 have p0 := blk_cell hB1 0 (.bool neg) rfl
 have p1 := blk_cell hB1 1 (.slice a1 (dig b64 x.num.natAbs).length c1) rfl
 have p2 := blk_cell hB1 2 (.slice a2 (dig b64 (dn x.den)).length c2) rfl
 have hl1 := blk_lt hB1
 have hl2 := blk_lt hB2
 have e0 := blk_cell hB2 0 (.bool false) rfl
 have e1 := blk_cell hB2 1 (.slice none 0 0) rfl
 have e2 := blk_cell hB2 2 (.slice none 0 0) rfl
 have f0 := blk_frozen hB2 0
 have f1 := blk_frozen hB2 1
 have f2 := blk_frozen hB2 2
 have HB : Hid (RB W (w.heap.size + 1)) := ⟨false, none, 0, 0, none, 0, 0, _, hB2⟩
 clear hB1 hB2
 have hW : Below w.heap.size w W.drew := hal.drew
 cases neg with
 | true =>
  go_region
  go_wp2_with fail
  refine bodyPost_ret (v := .agg #[.bool false, .slice a1 (dig b64 x.num.natAbs).length _, .slice a2 (dig b64 (dn x.den)).length _]) (by simp [results, Try.results96, go_sem, e0, e1, e2]; first | done | exact ⟨rfl, rfl⟩ | rfl) rfl ⟨_, rfl, ?_, below_store3 hW (by omega)⟩
  exact IsRat.stored (w := W.drew) HB.out (N1.out.below hW) (N2.out.below hW) He.out (natAbs_neg_num x)
 | false =>
  by_cases h0 : x.num.natAbs = 0
  ·
   have t0 : Hid (decide (x.num.natAbs = 0) = true) := decide_eq_true h0
   clear h0
   go_region_held3 (fun w' => Below w.heap.size w w' ∧ RB w' (w.heap.size + 1) ∧ w'.cell? ⟨w.heap.size, 0, none⟩ = some (.bool false) ∧ w'.cell? ⟨w.heap.size, 1, none⟩ = some (.slice a1 (dig b64 x.num.natAbs).length c1) ∧ w'.cell? ⟨w.heap.size, 2, none⟩ = some (.slice a2 (dig b64 (dn x.den)).length c2) ∧
     w'.cell? ⟨w.heap.size + 1, 0, none⟩ = some (cellOf w' ⟨w.heap.size + 1, 0, none⟩) ∧ w'.cell? ⟨w.heap.size + 1, 1, none⟩ = some (cellOf w' ⟨w.heap.size + 1, 1, none⟩) ∧ w'.cell? ⟨w.heap.size + 1, 2, none⟩ = some (cellOf w' ⟨w.heap.size + 1, 2, none⟩) ∧
     w'.frozen? ⟨w.heap.size + 1, 0, none⟩ = false ∧ w'.frozen? ⟨w.heap.size + 1, 1, none⟩ = false ∧ w'.frozen? ⟨w.heap.size + 1, 2, none⟩ = false)
    (first | exact hold3 hW p0 p1 p2 HB.out | exact hold3_call (Nat.le_refl _) hb' (by assumption) | exact hold3_store _ _ _ _ _ _ _ (Nat.le_succ _) (Nat.ne_of_lt (Nat.lt_succ_self _)) (by assumption) _ rfl)
    (first | (go_at_call 39; refine (zero_any _ _ x.num.natAbs _ _ _ _ _).mono ?_; rw [t0.out]; rintro e w' ⟨rfl, hb'⟩))
   have hRB := RB.keep (a := W.drew) HB.out hb' hl2
   obtain ⟨c0, c1, c2, f0', f1', f2'⟩ := hRB.cell
   have hx := hW.trans (hb'.mono hW.size)
   have hBl := hRB.lt
   go_wp2_with fail
   refine bodyPost_ret (v := .agg #[.bool false, .slice a1 (dig b64 x.num.natAbs).length _, .slice a2 (dig b64 (dn x.den)).length _]) (by simp [results, Try.results96, go_sem, c0, c1, c2]; first | done | exact ⟨rfl, rfl⟩ | rfl) rfl ⟨_, rfl, ?_, below_store3 hx (by omega)⟩
   exact IsRat.stored hRB (N1.out.below hx) (N2.out.below hx) (by rw [He.out, t0.out]; rfl) (natAbs_neg_num x)
  ·
   have t0 : Hid (decide (x.num.natAbs = 0) = false) := decide_eq_false h0
   clear h0
   go_region_held3 (fun w' => Below w.heap.size w w' ∧ RB w' (w.heap.size + 1) ∧ w'.cell? ⟨w.heap.size, 0, none⟩ = some (.bool false) ∧ w'.cell? ⟨w.heap.size, 1, none⟩ = some (.slice a1 (dig b64 x.num.natAbs).length c1) ∧ w'.cell? ⟨w.heap.size, 2, none⟩ = some (.slice a2 (dig b64 (dn x.den)).length c2) ∧
     w'.cell? ⟨w.heap.size + 1, 0, none⟩ = some (cellOf w' ⟨w.heap.size + 1, 0, none⟩) ∧ w'.cell? ⟨w.heap.size + 1, 1, none⟩ = some (cellOf w' ⟨w.heap.size + 1, 1, none⟩) ∧ w'.cell? ⟨w.heap.size + 1, 2, none⟩ = some (cellOf w' ⟨w.heap.size + 1, 2, none⟩) ∧
     w'.frozen? ⟨w.heap.size + 1, 0, none⟩ = false ∧ w'.frozen? ⟨w.heap.size + 1, 1, none⟩ = false ∧ w'.frozen? ⟨w.heap.size + 1, 2, none⟩ = false)
    (first | exact hold3 hW p0 p1 p2 HB.out | exact hold3_call (Nat.le_refl _) hb' (by assumption) | exact hold3_store _ _ _ _ _ _ _ (Nat.le_succ _) (Nat.ne_of_lt (Nat.lt_succ_self _)) (by assumption) _ rfl)
    (first | (go_at_call 39; refine (zero_any _ _ x.num.natAbs _ _ _ _ _).mono ?_; rw [t0.out]; rintro e w' ⟨rfl, hb'⟩))
   have hRB := RB.keep (a := W.drew) HB.out hb' hl2
   obtain ⟨c0, c1, c2, f0', f1', f2'⟩ := hRB.cell
   have hx := hW.trans (hb'.mono hW.size)
   have hBl := hRB.lt
   go_wp2_with fail
   refine bodyPost_ret (v := .agg #[.bool true, .slice a1 (dig b64 x.num.natAbs).length _, .slice a2 (dig b64 (dn x.den)).length _]) (by simp [results, Try.results96, go_sem, c0, c1, c2]; first | done | exact ⟨rfl, rfl⟩ | rfl) rfl ⟨_, rfl, ?_, below_store3 hx (by omega)⟩
   exact IsRat.stored hRB (N1.out.below hx) (N2.out.below hx) (by rw [He.out, t0.out]; rfl) (natAbs_neg_num x)

set_option maxRecDepth 100000 in
theorem method_neg (b : Bool) (x y : Option Addr) (i j k l : Nat) (w : World) : (method 245 45 (.agg #[.bool b, .slice x i j, .slice y k l]) "Neg").run Try.prog w = .ok (96, .agg #[.bool b, .slice x i j, .slice y k l]) w := by kernel_rfl
set_option maxRecDepth 100000 in
theorem method_add (b : Bool) (x y : Option Addr) (i j k l : Nat) (w : World) : (method 245 45 (.agg #[.bool b, .slice x i j, .slice y k l]) "Add").run Try.prog w = .ok (26, .agg #[.bool b, .slice x i j, .slice y k l]) w := by kernel_rfl

set_option maxRecDepth 100000 in
set_option maxHeartbeats 4000000 in
theorem lessRat_any (x y : Rat) (vx vy : Value) (w : World) (hx : IsRat w vx x) (hy : IsRat w vy y) (hlx : szR x 68719476736) (hly : szR y 68719476736) : Calls Try.prog 46 #[vx, vy] w (RetRat (x - y) w) := by
 have hy0 := hy
 obtain ⟨a1, c1, a2, c2, rfl, n1, n2⟩ := hx.opened
 obtain ⟨a3, c3, a4, c4, rfl, n3, n4⟩ := hy.opened
 have HX := Lib.hid hx
 have HY := Lib.hid hy
 have HLX := Lib.hid hlx
 have hln : szR (-y) 68719476736 := ⟨by rw [natAbs_neg_num]; exact hly.1, hly.2⟩
 have HLY := Lib.hid hln
 have He : Hid (x + -y = x - y) := (Rat.sub_eq_add_neg x y).symm
 clear hx hy n1 n2 n3 n4 hlx hly hln hy0
 have hmn := method_neg
 have hma := method_add
 go_enter Try.func46, Try.ntmps46
 go_wp2_with fail
 generalize hsx : decide (x.num < 0) = sx at *
 generalize hsy : decide (y.num < 0) = sy at *
 clear hsx hsy
 generalize hW0 : ((w.alloc (.cells #[.bool sx, .slice a1 (dig b64 x.num.natAbs).length c1, .slice a2 (dig b64 (dn x.den)).length c2] 45)).alloc (.cells #[.bool sy, .slice a3 (dig b64 y.num.natAbs).length c3, .slice a4 (dig b64 (dn y.den)).length c4] 45)).alloc (.cells #[.bool false, .slice none 0 0, .slice none 0 0] 45) = W at *
 obtain ⟨hal, hB1, hB2, hB3⟩ := boxes3 w _ _ _ _ W hW0.symm
 clear hW0
 have hW : Below w.heap.size w W.drew := hal.drew
 have p0 := blk_cell hB1 0 (.bool sx) rfl
 have p1 := blk_cell hB1 1 (.slice a1 (dig b64 x.num.natAbs).length c1) rfl
 have p2 := blk_cell hB1 2 (.slice a2 (dig b64 (dn x.den)).length c2) rfl
 have r0 := blk_cell hB2 0 (.bool sy) rfl
 have r1 := blk_cell hB2 1 (.slice a3 (dig b64 y.num.natAbs).length c3) rfl
 have r2 := blk_cell hB2 2 (.slice a4 (dig b64 (dn y.den)).length c4) rfl
 have HB : Hid (RB W (w.heap.size + 2)) := ⟨false, none, 0, 0, none, 0, 0, _, hB3⟩
 have hl3 := blk_lt hB3
 clear hB1 hB2 hB3
 go_region_held3 (fun w' => Below w.heap.size w w' ∧ RB w' (w.heap.size + 2) ∧ w'.cell? ⟨w.heap.size, 0, none⟩ = some (.bool sx) ∧ w'.cell? ⟨w.heap.size, 1, none⟩ = some (.slice a1 (dig b64 x.num.natAbs).length c1) ∧ w'.cell? ⟨w.heap.size, 2, none⟩ = some (.slice a2 (dig b64 (dn x.den)).length c2) ∧ w'.cell? ⟨w.heap.size + 1, 0, none⟩ = some (.bool sy) ∧ w'.cell? ⟨w.heap.size + 1, 1, none⟩ = some (.slice a3 (dig b64 y.num.natAbs).length c3) ∧ w'.cell? ⟨w.heap.size + 1, 2, none⟩ = some (.slice a4 (dig b64 (dn y.den)).length c4) ∧ w'.cell? ⟨w.heap.size + 2, 0, none⟩ = some (cellOf w' ⟨w.heap.size + 2, 0, none⟩) ∧ w'.cell? ⟨w.heap.size + 2, 1, none⟩ = some (cellOf w' ⟨w.heap.size + 2, 1, none⟩) ∧ w'.cell? ⟨w.heap.size + 2, 2, none⟩ = some (cellOf w' ⟨w.heap.size + 2, 2, none⟩) ∧ w'.frozen? ⟨w.heap.size + 2, 0, none⟩ = false ∧ w'.frozen? ⟨w.heap.size + 2, 1, none⟩ = false ∧ w'.frozen? ⟨w.heap.size + 2, 2, none⟩ = false)
  (first | exact hold6 hW p0 p1 p2 r0 r1 r2 HB.out | exact hold6_call (Nat.le_refl _) hbE (by assumption) | exact hold6_call (Nat.le_refl _) hbD (by assumption) | exact hold6_store _ _ _ _ _ _ _ (by omega) (by omega) (by omega) (by assumption) _ rfl)
  (first
   | (go_at_call 96; refine (negRat_any y _ _ (HY.out.below (And.left (by assumption)))).mono ?_; rintro e wD ⟨vD, rfl, hvD, hbD⟩)
   | (go_at_call 26; refine (addRat_any x (-y) _ _ _ (HX.out.below (And.left (by assumption))) hvD HLX.out HLY.out).mono ?_; rw [He.out]; rintro e wE ⟨vE, rfl, hvE, hbE⟩; obtain ⟨a5, c5, a6, c6, rfl, n5, n6⟩ := IsRat.opened hvE))
 have hE := ext_trans hbD hbE
 have hRB := RB.keep (a := W.drew) HB.out hE hl3
 obtain ⟨g0, g1, g2, f0', f1', f2'⟩ := hRB.cell
 have hx := hW.trans (hE.mono hW.size)
 have hBl := hRB.lt
 go_wp2_with fail
 refine bodyPost_ret (v := .agg #[.bool (decide ((x - y).num < 0)), .slice a5 (dig b64 (x - y).num.natAbs).length _, .slice a6 (dig b64 (dn (x - y).den)).length _]) (by simp [results, Try.results46, go_sem, g0, g1, g2]; first | done | exact ⟨rfl, rfl⟩ | rfl) rfl ⟨_, rfl, ?_, below_store3 hx (by omega)⟩
 exact IsRat.stored hRB n5 n6 rfl rfl

set_option maxRecDepth 100000 in
set_option maxHeartbeats 2000000 in
theorem subRat_any (x y : Rat) (vx vy : Value) (w : World) (hx : IsRat w vx x) (hy : IsRat w vy y) (hlx : szR x 68719476736) (hly : szR y 68719476736) : Calls Try.prog 28 #[vx, vy] w (RetRat (x - y) w) := by
 obtain ⟨a1, c1, a2, c2, rfl, n1, n2⟩ := hx.opened
 obtain ⟨a3, c3, a4, c4, rfl, n3, n4⟩ := hy.opened
 have HX := Lib.hid hx
 have HY := Lib.hid hy
 have HLX := Lib.hid hlx
 have HLY := Lib.hid hly
 clear hx hy n1 n2 n3 n4 hlx hly
 go_enter Try.func28, Try.ntmps28
 go_wp2_with fail
 generalize hW0 : ((w.alloc (.cells #[.bool (decide (x.num < 0)), .slice a1 (dig b64 x.num.natAbs).length c1, .slice a2 (dig b64 (dn x.den)).length c2] 45)).alloc (.cells #[.bool (decide (y.num < 0)), .slice a3 (dig b64 y.num.natAbs).length c3, .slice a4 (dig b64 (dn y.den)).length c4] 45)).alloc (.cells #[.bool false, .slice none 0 0, .slice none 0 0] 45) = W at *
 obtain ⟨hal, hB1, hB2, hB3⟩ := boxes3 w _ _ _ _ W hW0.symm
 clear hW0
 have HB : Hid (RB W (w.heap.size + 2)) := ⟨false, none, 0, 0, none, 0, 0, _, hB3⟩
 have hl3 := blk_lt hB3
 clear hB1 hB2 hB3
 refine (lessRat_any x y _ _ _ (HX.out.below hal) (HY.out.below hal) HLX.out HLY.out).mono ?_
 rintro e w3 ⟨v, rfl, hv, hb⟩
 have hRB := HB.out.keep hb hl3
 obtain ⟨a5, c5, a6, c6, rfl, n5, n6⟩ := IsRat.opened hv
 have hx := ext_trans hal hb
 obtain ⟨g0, g1, g2, f0', f1', f2'⟩ := hRB.cell
 have hBl := hRB.lt
 generalize x - y = q at *
 clear hv hb hal
 go_wp2_with fail
 refine bodyPost_ret (v := .agg #[.bool (decide (q.num < 0)), .slice a5 (dig b64 q.num.natAbs).length _, .slice a6 (dig b64 (dn q.den)).length _]) (by simp [results, Try.results28, go_sem, g0, g1, g2]; first | done | exact ⟨rfl, rfl⟩ | rfl) rfl ⟨_, rfl, ?_, below_store3 hx (by omega)⟩
 exact IsRat.stored hRB n5 n6 rfl rfl

end Go.Proofs.Ytnjpkfccncjkhaa

namespace Go.Proofs.Ytnjpkfccncjkhaa
open Go.RowKit

set_option maxHeartbeats 2000000 in
theorem lwhole_any (n : Int) (w : World) (h1 : -9223372036854775808 ≤ n) (h2 : n ≤ 9223372036854775807) : Calls Try.prog 30 #[.int .i64 n] w (RetRat (n : Rat) w) := by
 go_enter Try.func30, Try.ntmps30
 go_wp2_with fail
 refine (int_any n _ h1 h2).mono ?_
 rintro e w1 ⟨v, rfl, hv, hb⟩
 have hB1 := blk_keep (blk_new w #[.bool false, .slice none 0 0, .slice none 0 0] 45) hb (by simp)
 have hRB : RB w1 w.heap.size := ⟨false, none, 0, 0, none, 0, 0, _, hB1⟩
 obtain ⟨a5, c5, a6, c6, rfl, n5, n6⟩ := IsRat.opened hv
 have hx : Below w.heap.size w w1 := ((Below.refl _ _).alloc (Nat.le_refl _) _).trans (hb.mono (by simp))
 obtain ⟨g0, g1, g2, f0', f1', f2'⟩ := hRB.cell
 have hBl := hRB.lt
 generalize (n : Rat) = q at *
 go_wp2_with fail
 refine bodyPost_ret (v := .agg #[.bool (decide (q.num < 0)), .slice a5 (dig b64 q.num.natAbs).length _, .slice a6 (dig b64 (dn q.den)).length _]) (by simp [results, Try.results30, go_sem, g0, g1, g2]; first | done | exact ⟨rfl, rfl⟩ | rfl) rfl ⟨_, rfl, ?_, below_store3 hx (by omega)⟩
 exact IsRat.stored hRB n5 n6 rfl rfl

theorem i64_szR (n : Int) (h1 : -9223372036854775808 ≤ n) (h2 : n ≤ 9223372036854775807) (k : Nat) (hk : 1 ≤ k) : szR (n : Rat) k := szR_mono (szR_int (k := 1) (by rw [Nat.pow_one]; unfold b64; omega) (Nat.le_refl _)) hk
set_option maxHeartbeats 2000000 in
theorem lproduct_any (a b : Int) (w : World) (ha : -9223372036854775808 ≤ a ∧ a ≤ 9223372036854775807) (hb : -9223372036854775808 ≤ b ∧ b ≤ 9223372036854775807) : Calls Try.prog 38 #[.int .i64 a, .int .i64 b] w (RetRat ((a * b : Int) : Rat) w) := by
 have Hsa := Lib.hid (i64_szR a ha.1 ha.2 68719476736 (by omega))
 have Hsb := Lib.hid (i64_szR b hb.1 hb.2 68719476736 (by omega))
 go_enter Try.func38, Try.ntmps38
 go_wp2_with fail
 refine (lwhole_any a _ ha.1 ha.2).mono ?_
 rintro e w1 ⟨va, rfl, hva, hb1⟩
 go_wp2_with fail
 refine (lwhole_any b _ hb.1 hb.2).mono ?_
 rintro e w2 ⟨vb, rfl, hvb, hb2⟩
 go_wp2_with fail
 refine (mulRat_any (a : Rat) (b : Rat) _ _ _ (hva.below hb2) hvb Hsa.out Hsb.out).mono ?_
 rw [← Rat.intCast_mul]
 rintro e w3 ⟨v, rfl, hv, hb3⟩
 have hB1 := blk_keep (blk_keep (blk_keep (blk_new w #[.bool false, .slice none 0 0, .slice none 0 0] 45) hb1 (by simp)) hb2 (Nat.lt_of_lt_of_le (by simp) hb1.size)) hb3 (Nat.lt_of_lt_of_le (by simp) (Nat.le_trans hb1.size hb2.size))
 have hRB : RB w3 w.heap.size := ⟨false, none, 0, 0, none, 0, 0, _, hB1⟩
 obtain ⟨a5, c5, a6, c6, rfl, n5, n6⟩ := IsRat.opened hv
 have hx : Below w.heap.size w w3 := ((Below.refl _ _).alloc (Nat.le_refl _) _).trans ((ext_trans hb1 (ext_trans hb2 hb3)).mono (by simp))
 clear hva hvb hv hb1 hb2 hb3 hB1
 obtain ⟨g0, g1, g2, f0', f1', f2'⟩ := hRB.cell
 have hBl := hRB.lt
 generalize ((a * b : Int) : Rat) = q at *
 go_wp2_with fail
 refine bodyPost_ret (v := .agg #[.bool (decide (q.num < 0)), .slice a5 (dig b64 q.num.natAbs).length _, .slice a6 (dig b64 (dn q.den)).length _]) (by simp [results, Try.results38, go_sem, g0, g1, g2]; first | done | exact ⟨rfl, rfl⟩ | rfl) rfl ⟨_, rfl, ?_, below_store3 hx (by omega)⟩
 exact IsRat.stored hRB n5 n6 rfl rfl

set_option maxHeartbeats 1000000 in
theorem within_any (n lo hi : Int) (w : World) : Calls Try.prog 15 #[.int .i64 n, .int .i64 lo, .int .i64 hi] w (RetBool (inL n lo hi) w) := by
 by_cases h1 : lo ≤ n
 ·
  by_cases h2 : n ≤ hi
  ·
   have Hr : Hid (inL n lo hi = true) := by show _ = _; simp [inL, h1, h2]
   have t1 : decide (n ≥ lo) = true := decide_eq_true h1
   have t2 : decide (n ≤ hi) = true := decide_eq_true h2
   clear h1 h2
   go_enter Try.func15, Try.ntmps15
   go_wp2_with fail
   go_ret
   exact ⟨by rw [Hr.out]; rfl, Below.refl _ _⟩
  ·
   have Hr : Hid (inL n lo hi = false) := by show _ = _; simp [inL, h1, h2]
   have t1 : decide (n ≥ lo) = true := decide_eq_true h1
   have t2 : decide (n ≤ hi) = false := decide_eq_false h2
   clear h1 h2
   go_enter Try.func15, Try.ntmps15
   go_wp2_with fail
   go_ret
   exact ⟨by rw [Hr.out]; rfl, Below.refl _ _⟩
 ·
  have Hr : Hid (inL n lo hi = false) := by show _ = _; simp [inL, h1]
  have t1 : decide (n ≥ lo) = false := decide_eq_false h1
  clear h1
  go_enter Try.func15, Try.ntmps15
  go_wp2_with fail
  go_ret
  exact ⟨by rw [Hr.out]; rfl, Below.refl _ _⟩

set_option maxRecDepth 100000 in
set_option maxHeartbeats 2000000 in
theorem isRight_any (l : List Pt) (v : Value) (w : World) (h : PairsOf w v l) (hl : l.length ≤ 4611686018427387904) : Calls Try.prog 23 #[v] w (RetBool (ptsOk l) w) := by
 obtain ⟨ao, cap, rfl, hE⟩ := h
 have HE := Lib.hid hE
 clear hE
 go_enter Try.func23, Try.ntmps23
 go_wp2_with fail
 go_loopw [7] (fun iv wr => ∃ (i : Nat), i ≤ l.length ∧ iv = .int .i64 i ∧ ptsOk (l.take i) = true ∧ Below w.heap.size w wr) (fun iv _ => l.length - (intOf iv).toNat)
 case atStart => exact ⟨0, Nat.zero_le _, rfl, rfl, Below.refl _ _⟩
 case round =>
  obtain ⟨i, hi, rfl, hok, hbel⟩ := hrel
  have HOK := Lib.hid hok
  clear hok
  by_cases hlt : i < l.length
  ·
   obtain ⟨b, off, rfl, hbl, hLL⟩ := HE.out (by omega)
   obtain ⟨g0, g1⟩ := (hLL i hlt).below hbel hbl
   have hlt' : (i : Int) < l.length := by omega
   have hge' : (0 : Int) ≤ i := by omega
   have hbl2 : b < wr.heap.size := Nat.lt_of_lt_of_le hbl hbel.size
   have Htk := Lib.hid (ptsOk_take l i hlt)
   have Hnot : Hid (ptOk (ptAt l i) = false → ptsOk l = false) := fun h => by
    cases h2 : ptsOk l with
    | false => rfl
    | true => rw [ptsOk_get h2 i hlt] at h; cases h
   have hpo : ptOk (ptAt l i) = (inL (l.getD i (0, 0)).1 (-4398046511104) 4398046511104 && inL (l.getD i (0, 0)).2 (-4398046511104) 4398046511104) := rfl
   generalize ptOk (ptAt l i) = pk at *
   have Hpo := Lib.hid hpo
   clear hpo hLL
   have hN := blk_new wr #[.int .i64 (l.getD i (0, 0)).1, .int .i64 (l.getD i (0, 0)).2] 36
   have hx := (Below.refl wr.heap.size wr).alloc (Nat.le_refl _) (.cells #[.int .i64 (l.getD i (0, 0)).1, .int .i64 (l.getD i (0, 0)).2] 36)
   generalize (l.getD i (0, 0)).1 = x at *
   generalize (l.getD i (0, 0)).2 = y at *
   go_wp2_with fail
   refine (within_any x _ _ _).mono ?_
   rintro e w2 ⟨rfl, hb2⟩
   have hN2 := blk_keep hN hb2 (blk_lt hN)
   have c1 := blk_cell hN2 1 (.int .i64 y) rfl
   have hx2 := ext_trans (ext_trans hbel hx) hb2
   generalize inL x (-4398046511104) 4398046511104 = p at *
   clear g0 g1 hN hN2 hb2 hx
   cases p with
   | false =>
    have Hf := Lib.hid (Hnot.out (by rw [Hpo.out]; rfl))
    go_wp2_with fail
    go_ret
    exact ⟨by rw [Hf.out]; rfl, hx2⟩
   | true =>
    go_wp2_with fail
    refine (within_any y _ _ _).mono ?_
    rintro e w3 ⟨rfl, hb3⟩
    generalize inL y (-4398046511104) 4398046511104 = q at *
    have hx3 := ext_trans hx2 hb3
    cases q with
    | false =>
     have Hf := Lib.hid (Hnot.out (by rw [Hpo.out]; rfl))
     go_wp2_with fail
     go_ret
     exact ⟨by rw [Hf.out]; rfl, hx3⟩
    | true =>
     have Ht : Hid (ptsOk (l.take (i + 1)) = true) := by show _ = _; rw [Htk.out, HOK.out, Hpo.out]; rfl
     go_wp2_with fail
     exact ⟨⟨i + 1, by omega, by go_num, Ht.out, hx3⟩, meas_up hlt⟩
  ·
   obtain rfl : i = l.length := by omega
   rw [List.take_length] at HOK
   go_wp2_with fail
   go_ret
   exact ⟨by rw [HOK.out]; rfl, hbel⟩

theorem boxesP (w : World) (A1 A2 A3 A4 : Array Value) (T T4 : Nat) (W : World) (hW : W = (((w.alloc (.cells A1 T)).alloc (.cells A2 T)).alloc (.cells A3 T)).alloc (.cells A4 T4)) :
  Below w.heap.size w W ∧ W.heap[w.heap.size]? = some (.cells A1 T (0, 0)) ∧ W.heap[w.heap.size + 1]? = some (.cells A2 T (0, 0)) ∧ W.heap[w.heap.size + 2]? = some (.cells A3 T (0, 0)) ∧ W.heap[w.heap.size + 3]? = some (.cells A4 T4 (0, 0)) := by
 obtain ⟨h0, h1, h2, h3⟩ := boxes3 w A1 A2 A3 T _ rfl
 subst hW
 have hs : (((w.alloc (.cells A1 T)).alloc (.cells A2 T)).alloc (.cells A3 T)).heap.size = w.heap.size + 3 := by simp
 generalize ((w.alloc (.cells A1 T)).alloc (.cells A2 T)).alloc (.cells A3 T) = W3 at *
 refine ⟨h0.alloc h0.size _, ?_, ?_, ?_, ?_⟩
 ·
  rw [heap_alloc_old _ _ (by omega)]; exact h1
 ·
  rw [heap_alloc_old _ _ (by omega)]; exact h2
 ·
  rw [heap_alloc_old _ _ (by omega)]; exact h3
 ·
  rw [← hs]; exact blk_new W3 A4 T4
def HP (n : Nat) (w0 : World) (B1 B2 B3 B : Nat) (v0 v1 v2 v3 v4 v5 : Value) (a : World) : Prop :=
 Below n w0 a ∧ RB a B ∧ a.cell? ⟨B1, 0, none⟩ = some v0 ∧ a.cell? ⟨B1, 1, none⟩ = some v1 ∧ a.cell? ⟨B2, 0, none⟩ = some v2 ∧ a.cell? ⟨B2, 1, none⟩ = some v3 ∧ a.cell? ⟨B3, 0, none⟩ = some v4 ∧ a.cell? ⟨B3, 1, none⟩ = some v5 ∧
  a.cell? ⟨B, 0, none⟩ = some (cellOf a ⟨B, 0, none⟩) ∧ a.cell? ⟨B, 1, none⟩ = some (cellOf a ⟨B, 1, none⟩) ∧ a.cell? ⟨B, 2, none⟩ = some (cellOf a ⟨B, 2, none⟩) ∧ a.frozen? ⟨B, 0, none⟩ = false ∧ a.frozen? ⟨B, 1, none⟩ = false ∧ a.frozen? ⟨B, 2, none⟩ = false
theorem holdP {n : Nat} {w0 a : World} {B1 B2 B3 B : Nat} {v0 v1 v2 v3 v4 v5 : Value} (h0 : Below n w0 a) (h1 : a.cell? ⟨B1, 0, none⟩ = some v0) (h2 : a.cell? ⟨B1, 1, none⟩ = some v1) (h3 : a.cell? ⟨B2, 0, none⟩ = some v2)
  (h4 : a.cell? ⟨B2, 1, none⟩ = some v3) (h5 : a.cell? ⟨B3, 0, none⟩ = some v4) (h6 : a.cell? ⟨B3, 1, none⟩ = some v5) (hB : RB a B) : HP n w0 B1 B2 B3 B v0 v1 v2 v3 v4 v5 a := ⟨h0, hB, h1, h2, h3, h4, h5, h6, hB.cell⟩
theorem holdP_call {n : Nat} {w0 a b : World} {B1 B2 B3 B : Nat} {v0 v1 v2 v3 v4 v5 : Value} (hn : n ≤ w0.heap.size) (hb : Below a.heap.size a b) (h : HP n w0 B1 B2 B3 B v0 v1 v2 v3 v4 v5 a) : HP n w0 B1 B2 B3 B v0 v1 v2 v3 v4 v5 b := by
 obtain ⟨h0, hB, h1, h2, h3, h4, h5, h6, _⟩ := h
 have e : ∀ B1 j v, a.cell? ⟨B1, j, none⟩ = some v → b.cell? ⟨B1, j, none⟩ = some v := fun B1 j v h => (hb.cell (p := ⟨B1, j, none⟩) (World.block_lt_of_cell? (h := h))).trans h
 have hs := h0.size
 exact holdP (h0.trans (hb.mono (by omega))) (e _ _ _ h1) (e _ _ _ h2) (e _ _ _ h3) (e _ _ _ h4) (e _ _ _ h5) (e _ _ _ h6) (hB.keep hb hB.lt)
theorem holdP_store {n : Nat} {w0 a : World} {B1 B2 B3 B : Nat} {v0 v1 v2 v3 v4 v5 : Value} (neg : Bool) (x1 y1 : Option Addr) (i1 j1 k1 l1 : Nat) (hn : n ≤ B) (hne : B1 ≠ B) (hne2 : B2 ≠ B) (hne3 : B3 ≠ B)
  (h : HP n w0 B1 B2 B3 B v0 v1 v2 v3 v4 v5 a) (b : World) (hb : b = ((a.setCell ⟨B, 0, none⟩ (.bool neg)).setCell ⟨B, 1, none⟩ (.slice x1 i1 j1)).setCell ⟨B, 2, none⟩ (.slice y1 k1 l1)) : HP n w0 B1 B2 B3 B v0 v1 v2 v3 v4 v5 b := by
 obtain ⟨h0, hB, h1, h2, h3, h4, h5, h6, _⟩ := h
 subst hb
 have e : ∀ B1 j v, B1 ≠ B → a.cell? ⟨B1, j, none⟩ = some v → (((a.setCell ⟨B, 0, none⟩ (.bool neg)).setCell ⟨B, 1, none⟩ (.slice x1 i1 j1)).setCell ⟨B, 2, none⟩ (.slice y1 k1 l1)).cell? ⟨B1, j, none⟩ = some v := fun B1 j v hne h => by
  rw [World.cell?_setCell_other, World.cell?_setCell_other, World.cell?_setCell_other, h]
  all_goals intro e; cases e; exact hne rfl
 exact holdP (below_store3 h0 hn) (e _ _ _ hne h1) (e _ _ _ hne h2) (e _ _ _ hne2 h3) (e _ _ _ hne2 h4) (e _ _ _ hne3 h5) (e _ _ _ hne3 h6) (hB.store ..)
theorem sub_far {a b : Int} (ha : -far ≤ a ∧ a ≤ far) (hb : -far ≤ b ∧ b ≤ far) : IntKind.i64.wrap (a - b) = a - b ∧ (-9223372036854775808 ≤ a - b ∧ a - b ≤ 9223372036854775807) ∧ (-8796093022208 ≤ a - b ∧ a - b ≤ 8796093022208) := by
 unfold far at *
 exact ⟨IntWalk.i64_in _ (by omega), by omega, by omega⟩
theorem prod_szR {a b : Int} (ha : -8796093022208 ≤ a ∧ a ≤ 8796093022208) (hb : -8796093022208 ≤ b ∧ b ≤ 8796093022208) : szR ((a * b : Int) : Rat) 68719476736 := by
 have := mul_absI ha hb
 refine szR_mono (szR_int (k := 2) ?_ (by omega)) (by omega)
 have e : b64 ^ 2 = 340282366920938463463374607431768211456 := by unfold b64; omega
 rw [e]
 omega

set_option maxRecDepth 100000 in
set_option maxHeartbeats 4000000 in
theorem cross_any (a b c : Pt) (w : World) (ha : ptOk a = true) (hb : ptOk b = true) (hc : ptOk c = true) : Calls Try.prog 24 #[.agg #[.int .i64 a.1, .int .i64 a.2], .agg #[.int .i64 b.1, .int .i64 b.2], .agg #[.int .i64 c.1, .int .i64 c.2]] w (RetRat ((crossI a b c : Int) : Rat) w) := by
 have ra := ptOk_range ha
 have rb := ptOk_range hb
 have rc := ptOk_range hc
 obtain ⟨e1, r1, s1⟩ := sub_far rb.1 ra.1
 obtain ⟨d1, hd1⟩ : ∃ d, d = b.1 - a.1 := ⟨_, rfl⟩
 rw [← hd1] at r1 s1
 replace e1 : IntKind.i64.wrap (b.1 - a.1) = d1 := by rw [hd1]; exact e1
 obtain ⟨e2, r2, s2⟩ := sub_far rc.2 ra.2
 obtain ⟨d2, hd2⟩ : ∃ d, d = c.2 - a.2 := ⟨_, rfl⟩
 rw [← hd2] at r2 s2
 replace e2 : IntKind.i64.wrap (c.2 - a.2) = d2 := by rw [hd2]; exact e2
 obtain ⟨e3, r3, s3⟩ := sub_far rb.2 ra.2
 obtain ⟨d3, hd3⟩ : ∃ d, d = b.2 - a.2 := ⟨_, rfl⟩
 rw [← hd3] at r3 s3
 replace e3 : IntKind.i64.wrap (b.2 - a.2) = d3 := by rw [hd3]; exact e3
 obtain ⟨e4, r4, s4⟩ := sub_far rc.1 ra.1
 obtain ⟨d4, hd4⟩ : ∃ d, d = c.1 - a.1 := ⟨_, rfl⟩
 rw [← hd4] at r4 s4
 replace e4 : IntKind.i64.wrap (c.1 - a.1) = d4 := by rw [hd4]; exact e4
 have Hs1 := Lib.hid (prod_szR s1 s2)
 have Hs2 := Lib.hid (prod_szR s3 s4)
 have He : Hid ((((d1 * d2 : Int) : Rat)) - (((d3 * d4 : Int) : Rat)) = ((crossI a b c : Int) : Rat)) := by
  show _ = _
  rw [← Rat.intCast_sub, hd1, hd2, hd3, hd4]
  rfl
 have R1 := Lib.hid r1
 have R2 := Lib.hid r2
 have R3 := Lib.hid r3
 have R4 := Lib.hid r4
 generalize hI : ((crossI a b c : Int) : Rat) = Q at *
 clear ha hb hc ra rb rc r1 s1 hd1 r2 s2 hd2 r3 s3 hd3 r4 s4 hd4 hI
 generalize a.1 = ax at *
 generalize a.2 = ay at *
 generalize b.1 = bx at *
 generalize b.2 = by' at *
 generalize c.1 = cx at *
 generalize c.2 = cy at *
 go_enter Try.func24, Try.ntmps24
 go_wp2_with fail
 generalize hW0 : (((w.alloc (.cells #[.int .i64 ax, .int .i64 ay] 36)).alloc (.cells #[.int .i64 bx, .int .i64 by'] 36)).alloc (.cells #[.int .i64 cx, .int .i64 cy] 36)).alloc (.cells #[.bool false, .slice none 0 0, .slice none 0 0] 45) = W at *
 obtain ⟨hal, hB1, hB2, hB3, hB4⟩ := boxesP w _ _ _ _ _ _ W hW0.symm
 clear hW0
 have hW : Below w.heap.size w W.drew := hal.drew
 have p0 := blk_cell hB1 0 (.int .i64 ax) rfl
 have p1 := blk_cell hB1 1 (.int .i64 ay) rfl
 have p2 := blk_cell hB2 0 (.int .i64 bx) rfl
 have p3 := blk_cell hB2 1 (.int .i64 by') rfl
 have p4 := blk_cell hB3 0 (.int .i64 cx) rfl
 have p5 := blk_cell hB3 1 (.int .i64 cy) rfl
 have HB : Hid (RB W (w.heap.size + 3)) := ⟨false, none, 0, 0, none, 0, 0, _, hB4⟩
 have hl3 := blk_lt hB4
 clear hB1 hB2 hB3 hB4
 go_region_held3 (fun w' => Below w.heap.size w w' ∧ RB w' (w.heap.size + 3) ∧ w'.cell? ⟨w.heap.size, 0, none⟩ = some (.int .i64 ax) ∧ w'.cell? ⟨w.heap.size, 1, none⟩ = some (.int .i64 ay) ∧ w'.cell? ⟨w.heap.size + 1, 0, none⟩ = some (.int .i64 bx) ∧ w'.cell? ⟨w.heap.size + 1, 1, none⟩ = some (.int .i64 by') ∧ w'.cell? ⟨w.heap.size + 2, 0, none⟩ = some (.int .i64 cx) ∧ w'.cell? ⟨w.heap.size + 2, 1, none⟩ = some (.int .i64 cy) ∧ w'.cell? ⟨w.heap.size + 3, 0, none⟩ = some (cellOf w' ⟨w.heap.size + 3, 0, none⟩) ∧ w'.cell? ⟨w.heap.size + 3, 1, none⟩ = some (cellOf w' ⟨w.heap.size + 3, 1, none⟩) ∧ w'.cell? ⟨w.heap.size + 3, 2, none⟩ = some (cellOf w' ⟨w.heap.size + 3, 2, none⟩) ∧ w'.frozen? ⟨w.heap.size + 3, 0, none⟩ = false ∧ w'.frozen? ⟨w.heap.size + 3, 1, none⟩ = false ∧ w'.frozen? ⟨w.heap.size + 3, 2, none⟩ = false)
  (first | exact holdP hW p0 p1 p2 p3 p4 p5 HB.out | exact holdP_call (Nat.le_refl _) hbC (by assumption) | exact holdP_call (Nat.le_refl _) hbB (by assumption) | exact holdP_call (Nat.le_refl _) hbA (by assumption) | exact holdP_store _ _ _ _ _ _ _ (by omega) (by omega) (by omega) (by omega) (by assumption) _ rfl)
  (first
   | (go_at_call_of 38 (Value.int .i64 d1); refine (lproduct_any d1 d2 _ R1.out R2.out).mono ?_; rintro e wA ⟨vA, rfl, hvA, hbA⟩)
   | (go_at_call_of 38 (Value.int .i64 d3); refine (lproduct_any d3 d4 _ R3.out R4.out).mono ?_; rintro e wB ⟨vB, rfl, hvB, hbB⟩)
   | (go_at_call 28; refine (subRat_any _ _ _ _ _ (hvA.below hbB) hvB Hs1.out Hs2.out).mono ?_; rw [He.out]; rintro e wC ⟨vC, rfl, hvC, hbC⟩; obtain ⟨a5, c5, a6, c6, rfl, n5, n6⟩ := IsRat.opened hvC))
 have hE := ext_trans (ext_trans hbA hbB) hbC
 have hRB := RB.keep (a := W.drew) HB.out hE hl3
 have hx := hW.trans (hE.mono hW.size)
 obtain ⟨g0, g1, g2, f0', f1', f2'⟩ := hRB.cell
 have hBl := hRB.lt
 go_wp2_with fail
 refine bodyPost_ret (v := .agg #[.bool (decide (Q.num < 0)), .slice a5 (dig b64 Q.num.natAbs).length _, .slice a6 (dig b64 (dn Q.den)).length _]) (by simp [results, Try.results24, go_sem, g0, g1, g2]; first | done | exact ⟨rfl, rfl⟩ | rfl) rfl ⟨_, rfl, ?_, below_store3 hx (by omega)⟩
 exact IsRat.stored hRB n5 n6 rfl rfl

end Go.Proofs.Ytnjpkfccncjkhaa

namespace Go.Proofs.Ytnjpkfccncjkhaa
open Go.RowKit

structure KeepCells (B : Nat) (W W' : World) : Prop where
 size : W.heap.size ≤ W'.heap.size
 same : ∀ (k : Nat) (o : Obj), k ≠ B → W.heap[k]? = some o → o.isCells = true → W'.heap[k]? = some o
def KpU (n B : Nat) (W W' : World) : Prop := Below n W W' ∧ KeepCells B W W'
theorem KpU.trans {n B : Nat} {X Y Z : World} (h : KpU n B X Y) (k : KpU n B Y Z) : KpU n B X Z :=
 ⟨h.1.trans k.1, Nat.le_trans h.2.size k.2.size, fun i o hB hi ho => k.2.same i o hB (h.2.same i o hB hi ho) ho⟩
theorem KpU.boxed {n B : Nat} {X Y : World} (h : KpU n B X Y) {b : Nat} {t : TypeId} {v : Value} (hb : Boxed X b t v) (hne : b ≠ B) : Boxed Y b t v := h.2.same b _ hne hb rfl
end Go.Proofs.Ytnjpkfccncjkhaa

namespace Go.Proofs.Ytnjpkfccncjkhaa
open Go.RowKit Go.Shelf

attribute [local go_sem] Oper.semAt_some

theorem below_join {w a b : World} (h : Below w.heap.size w a) (k : Below a.heap.size a b) : Below w.heap.size w b := ext_trans h k
end Go.Proofs.Ytnjpkfccncjkhaa

namespace Go.Proofs.Ytnjpkfccncjkhaa
open Go.RowKit Go.Shelf

attribute [local go_sem] Oper.semAt_some

theorem KeepCells.alloc (B : Nat) (W : World) (o : Obj) : KeepCells B W (W.alloc o) :=
 ⟨by simp, fun k o2 _ hk _ => (Below.heap_alloc W o k (Array.getElem?_eq_some_iff.1 hk).1).trans hk⟩
theorem KeepCells.set (B : Nat) (W : World) (v : Value) : KeepCells B W (W.setCell ⟨B, 0, none⟩ v) :=
 ⟨by simp, fun k o2 hB hk _ => (Below.heap_setCell W _ v k hB).trans hk⟩
theorem KeepCells.drewN (B : Nat) (W : World) (n : Nat) : KeepCells B W (W.drewN n) := ⟨Nat.le_refl _, fun k o2 _ hk _ => hk⟩
theorem KeepCells.setN (B : Nat) (W : World) (n : Nat) (v : Value) : KeepCells B W ((W.drewN n).setCell ⟨B, 0, none⟩ v) := ⟨(KeepCells.set B (W.drewN n) v).size, fun k o2 hB hk ho => (KeepCells.set B (W.drewN n) v).same k o2 hB hk ho⟩

end Go.Proofs.Ytnjpkfccncjkhaa

namespace Go.Proofs.Ytnjpkfccncjkhaa
open Go.RowKit

def rdCells : List (Int × Nat) → List Value
 | [] => []
 | r :: l => .int .i64 r.1 :: .float .f32 r.2 :: rdCells l
theorem rdCells_get (ls : List (Int × Nat)) : ∀ i, i < ls.length → (rdCells ls)[i * 2]? = some (.int .i64 (ls.getD i (0, 0)).1) ∧ (rdCells ls)[i * 2 + 1]? = some (.float .f32 (ls.getD i (0, 0)).2) := by
 induction ls with
 | nil => intro i hi; simp at hi
 | cons r l ih =>
  intro i hi
  cases i with
  | zero => simp [rdCells]
  | succ i =>
   have := ih i (by simpa using hi)
   simpa [rdCells, Nat.succ_mul] using this
theorem LogOf.ofRow {w : World} {base : Nat} {e : TypeId} {v : Value} {ls : List (Int × Nat)} (h : LRow w base e 2 v ls.length (rdCells ls)) : LogOf w v ls := by
 rcases Nat.eq_zero_or_pos ls.length with h0 | hp
 ·
  rcases h.1.2 with ⟨rfl, _⟩ | ⟨g, cap, cur, rfl, _⟩
  ·
   exact ⟨none, 0, by rw [h0], fun h => absurd h (by omega)⟩
  ·
   exact ⟨_, _, rfl, fun h => absurd h (by omega)⟩
 ·
  obtain ⟨g, cap, rfl⟩ := ownsRow_some h.1 hp
  have hc : ∀ j u, (rdCells ls)[j]? = some u → w.cell? ((⟨g, 0, none⟩ : Addr).add j) = some u := h.1.cells (g := g) rfl
  have hlt : g < w.heap.size := (h.lt rfl).1
  refine ⟨_, _, rfl, fun _ => ⟨g, 0, rfl, hlt, fun i hi => ?_⟩⟩
  obtain ⟨h0, h1⟩ := rdCells_get ls i hi
  have ea : ∀ j, (⟨g, 0, none⟩ : Addr).add j = ⟨g, 0 + j, none⟩ := fun j => by unfold Addr.add; split <;> simp_all
  refine ⟨?_, ?_⟩
  ·
   rw [← ea]; exact hc _ _ h0
  ·
   rw [show 0 + i * 2 + 1 = 0 + (i * 2 + 1) by omega, ← ea]; exact hc _ _ h1
theorem cell_new2 (w : World) (a b : Value) (t : TypeId) : ∀ j u, [a, b][j]? = some u → (w.alloc (.cells #[a, b] t)).cell? ((⟨w.heap.size, 0, none⟩ : Addr).add j) = some u := by
 intro j u hj
 match j, hj with
 | 0, hj => simp at hj; subst hj; simp [Addr.add]
 | 1, hj => simp at hj; subst hj; simp [Addr.add]
 | j + 2, hj => simp at hj
end Go.Proofs.Ytnjpkfccncjkhaa

namespace Go.Proofs.Ytnjpkfccncjkhaa
open Go.RowKit

def pairCells : List (Int × Int) → List Value
 | [] => []
 | r :: l => .int .i64 r.1 :: .int .i64 r.2 :: pairCells l
theorem pairCells_append (a b : List (Int × Int)) : pairCells (a ++ b) = pairCells a ++ pairCells b := by
 induction a with
 | nil => rfl
 | cons r a ih => simp [pairCells, ih]
theorem pairCells_take (ls : List (Int × Int)) (i : Nat) (hi : i < ls.length) : pairCells (ls.take (i + 1)) = pairCells (ls.take i) ++ [.int .i64 (ls.getD i (0, 0)).1, .int .i64 (ls.getD i (0, 0)).2] := by
 rw [List.take_add_one, pairCells_append]
 simp [hi, pairCells]
theorem pairCells_get (ls : List (Int × Int)) : ∀ i, i < ls.length → (pairCells ls)[i * 2]? = some (.int .i64 (ls.getD i (0, 0)).1) ∧ (pairCells ls)[i * 2 + 1]? = some (.int .i64 (ls.getD i (0, 0)).2) := by
 induction ls with
 | nil => intro i hi; simp at hi
 | cons r l ih =>
  intro i hi
  cases i with
  | zero => simp [pairCells]
  | succ i =>
   have := ih i (by simpa using hi)
   simpa [pairCells, Nat.succ_mul] using this
theorem PairsOf.ofRow {w : World} {base : Nat} {e : TypeId} {v : Value} {ls : List (Int × Int)} (h : LRow w base e 2 v ls.length (pairCells ls)) : PairsOf w v ls := by
 rcases Nat.eq_zero_or_pos ls.length with h0 | hp
 ·
  rcases h.1.2 with ⟨rfl, _⟩ | ⟨g, cap, cur, rfl, _⟩
  ·
   exact ⟨none, 0, by rw [h0], fun h => absurd h (by omega)⟩
  ·
   exact ⟨_, _, rfl, fun h => absurd h (by omega)⟩
 ·
  obtain ⟨g, cap, rfl⟩ := ownsRow_some h.1 hp
  have hc : ∀ j u, (pairCells ls)[j]? = some u → w.cell? ((⟨g, 0, none⟩ : Addr).add j) = some u := h.1.cells (g := g) rfl
  have hlt : g < w.heap.size := (h.lt rfl).1
  refine ⟨_, _, rfl, fun _ => ⟨g, 0, rfl, hlt, fun i hi => ?_⟩⟩
  obtain ⟨h0, h1⟩ := pairCells_get ls i hi
  have ea : ∀ j, (⟨g, 0, none⟩ : Addr).add j = ⟨g, 0 + j, none⟩ := fun j => by unfold Addr.add; split <;> simp_all
  refine ⟨?_, ?_⟩
  ·
   rw [← ea]; exact hc _ _ h0
  ·
   rw [show 0 + i * 2 + 1 = 0 + (i * 2 + 1) by omega, ← ea]; exact hc _ _ h1
theorem zd2 : ∀ u ∈ (Value.agg #[.int .i64 0, .int .i64 0]).cells.toList, noDig u := by
 intro u hu
 simp [Value.cells] at hu
 rw [hu]
 exact noDig_i64 _
theorem nd2 (a b : Int) : ∀ u ∈ [Value.int .i64 a, Value.int .i64 b], noDig u := by
 intro u hu
 simp at hu
 rcases hu with rfl | rfl <;> exact noDig_i64 _
theorem one2 (a b : Int) : ∀ u ∈ [Value.int .i64 a, Value.int .i64 b], u.oneCell' = true := by simp [Value.oneCell']
end Go.Proofs.Ytnjpkfccncjkhaa

namespace Go.Proofs.Ytnjpkfccncjkhaa
open Go.RowKit

theorem PairsOf.nil (w : World) : PairsOf w (.slice none 0 0) [] := ⟨none, 0, rfl, fun h => absurd h (by simp)⟩

end Go.Proofs.Ytnjpkfccncjkhaa

namespace Go.Proofs.Ytnjpkfccncjkhaa
open Go.RowKit

structure GoodPcs (l : List (Int × Int)) (w : Int) : Prop where
 pcs : Pieces l w
 big : ∀ i, i < l.length → (gP l i).1 ≤ 1000 ∧ (gP l i).2 ≤ 1000
 len : l.length ≤ 10
 w1 : w ≤ 1000
theorem GoodPcs.at {l : List (Int × Int)} {w : Int} (h : GoodPcs l w) {i : Nat} (hi : i < l.length) : (1 ≤ (l.getD i (0, 0)).1 ∧ (l.getD i (0, 0)).1 ≤ 1000) ∧ 1 ≤ (l.getD i (0, 0)).2 ∧ (l.getD i (0, 0)).2 ≤ w := by
 have a := h.pcs.2 i hi
 have b := h.big i hi
 unfold gP at a b
 omega
theorem inL_yes {n lo hi : Int} (h1 : lo ≤ n) (h2 : n ≤ hi) : inL n lo hi = true := by simp [inL, h1, h2]

set_option maxRecDepth 100000 in
set_option maxHeartbeats 4000000 in
theorem checkPieces_ok {l : List (Int × Int)} {m : Int} (v : Value) (w : World) (hg : GoodPcs l m) (hv : PairsOf w v l) : Calls Try.prog 12 #[v, .int .i64 m] w (RetInt 0 w) := by
 obtain ⟨ao, cap, rfl, hE⟩ := hv
 have HE := Lib.hid hE
 have HG := Lib.hid hg
 have hlen := hg.len
 have hm1 := hg.pcs.1
 have hm2 := hg.w1
 have t1 : decide ((l.length : Int) > 24) = false := decide_eq_false (by omega)
 have Hw : Hid (inL m 1 1000000 = true) := inL_yes hm1 (by omega)
 clear hE hg
 go_enter Try.func12, Try.ntmps12
 go_wp2_with fail
 refine (within_any m _ _ _).mono ?_
 rw [Hw.out]
 rintro e w1 ⟨rfl, hb1⟩
 go_wp2_with fail
 go_loopw [15] (fun iv wr => ∃ (i : Nat), i ≤ l.length ∧ iv = .int .i64 i ∧ Below w.heap.size w wr)
  (fun iv _ => l.length - (intOf iv).toNat)
 case atStart => exact ⟨0, Nat.zero_le _, rfl, hb1⟩
 case round =>
  clear hb1
  obtain ⟨i, hi, rfl, hbel⟩ := hrel
  by_cases hlt : i < l.length
  ·
   obtain ⟨b, off, rfl, hbl, hEE⟩ := HE.out (by omega)
   obtain ⟨g0, g1⟩ := (hEE i hlt).below hbel hbl
   have hlt' : (i : Int) < l.length := by omega
   have hge' : (0 : Int) ≤ i := by omega
   have hbl2 : b < wr.heap.size := Nat.lt_of_lt_of_le hbl hbel.size
   have hp := HG.out.at hlt
   clear hEE
   generalize (l.getD i (0, 0)).1 = x at *
   generalize (l.getD i (0, 0)).2 = y at *
   have t2 : decide (y > m) = false := decide_eq_false (by omega)
   have Hx : Hid (inL x 1 1000000 = true) := inL_yes hp.1.1 (by omega)
   have Hy : Hid (inL y 1 1000000 = true) := inL_yes hp.2.1 (by omega)
   have hN := blk_new wr #[.int .i64 x, .int .i64 y] 27
   have hx := (Below.refl wr.heap.size wr).alloc (Nat.le_refl _) (.cells #[.int .i64 x, .int .i64 y] 27)
   go_wp2_with fail
   refine (within_any x _ _ _).mono ?_
   rw [Hx.out]
   rintro e w2 ⟨rfl, hb2⟩
   have hN2 := blk_keep hN hb2 (blk_lt hN)
   have c1 := blk_cell hN2 1 (.int .i64 y) rfl
   have hx2 := ext_trans (ext_trans hbel hx) hb2
   clear g0 g1 hN hb2 hx
   go_wp2_with fail
   refine (within_any y _ _ _).mono ?_
   rw [Hy.out]
   rintro e w3 ⟨rfl, hb3⟩
   have hN3 := blk_keep hN2 hb3 (blk_lt hN2)
   have c3 := blk_cell hN3 1 (.int .i64 y) rfl
   have hx3 := ext_trans hx2 hb3
   clear hN2 hb3 hx2 c1 hN3
   go_wp2_with fail
   exact ⟨⟨i + 1, by omega, by go_num, hx3⟩, meas_up hlt⟩
  ·
   obtain rfl : i = l.length := by omega
   go_wp2_with fail
   go_ret
   exact ⟨rfl, hbel⟩

/-! ### Bound -/
theorem run_max_ints3 {P : Program} (w : World) (ts : Array TypeId) (t : TypeId) (k k' k'' : IntKind) (x y z : Int) :
  (Builtin.max_ ts t #[.int k x, .int k' y, .int k'' z]).run P w = .ok (.int k (max (max x y) z)) w := by
 have e : ∀ x y : Int, (if y > x then y else x) = max x y := fun x y => by
  rw [Int.max_def]
  split <;> split <;> omega
 simp [Builtin.max_, Builtin.max2, e]
theorem longZ_range {l : List (Int × Int)} {m : Int} (hg : GoodPcs l m) (i : Nat) (hi : i ≤ l.length) : 0 ≤ longZ l i ∧ longZ l i ≤ 1000 := by
 induction i with
 | zero => exact ⟨Int.le_refl _, by show (0 : Int) ≤ 1000; omega⟩
 | succ i ih =>
  have := ih (by omega)
  have := hg.at (show i < l.length by omega)
  simp only [longZ, gP]
  omega
theorem areaZ_range {l : List (Int × Int)} {m : Int} (hg : GoodPcs l m) (i : Nat) (hi : i ≤ l.length) : 0 ≤ areaZ l i ∧ areaZ l i ≤ 1000000 * i := by
 induction i with
 | zero => exact ⟨Int.le_refl _, by show (0 : Int) ≤ _; omega⟩
 | succ i ih =>
  have := ih (by omega)
  have a := hg.at (show i < l.length by omega)
  have b := Int.mul_nonneg (show 0 ≤ (l.getD i (0, 0)).1 by omega) (show 0 ≤ (l.getD i (0, 0)).2 by omega)
  have c : (l.getD i (0, 0)).1 * (l.getD i (0, 0)).2 ≤ 1000 * 1000 := Int.mul_le_mul a.1.2 (by have := hg.w1; omega) (by omega) (by omega)
  have e : areaZ l (i + 1) = areaZ l i + (l.getD i (0, 0)).1 * (l.getD i (0, 0)).2 := rfl
  rw [e]
  omega
theorem aloneZ_range {l : List (Int × Int)} {m : Int} (hg : GoodPcs l m) (i : Nat) (hi : i ≤ l.length) : 0 ≤ aloneZ l m i ∧ aloneZ l m i ≤ 1000 * i := by
 induction i with
 | zero => exact ⟨Int.le_refl _, by show (0 : Int) ≤ _; omega⟩
 | succ i ih =>
  have := ih (by omega)
  have a := hg.at (show i < l.length by omega)
  have e : aloneZ l m (i + 1) = aloneZ l m i + if 2 * (l.getD i (0, 0)).2 > m then (l.getD i (0, 0)).1 else 0 := rfl
  rw [e]
  split <;> omega

def RetTwoN (a b : Int) (w : World) (e : Ending) (w' : World) : Prop := e = .returned (.tuple #[.int .i64 a, .int .i64 b]) ∧ Below w.heap.size w w'
set_option maxRecDepth 100000 in
set_option maxHeartbeats 8000000 in
theorem lbound_ok {l : List (Int × Int)} {m : Int} (v : Value) (w : World) (hg : GoodPcs l m) (hv : PairsOf w v l) : Calls Try.prog 7 #[v, .int .i64 m] w (RetTwoN (boundZ l m) 0 w) := by
 have HV := Lib.hid hv
 obtain ⟨ao, cap, rfl, hE⟩ := hv
 have HE := Lib.hid hE
 have HG := Lib.hid hg
 have hlen := hg.len
 have hm1 := hg.pcs.1
 have hm2 := hg.w1
 clear hE hg
 go_enter Try.func7, Try.ntmps7
 go_wp2_with fail
 refine (checkPieces_ok _ _ HG.out HV.out).mono ?_
 rintro e w1 ⟨rfl, hb1⟩
 go_wp2_with fail
 go_loopw [7, 8, 9, 20] (fun lv sv av iv wr => ∃ (i : Nat), i ≤ l.length ∧ iv = .int .i64 i ∧ lv = .int .i64 (longZ l i) ∧ sv = .int .i64 (areaZ l i) ∧ av = .int .i64 (aloneZ l m i) ∧ Below w.heap.size w wr)
  (fun _ _ _ iv _ => l.length - (intOf iv).toNat)
 case atStart => exact ⟨0, Nat.zero_le _, rfl, rfl, rfl, rfl, hb1⟩
 case round =>
  clear hb1
  obtain ⟨i, hi, rfl, rfl, rfl, rfl, hbel⟩ := hrel
  have hL := longZ_range HG.out i hi
  have hA := areaZ_range HG.out i hi
  have hO := aloneZ_range HG.out i hi
  by_cases hlt : i < l.length
  ·
   obtain ⟨b, off, rfl, hbl, hEE⟩ := HE.out (by omega)
   obtain ⟨g0, g1⟩ := (hEE i hlt).below hbel hbl
   have hlt' : (i : Int) < l.length := by omega
   have hge' : (0 : Int) ≤ i := by omega
   have hbl2 : b < wr.heap.size := Nat.lt_of_lt_of_le hbl hbel.size
   have hp := HG.out.at hlt
   have HL1 : Hid (longZ l (i + 1) = max (longZ l i) (l.getD i (0, 0)).1) := rfl
   have HA1 : Hid (areaZ l (i + 1) = areaZ l i + (l.getD i (0, 0)).1 * (l.getD i (0, 0)).2) := rfl
   have HO1 : Hid (aloneZ l m (i + 1) = aloneZ l m i + if 2 * (l.getD i (0, 0)).2 > m then (l.getD i (0, 0)).1 else 0) := rfl
   clear hEE
   generalize (l.getD i (0, 0)).1 = x at *
   generalize (l.getD i (0, 0)).2 = y at *
   generalize longZ l i = L at *
   generalize areaZ l i = A at *
   generalize aloneZ l m i = O at *
   have hxy0 := Int.mul_nonneg (show 0 ≤ x by omega) (show 0 ≤ y by omega)
   have hxy1 : x * y ≤ 1000 * 1000 := Int.mul_le_mul hp.1.2 (by omega) (by omega) (by omega)
   have hw1 : IntKind.i64.wrap (x * y) = x * y := IntWalk.i64_in _ (by omega)
   have hw2 : IntKind.i64.wrap (A + x * y) = A + x * y := IntWalk.i64_in _ (by omega)
   have hw3 : IntKind.i64.wrap (2 * y) = 2 * y := IntWalk.i64_in _ (by omega)
   have hw4 : IntKind.i64.wrap (O + x) = O + x := IntWalk.i64_in _ (by omega)
   have hN := blk_new wr #[.int .i64 x, .int .i64 y] 27
   have hx := hbel.alloc hbel.size (.cells #[.int .i64 x, .int .i64 y] 27)
   have n0 := blk_cell hN 0 (.int .i64 x) rfl
   have n1 := blk_cell hN 1 (.int .i64 y) rfl
   by_cases c : 2 * y > m
   ·
    have t1 : decide (2 * y > m) = true := decide_eq_true c
    have ho := HO1.out
    rw [if_pos c] at ho
    have HO2 := Lib.hid ho
    clear c ho HO1
    go_wp2_with fail
    go_region
    go_wp2_with fail
    exact ⟨⟨i + 1, by omega, by go_num, by rw [HL1.out], by rw [HA1.out], by rw [HO2.out], hx.drew⟩, meas_up hlt⟩
   ·
    have t1 : decide (2 * y > m) = false := decide_eq_false c
    have ho := HO1.out
    rw [if_neg c, Int.add_zero] at ho
    have HO2 := Lib.hid ho
    clear c ho HO1
    go_wp2_with fail
    go_region
    go_wp2_with fail
    exact ⟨⟨i + 1, by omega, by go_num, by rw [HL1.out], by rw [HA1.out], by rw [HO2.out], hx.drew⟩, meas_up hlt⟩
  ·
   obtain rfl : i = l.length := by omega
   have Ht : Hid (boundZ l m = max (max (longZ l l.length) ((areaZ l l.length + m - 1) / m)) (aloneZ l m l.length)) := rfl
   have Hu : Hid (boundZ l m = max (longZ l l.length) (max ((areaZ l l.length + m - 1) / m) (aloneZ l m l.length))) := by show _ = _; unfold boundZ; omega
   generalize longZ l l.length = L at *
   generalize areaZ l l.length = A at *
   generalize aloneZ l m l.length = O at *
   generalize boundZ l m = Z at *
   have hw1 : IntKind.i64.wrap (A + m) = A + m := IntWalk.i64_in _ (by omega)
   have hw2 : IntKind.i64.wrap (A + m - 1) = A + m - 1 := IntWalk.i64_in _ (by omega)
   have hne : m ≠ 0 := by omega
   have hq0 := Int.ediv_nonneg (show 0 ≤ A + m - 1 by omega) (show 0 ≤ m by omega)
   have hq1 := Int.ediv_le_self m (show 0 ≤ A + m - 1 by omega)
   have hw3 : IntKind.i64.wrap ((A + m - 1) / m) = (A + m - 1) / m := IntWalk.i64_in _ (by omega)
   have hw4 : wrap64 ((A + m - 1) / m) = (A + m - 1) / m := (IntWalk.i64_left _).symm.trans hw3
   clear hq0 hq1
   have hM3 := fun (w : World) (ts : Array TypeId) (t : TypeId) (x y z : Int) => run_max_ints3 (P := Try.prog) w ts t .i64 .i64 .i64 x y z
   go_wp2_with fail
   go_ret2
   first | exact ⟨by rw [Hu.out]; rfl, hbel⟩ | exact ⟨by rw [Ht.out]; rfl, hbel⟩

end Go.Proofs.Ytnjpkfccncjkhaa

namespace Go.Proofs.Ytnjpkfccncjkhaa
open Go.RowKit

def CapOk (v : Value) : Prop := ∃ a l c, v = .slice a l c ∧ l ≤ c ∧ c ≤ maxLen

end Go.Proofs.Ytnjpkfccncjkhaa

namespace Go.Proofs.Ytnjpkfccncjkhaa
open Go.RowKit

def RetBoolQ (b : Bool) (w : World) (e : Ending) (w' : World) : Prop := e = .returned (.bool b) ∧ Quiet w w'
set_option maxHeartbeats 1000000 in
theorem withinQ_any (n lo hi : Int) (w : World) : Calls Try.prog 15 #[.int .i64 n, .int .i64 lo, .int .i64 hi] w (RetBoolQ (inL n lo hi) w) := by
 by_cases h1 : lo ≤ n
 ·
  by_cases h2 : n ≤ hi
  ·
   have Hr : Hid (inL n lo hi = true) := by show _ = _; simp [inL, h1, h2]
   have t1 : decide (n ≥ lo) = true := decide_eq_true h1
   have t2 : decide (n ≤ hi) = true := decide_eq_true h2
   clear h1 h2
   go_enter Try.func15, Try.ntmps15
   go_wp2_with fail
   go_ret
   exact ⟨by rw [Hr.out]; rfl, Quiet.refl _⟩
  ·
   have Hr : Hid (inL n lo hi = false) := by show _ = _; simp [inL, h1, h2]
   have t1 : decide (n ≥ lo) = true := decide_eq_true h1
   have t2 : decide (n ≤ hi) = false := decide_eq_false h2
   clear h1 h2
   go_enter Try.func15, Try.ntmps15
   go_wp2_with fail
   go_ret
   exact ⟨by rw [Hr.out]; rfl, Quiet.refl _⟩
 ·
  have Hr : Hid (inL n lo hi = false) := by show _ = _; simp [inL, h1]
  have t1 : decide (n ≥ lo) = false := decide_eq_false h1
  clear h1
  go_enter Try.func15, Try.ntmps15
  go_wp2_with fail
  go_ret
  exact ⟨by rw [Hr.out]; rfl, Quiet.refl _⟩

/-! ### What CheckNest tells -/
theorem acc_stop {l : List (Int × Int)} {m : Int} {ls : List (Int × Int)} {i n : Nat} (hi : i < n) (h : outB l m ls i = true ∨ overTo l ls i i = true) : accB l m ls n = false := by
 cases c : accB l m ls n with
 | false => rfl
 | true =>
  have := (accB_iff l m ls n).1 c i hi
  rcases h with h | h
  ·
   rw [this.1] at h; cases h
  ·
   rw [(overTo_iff l ls i i).2 this.2] at h; cases h
theorem over_stop {l : List (Int × Int)} {ls : List (Int × Int)} {i k n : Nat} (hk : k < n) (h : overlapB l ls i k = true) : overTo l ls i n = true := by
 cases c : overTo l ls i n with
 | true => rfl
 | false =>
  have := (overTo_iff l ls i n).1 c k hk
  rw [this] at h; cases h
theorem endZ_range {l : List (Int × Int)} {m : Int} {ls : List (Int × Int)} (hg : GoodPcs l m) (i : Nat) (hi : i ≤ l.length) (h : ∀ j, j < i → (ls.getD j (0, 0)).1 ≤ 1099511627776) : 0 ≤ endZ l ls i ∧ endZ l ls i ≤ 1099511628776 := by
 induction i with
 | zero => exact ⟨Int.le_refl _, by show (0 : Int) ≤ _; omega⟩
 | succ i ih =>
  have := ih (by omega) (fun j hj => h j (by omega))
  have a := hg.at (show i < l.length by omega)
  have b := h i (by omega)
  simp only [endZ, gP]
  omega
def RetNest (ok : Bool) (n : Int) (w : World) (e : Ending) (w' : World) : Prop := ∃ a err, e = .returned (.tuple #[.int .i64 a, .int .i64 err]) ∧ (ok = true → a = n ∧ err = 0) ∧ (ok = false → err ≠ 0) ∧ Below w.heap.size w w'

set_option maxRecDepth 100000 in
set_option maxHeartbeats 16000000 in
theorem checkNest_any {l : List (Int × Int)} {m : Int} (ls : List (Int × Int)) (v vl : Value) (w : World) (hg : GoodPcs l m) (hll : ls.length = l.length) (hv : PairsOf w v l) (hl : PairsOf w vl ls) (hcap : CapOk vl) (hbig : ∀ i, i < ls.length → -2000000000000 ≤ (ls.getD i (0, 0)).2 ∧ (ls.getD i (0, 0)).2 ≤ 2000000000000) :
  Calls Try.prog 6 #[v, .int .i64 m, vl] w (RetNest (accB l m ls l.length) (endZ l ls l.length) w) := by
 have HV := Lib.hid hv
 obtain ⟨aoj, capj, rfl, hJ⟩ := hv
 obtain ⟨aol, capl, rfl, hL⟩ := hl
 have HJE := Lib.hid hJ
 have HLE := Lib.hid hL
 have hcp : ls.length ≤ capl ∧ capl ≤ maxLen := by
  obtain ⟨a, l, c, e, h1, h2⟩ := hcap
  simp only [Value.slice.injEq] at e
  obtain ⟨rfl, rfl, rfl⟩ := e
  exact ⟨h1, h2⟩
 unfold maxLen at hcp
 have HG := Lib.hid hg
 have HB := Lib.hid hbig
 have hlen := hg.len
 have hm1 := hg.pcs.1
 have hm2 := hg.w1
 have H1 := Lib.hid hll
 have t1 : ((ls.length : Int) != (l.length : Int)) = false := by simp [hll]
 clear hJ hL hcap hg hbig
 have hls : ls.length ≤ 10 := by omega
 clear hll
 go_enter Try.func6, Try.ntmps6
 go_wp2_with fail
 refine (checkPieces_ok _ _ HG.out HV.out).mono ?_
 rintro e w1 ⟨rfl, hb1⟩
 go_wp2_with fail
 go_loopw [9, 27] (fun nv iv wr => ∃ (i : Nat), i ≤ ls.length ∧ iv = .int .i64 i ∧ nv = .int .i64 (endZ l ls i) ∧ Hid (accB l m ls i = true) ∧ Below w.heap.size w wr)
  (fun _ iv _ => ls.length - (intOf iv).toNat)
 case atStart => exact ⟨0, Nat.zero_le _, rfl, rfl, rfl, hb1⟩
 case round =>
  clear hb1
  obtain ⟨i, hi, rfl, rfl, hA, hbel⟩ := hrel
  have Hprev : Hid (∀ j, j < i → 0 ≤ (ls.getD j (0, 0)).1 ∧ (ls.getD j (0, 0)).1 ≤ 1099511627776) := fun j hj => by
   have := ((accB_iff l m ls i).1 hA.out j hj).1
   unfold outB gP at this
   simp only [Bool.or_eq_false_iff, Bool.not_eq_false', Bool.and_eq_true, decide_eq_true_eq] at this
   exact this.1
  have hend := endZ_range (m := m) HG.out i (by rw [← H1.out]; exact hi) (fun j hj => (Hprev.out j hj).2)
  by_cases hlt : i < ls.length
  ·
   obtain ⟨b, off, rfl, hbl, hLL⟩ := HLE.out (by omega)
   have hltj : i < l.length := by rw [← H1.out]; exact hlt
   obtain ⟨bj, offj, rfl, hblj, hJJ⟩ := HJE.out (by omega)
   obtain ⟨g0, g1⟩ := (hLL i hlt).below hbel hbl
   obtain ⟨k0, k1⟩ := (hJJ i hltj).below hbel hblj
   have hlt' : (i : Int) < ls.length := by omega
   have hltj' : (i : Int) < l.length := by omega
   have hge' : (0 : Int) ≤ i := by omega
   have hicap : (i : Int) ≤ capl := by omega
   have hbl2 : b < wr.heap.size := Nat.lt_of_lt_of_le hbl hbel.size
   have hblj2 : bj < wr.heap.size := Nat.lt_of_lt_of_le hblj hbel.size
   have hp := HG.out.at hltj
   have hy := HB.out i hlt
   have Hend1 : Hid (endZ l ls (i + 1) = max (endZ l ls i) ((ls.getD i (0, 0)).1 + (l.getD i (0, 0)).1)) := rfl
   have Hout : Hid (outB l m ls i = (!(decide (0 ≤ (ls.getD i (0, 0)).1) && decide ((ls.getD i (0, 0)).1 ≤ 1099511627776)) || (decide ((ls.getD i (0, 0)).2 < 0) || decide ((ls.getD i (0, 0)).2 > m - (l.getD i (0, 0)).2)))) := rfl
   have Hacc1 : Hid (accB l m ls (i + 1) = (accB l m ls i && (!outB l m ls i && !overTo l ls i i))) := rfl
   have Hov : Hid (∀ k, overlapB l ls i k = (decide ((ls.getD i (0, 0)).1 < (ls.getD k (0, 0)).1 + (l.getD k (0, 0)).1) && (decide ((ls.getD k (0, 0)).1 < (ls.getD i (0, 0)).1 + (l.getD i (0, 0)).1) && (decide ((ls.getD i (0, 0)).2 < (ls.getD k (0, 0)).2 + (l.getD k (0, 0)).2) && decide ((ls.getD k (0, 0)).2 < (ls.getD i (0, 0)).2 + (l.getD i (0, 0)).2))))) := fun k => rfl
   have Hno : Hid (outB l m ls i = true ∨ overTo l ls i i = true → accB l m ls l.length = false) := fun h => acc_stop hltj h
   have HLL := Lib.hid hLL
   have HJJ := Lib.hid hJJ
   clear hLL hJJ
   generalize (ls.getD i (0, 0)).1 = x0 at *
   generalize (ls.getD i (0, 0)).2 = x1 at *
   generalize (l.getD i (0, 0)).1 = r at *
   generalize (l.getD i (0, 0)).2 = d at *
   have hN := blk_new wr #[.int .i64 x0, .int .i64 x1] 36
   have hal := (Below.refl wr.heap.size wr).alloc (Nat.le_refl _) (.cells #[.int .i64 x0, .int .i64 x1] 36)
   have hxa := hbel.alloc hbel.size (.cells #[.int .i64 x0, .int .i64 x1] 36)
   have hwd : IntKind.i64.wrap (m - d) = m - d := IntWalk.i64_in _ (by omega)
   have s0 := blk_cell hN 0 (.int .i64 x0) rfl
   have s1 := blk_cell hN 1 (.int .i64 x1) rfl
   have j0 := (hal.cell (p := ⟨bj, offj + i * 2, none⟩) hblj2).trans k0
   have j1 := (hal.cell (p := ⟨bj, offj + i * 2 + 1, none⟩) hblj2).trans k1
   have Hin : Hid (inL x0 0 1099511627776 = (decide (0 ≤ x0) && decide (x0 ≤ 1099511627776))) := rfl
   cases tx : inL x0 0 1099511627776 with
   | false =>
    have Hv : Hid (accB l m ls l.length = false) := Hno.out (.inl (by rw [Hout.out, ← Hin.out, tx]; rfl))
    have TX := Lib.hid tx
    clear tx
    have HW : Hid (∀ W, Calls Try.prog 15 #[.int .i64 x0, .int .i64 0, .int .i64 1099511627776] W (fun e w' => e = .returned (.bool false) ∧ Quiet W w')) := fun W => by rw [← TX.out]; exact withinQ_any x0 0 1099511627776 W
    go_wp2_with fail
    go_quiet ((go_at_call 15; first | exact quiet_at0 (HW.out _) | exact quiet_at (HW.out _)))
    go_wp2_with fail
    go_ret2
    exact ⟨0, 1, rfl, fun h => absurd h (by rw [Hv.out]; decide), fun _ => by decide, below_dn hxa _⟩
   | true =>
    have TX := Lib.hid tx
    have HW : Hid (∀ W, Calls Try.prog 15 #[.int .i64 x0, .int .i64 0, .int .i64 1099511627776] W (fun e w' => e = .returned (.bool true) ∧ Quiet W w')) := fun W => by rw [← TX.out]; exact withinQ_any x0 0 1099511627776 W
    have hx0 : 0 ≤ x0 ∧ x0 ≤ 1099511627776 := by rw [Hin.out] at tx; simpa using tx
    clear tx
    by_cases c1 : x1 < 0
    ·
     have t2 : decide (x1 < 0) = true := decide_eq_true c1
     have Hv : Hid (accB l m ls l.length = false) := Hno.out (.inl (by rw [Hout.out, ← Hin.out, TX.out, t2]; rfl))
     go_wp2_with fail
     go_quiet ((go_at_call 15; first | exact quiet_at0 (HW.out _) | exact quiet_at (HW.out _)))
     go_wp2_with fail
     go_ret2
     exact ⟨0, 1, rfl, fun h => absurd h (by rw [Hv.out]; decide), fun _ => by decide, below_dn hxa _⟩
    ·
     have t2 : decide (x1 < 0) = false := decide_eq_false c1
     by_cases c2 : x1 > m - d
     ·
      have t3 : decide (x1 > m - d) = true := decide_eq_true c2
      have Hv : Hid (accB l m ls l.length = false) := Hno.out (.inl (by rw [Hout.out, ← Hin.out, TX.out, t2, t3]; rfl))
      go_wp2_with fail
      go_quiet ((go_at_call 15; first | exact quiet_at0 (HW.out _) | exact quiet_at (HW.out _)))
      go_wp2_with fail
      go_ret2
      exact ⟨0, 1, rfl, fun h => absurd h (by rw [Hv.out]; decide), fun _ => by decide, below_dn hxa _⟩
     ·
      have t3 : decide (x1 > m - d) = false := decide_eq_false c2
      have Hv : Hid (outB l m ls i = false) := by show _ = _; rw [Hout.out, ← Hin.out, TX.out, t2, t3]; rfl
      clear Hout
      go_wp2_with fail
      go_quiet ((go_at_call 15; first | exact quiet_at0 (HW.out _) | exact quiet_at (HW.out _)))
      go_wp2_with fail
      have hNd : ((wr.alloc (.cells #[.int .i64 x0, .int .i64 x1] 36)).drewN nq).heap[wr.heap.size]? = some (.cells #[.int .i64 x0, .int .i64 x1] 36 (0, 0)) := hN
      have hxd := below_dn hxa nq
      have j0d : ((wr.alloc (.cells #[.int .i64 x0, .int .i64 x1] 36)).drewN nq).cell? ⟨bj, offj + i * 2, none⟩ = some (.int .i64 r) := j0
      have j1d : ((wr.alloc (.cells #[.int .i64 x0, .int .i64 x1] 36)).drewN nq).cell? ⟨bj, offj + i * 2 + 1, none⟩ = some (.int .i64 d) := j1
      have hsz1 : wr.heap.size < ((wr.alloc (.cells #[.int .i64 x0, .int .i64 x1] 36)).drewN nq).heap.size := by show wr.heap.size < (wr.alloc _).heap.size; simp
      clear hN hal hxa g0 g1 k0 k1 hbel hbl2 hblj2 s0 s1 j0 j1 t2 t3 c1 c2 hwd Hin
      generalize wr.heap.size = B9 at *
      generalize ((wr.alloc (.cells #[.int .i64 x0, .int .i64 x1] 36)).drewN nq) = W1 at *
      go_loopw [57] (fun kv wq => ∃ (k : Nat), k ≤ i ∧ kv = .int .i64 k ∧ Hid (overTo l ls i k = false) ∧ Below W1.heap.size W1 wq) (fun kv _ => i - (intOf kv).toNat)
      case atStart => exact ⟨0, Nat.zero_le _, rfl, rfl, Below.refl _ _⟩
      case round =>
       obtain ⟨k, hk, rfl, hHt, hxq⟩ := hrel
       have hxw := hxd.trans (hxq.mono hxd.size)
       by_cases hkl : k < i
       ·
        have hkl' : (k : Int) < i := by omega
        have hkg' : (0 : Int) ≤ k := by omega
        have hkj' : (k : Int) < l.length := by omega
        obtain ⟨e0, e1⟩ := (HLL.out k (by omega)).below hxw hbl
        obtain ⟨f0, f1⟩ := (HJJ.out k (by omega)).below hxw hblj
        have hNq := blk_keep hNd hxq hsz1
        have s0 := blk_cell hNq 0 (.int .i64 x0) rfl
        have s1 := blk_cell hNq 1 (.int .i64 x1) rfl
        have j0 := (hxq.cell (World.block_lt_of_cell? (h := j0d))).trans j0d
        have j1 := (hxq.cell (World.block_lt_of_cell? (h := j1d))).trans j1d
        have hblq : b < wr.heap.size := Nat.lt_of_lt_of_le hbl hxw.size
        have hbljq : bj < wr.heap.size := Nat.lt_of_lt_of_le hblj hxw.size
        have hB9q := blk_lt hNq
        have hpk := HG.out.at (show k < l.length by omega)
        have hqk := Hprev.out k hkl
        have hyk := HB.out k (by omega)
        have Hh2 := Lib.hid (Hov.out k)
        have Hst1 : Hid (overTo l ls i (k + 1) = (overTo l ls i k || overlapB l ls i k)) := rfl
        have Hstop : Hid (overlapB l ls i k = true → accB l m ls l.length = false) := fun h => Hno.out (.inr (over_stop hkl h))
        generalize (ls.getD k (0, 0)).1 = y0 at *
        generalize (ls.getD k (0, 0)).2 = y1 at *
        generalize (l.getD k (0, 0)).1 = rk at *
        generalize (l.getD k (0, 0)).2 = dk at *
        generalize overlapB l ls i k = ov at *
        have hw1 : IntKind.i64.wrap (y0 + rk) = y0 + rk := IntWalk.i64_in _ (by omega)
        have hw2 : IntKind.i64.wrap (x0 + r) = x0 + r := IntWalk.i64_in _ (by omega)
        have hw3 : IntKind.i64.wrap (y1 + dk) = y1 + dk := IntWalk.i64_in _ (by omega)
        have hw4 : IntKind.i64.wrap (x1 + d) = x1 + d := IntWalk.i64_in _ (by omega)
        have hal2 := (Below.refl wr.heap.size wr).alloc (Nat.le_refl _) (.cells #[.int .i64 y0, .int .i64 y1] 36)
        have hxe := hxq.alloc hxq.size (.cells #[.int .i64 y0, .int .i64 y1] 36)
        have hM := blk_new wr #[.int .i64 y0, .int .i64 y1] 36
        have m0 := blk_cell hM 0 (.int .i64 y0) rfl
        have m1 := blk_cell hM 1 (.int .i64 y1) rfl
        have up : ∀ (q o : Nat) (v : Value), q < wr.heap.size → wr.cell? ⟨q, o, none⟩ = some v → (wr.alloc (.cells #[.int .i64 y0, .int .i64 y1] 36)).cell? ⟨q, o, none⟩ = some v := fun q o v hq h => (hal2.cell (p := ⟨q, o, none⟩) hq).trans h
        have a0 := up _ _ _ hB9q s0
        have a1 := up _ _ _ hB9q s1
        have a2 := up _ _ _ hbljq j0
        have a3 := up _ _ _ hbljq j1
        have a4 := up _ _ _ hbljq f0
        have a5 := up _ _ _ hbljq f1
        clear up s0 s1 j0 j1 f0 f1 hal2 hM
        by_cases c1 : x0 < y0 + rk
        ·
         have t1 : decide (x0 < y0 + rk) = true := decide_eq_true c1
         by_cases c2 : y0 < x0 + r
         ·
          have t2 : decide (y0 < x0 + r) = true := decide_eq_true c2
          by_cases c3 : x1 < y1 + dk
          ·
           have t3 : decide (x1 < y1 + dk) = true := decide_eq_true c3
           by_cases c4 : y1 < x1 + d
           ·
            have t4 : decide (y1 < x1 + d) = true := decide_eq_true c4
            have Hv : Hid (accB l m ls l.length = false) := Hstop.out (by rw [Hh2.out, t1, t2, t3, t4]; rfl)
            go_wp2_with fail
            go_quiet (fail)
            go_wp2_with fail
            go_ret2
            exact ⟨0, 8, rfl, fun h => absurd h (by rw [Hv.out]; decide), fun _ => by decide, hxd.trans ((below_dn hxe _).mono hxd.size)⟩
           ·
            have t4 : decide (y1 < x1 + d) = false := decide_eq_false c4
            have Hn : Hid (overTo l ls i (k + 1) = false) := by show _ = _; rw [Hst1.out, Hh2.out, hHt.out, t1, t2, t3, t4]; rfl
            go_wp2_with fail
            go_quiet (fail)
            go_wp2_with fail
            exact ⟨⟨k + 1, by omega, by go_num, Hn, below_dn hxe _⟩, meas_up hkl⟩
          ·
           have t3 : decide (x1 < y1 + dk) = false := decide_eq_false c3
           have Hn : Hid (overTo l ls i (k + 1) = false) := by show _ = _; rw [Hst1.out, Hh2.out, hHt.out, t1, t2, t3]; rfl
           go_wp2_with fail
           go_quiet (fail)
           go_wp2_with fail
           exact ⟨⟨k + 1, by omega, by go_num, Hn, below_dn hxe _⟩, meas_up hkl⟩
         ·
          have t2 : decide (y0 < x0 + r) = false := decide_eq_false c2
          have Hn : Hid (overTo l ls i (k + 1) = false) := by show _ = _; rw [Hst1.out, Hh2.out, hHt.out, t1, t2]; rfl
          go_wp2_with fail
          go_quiet (fail)
          go_wp2_with fail
          exact ⟨⟨k + 1, by omega, by go_num, Hn, below_dn hxe _⟩, meas_up hkl⟩
        ·
         have t1 : decide (x0 < y0 + rk) = false := decide_eq_false c1
         have Hn : Hid (overTo l ls i (k + 1) = false) := by show _ = _; rw [Hst1.out, Hh2.out, hHt.out, t1]; rfl
         go_wp2_with fail
         go_quiet (fail)
         go_wp2_with fail
         exact ⟨⟨k + 1, by omega, by go_num, Hn, below_dn hxe _⟩, meas_up hkl⟩
       ·
        obtain rfl : k = i := by omega
        have hNq := blk_keep hNd hxq hsz1
        have s0 := blk_cell hNq 0 (.int .i64 x0) rfl
        have j0 := (hxq.cell (World.block_lt_of_cell? (h := j0d))).trans j0d
        have hbljq : bj < wr.heap.size := Nat.lt_of_lt_of_le hblj hxw.size
        have hB9q := blk_lt hNq
        have hw2 : IntKind.i64.wrap (x0 + r) = x0 + r := IntWalk.i64_in _ (by omega)
        have Hv1 : Hid (accB l m ls (k + 1) = true) := by show _ = _; rw [Hacc1.out, hA.out, Hv.out, hHt.out]; rfl
        go_wp2_with fail
        go_quiet (fail)
        go_wp2_with fail
        exact ⟨⟨k + 1, by omega, by go_num, by rw [Hend1.out], Hv1, below_dn hxw _⟩, meas_up hlt⟩
  ·
   obtain rfl : i = ls.length := by omega
   go_wp2_with fail
   go_ret2
   exact ⟨_, 0, rfl, fun _ => ⟨by rw [H1.out], rfl⟩, fun h => absurd h (by rw [← H1.out, hA.out]; decide), hbel⟩

end Go.Proofs.Ytnjpkfccncjkhaa

namespace Go.Proofs.Ytnjpkfccncjkhaa
open Go.RowKit

def ordL (f : Nat → Nat) (n : Nat) : List Nat := (List.range n).map f
theorem ordL_length (f : Nat → Nat) (n : Nat) : (ordL f n).length = n := by simp [ordL]
theorem ordL_get (f : Nat → Nat) {n j : Nat} (hj : j < n) : (ordL f n).getD j 0 = f j := by simp [ordL, List.getD, hj]
theorem ordL_sw (f : Nat → Nat) {n j : Nat} (hj0 : 0 < j) (hj : j < n) : ((ordL f n).set j (f (j - 1))).set (j - 1) (f j) = ordL (swO f j) n := by
 refine List.ext_getElem (by simp [ordL]) fun k h1 h2 => ?_
 have hk : k < n := by simpa [ordL] using h2
 simp only [ordL, List.getElem_set, List.getElem_map, List.getElem_range]
 rcases swO_ways f hj0 k with ⟨c, e⟩ | ⟨c, e⟩ | ⟨c, d, e⟩
 ·
  rw [e, if_neg (by omega), if_pos (by omega)]
 ·
  rw [e, if_pos (by omega)]
 ·
  rw [e, if_neg (by omega), if_neg (by omega)]
theorem ordL_id (n : Nat) : ordL (fun j => j) n = List.range n := by simp [ordL]

theorem pairCells_setA (ps : List (Int × Int)) (x : Int) : ∀ k, k < ps.length → (pairCells ps).set (k * 2) (.int .i64 x) = pairCells (ps.set k (x, (ps.getD k (0, 0)).2)) := by
 induction ps with
 | nil => intro k hk; simp at hk
 | cons p ps ih =>
  intro k hk
  cases k with
  | zero => simp [pairCells]
  | succ k =>
   have := ih k (by simpa using hk)
   rw [show (k + 1) * 2 = k * 2 + 2 by omega]
   simp only [pairCells, List.set_cons_succ, List.getD_cons_succ, this]
theorem pairCells_setB (ps : List (Int × Int)) (y : Int) : ∀ k, k < ps.length → (pairCells ps).set (k * 2 + 1) (.int .i64 y) = pairCells (ps.set k ((ps.getD k (0, 0)).1, y)) := by
 induction ps with
 | nil => intro k hk; simp at hk
 | cons p ps ih =>
  intro k hk
  cases k with
  | zero => simp [pairCells]
  | succ k =>
   have := ih k (by simpa using hk)
   rw [show (k + 1) * 2 + 1 = (k * 2 + 1) + 2 by omega]
   simp only [pairCells, List.set_cons_succ, List.getD_cons_succ, this]
theorem pairCells_set12 (ps : List (Int × Int)) (x y : Int) (k : Nat) (hk : k < ps.length) : ((pairCells ps).set (k * 2) (.int .i64 x)).set (k * 2 + 1) (.int .i64 y) = pairCells (ps.set k (x, y)) := by
 rw [pairCells_setA ps x k hk, pairCells_setB _ y k (by simpa using hk)]
 simp [List.getD, hk]

theorem heap_setN {w : World} {g : Nat} {e : TypeId} {cur : Array Value} (hh : w.heap[g]? = some (.cells cur e (0, 0))) (j : Nat) (v : Value) : (w.setCell ⟨g, j, none⟩ v).heap[g]? = some (.cells (cur.setIfInBounds j v) e (0, 0)) := by
 have hlt := (Array.getElem?_eq_some_iff.1 hh).1
 show (w.heap.modify g _)[g]? = _
 rw [Array.getElem?_modify, if_pos rfl, hh]
 rfl
theorem LRow.setN {w : World} {base : Nat} {e : TypeId} {size g n cap : Nat} {xs : List Value} (h : LRow w base e size (.slice (some ⟨g, 0, none⟩) n cap) n xs) (j : Nat) {v : Value} (hv : noDig v) :
  LRow (w.setCell ⟨g, j, none⟩ v) base e size (.slice (some ⟨g, 0, none⟩) n cap) n (xs.set j v) := by
 obtain ⟨⟨hl, h1⟩, hd⟩ := h
 rcases h1 with ⟨h1, _⟩ | ⟨g', cap', cur, hq, hb, hh, h2, h3, h4, h5⟩
 ·
  cases h1
 ·
  injection hq with hq1 hq2 hq3
  injection hq1 with hq1
  injection hq1 with hq1
  subst hq1
  subst hq3
  have hh' := heap_setN hh j v
  refine ⟨⟨by simpa using hl, .inr ⟨g, cap, _, rfl, hb, hh', h2, h3, by simpa using h4, ?_⟩⟩, fun g' hg' => ?_⟩
  ·
   rw [Array.toList_setIfInBounds, List.take_set, h5]
  ·
   simp [Value.ownBlock] at hg'
   subst hg'
   refine NoDig.of_block hh' fun u hu => ?_
   rw [Array.toList_setIfInBounds] at hu
   rcases List.mem_or_eq_of_mem_set hu with hu | rfl
   ·
    obtain ⟨k, hk⟩ := List.mem_iff_getElem?.1 hu
    refine hd g rfl k u ?_
    rw [cell_of_row w g k cur e (0, 0) hh]
    simpa using hk
   ·
    exact hv
theorem LRow.cellP {w : World} {base : Nat} {e : TypeId} {g cap : Nat} {ps : List (Int × Int)} {n : Nat} (h : LRow w base e 2 (.slice (some ⟨g, 0, none⟩) n cap) n (pairCells ps)) (hn : ps.length = n) {i : Nat} (hi : i < n) : PairAt w g (0 + i * 2) (ps.getD i (0, 0)) := by
 subst hn
 obtain ⟨ao, c, hv, hp⟩ := PairsOf.ofRow h
 obtain ⟨b, off, hb, _, hp⟩ := hp (by omega)
 simp only [Value.slice.injEq] at hv
 obtain ⟨rfl, _, rfl⟩ := hv
 simp only [Option.some.injEq, Addr.mk.injEq] at hb
 obtain ⟨rfl, rfl, _⟩ := hb
 exact hp i hi
theorem LRow.frozenP {w : World} {base : Nat} {e : TypeId} {size g n cap : Nat} {xs : List Value} (h : LRow w base e size (.slice (some ⟨g, 0, none⟩) n cap) n xs) (j : Nat) : w.frozen? ⟨g, j, none⟩ = false := by
 rcases h.1.2 with ⟨h1, _⟩ | ⟨g', cap', cur, hq, hb, hh, _⟩
 ·
  cases h1
 ·
  injection hq with hq1 hq2 hq3
  injection hq1 with hq1
  injection hq1 with hq1
  subst hq1
  exact frozen_of_row w g j _ e hh
theorem LRow.madeP {w : World} {base : Nat} {e : TypeId} {g n : Nat} (h : w.ownsRow base e 2 (.slice (some ⟨g, 0, none⟩) n n) n (madeCells #[Value.int .i64 0, Value.int .i64 0] (n * 2)).toList) : LRow w base e 2 (.slice (some ⟨g, 0, none⟩) n n) n (pairCells (List.replicate n (0, 0))) := by
 have e1 : ∀ n : Nat, pairCells (List.replicate n (0, 0)) = List.replicate (n * 2) (Value.int .i64 0) := fun n => by
  induction n with
  | zero => rfl
  | succ n ih => rw [List.replicate_succ, show (n + 1) * 2 = n * 2 + 1 + 1 by omega, List.replicate_succ, List.replicate_succ, ← ih]; rfl
 have e2 : (madeCells #[Value.int .i64 0, Value.int .i64 0] (n * 2)).toList = List.replicate (n * 2) (Value.int .i64 0) := by
  refine List.ext_getElem (by simp [madeCells]) fun k h1 h2 => ?_
  have : k % 2 = 0 ∨ k % 2 = 1 := by omega
  rcases this with c | c <;> simp [madeCells, c]
 rw [e2] at h
 rw [e1]
 refine ⟨h, fun g' hg' => ?_⟩
 rcases h.2 with ⟨h1, _⟩ | ⟨g1, cap', cur, hq, hb, hh, h2, h3, h4, h5⟩
 ·
  cases h1
 ·
  injection hq with hq1 hq2 hq3
  injection hq1 with hq1
  injection hq1 with hq1
  subst hq1
  subst hq3
  simp [Value.ownBlock] at hg'
  subst hg'
  refine NoDig.of_block hh fun u hu => ?_
  have e3 : cur.toList = List.replicate (n * 2) (Value.int .i64 0) := by
   rw [← h5, List.take_of_length_le (by simp; omega)]
  rw [e3] at hu
  rw [List.eq_of_mem_replicate hu]
  exact noDig_i64 0

end Go.Proofs.Ytnjpkfccncjkhaa

namespace Go.Proofs.Ytnjpkfccncjkhaa
open Go.RowKit

set_option maxRecDepth 100000 in
set_option maxHeartbeats 4000000 in
theorem nestCmp_any {l : List (Int × Int)} {m : Int} (i k bx tb : Nat) (v : Value) (w : World) (hg : GoodPcs l m) (hi : i < l.length) (hk : k < l.length) (hv : PairsOf w v l) (hB : w.heap[bx]? = some (.cells #[v] tb (0, 0))) :
  Calls Try.prog 14 #[.int .i64 i, .int .i64 k, .pointer (some ⟨bx, 0, none⟩)] w (RetIntQ ((l.getD k (0, 0)).1 - (l.getD i (0, 0)).1) w) := by
 obtain ⟨ao, cap, rfl, hE⟩ := hv
 obtain ⟨b, off, rfl, hbl, hEE⟩ := hE (by omega)
 obtain ⟨i0, _⟩ := hEE i hi
 obtain ⟨k0, _⟩ := hEE k hk
 have a := hg.at hi
 have c := hg.at hk
 have hc := blk_cell hB 0 _ rfl
 have hi' : (i : Int) < l.length := by omega
 have hk' : (k : Int) < l.length := by omega
 have hi0 : (0 : Int) ≤ i := by omega
 have hk0 : (0 : Int) ≤ k := by omega
 have hlen := hg.len
 clear hE hEE hg
 generalize (l.getD k (0, 0)).1 = x at *
 generalize (l.getD i (0, 0)).1 = y at *
 have hw : IntKind.i64.wrap (x - y) = x - y := IntWalk.i64_in _ (by omega)
 go_enter Try.func14, Try.ntmps14
 go_wp2_with fail
 go_region
 go_wp2_with fail
 go_ret
 exact ⟨rfl, 1, rfl⟩

def RetSort (n : Nat) (key : Nat → Int) (ao : Option Addr) (g : Nat) (w : World) (e : Ending) (w' : World) : Prop :=
 e = .returned (.tuple #[]) ∧ ∃ f, PermI f n ∧ SortTo key f n ∧ (0 < n → ao = some ⟨g, 0, none⟩ ∧ Own w' g .i64 3 (ordL f n)) ∧ Below g w w'

set_option maxRecDepth 100000 in
set_option maxHeartbeats 8000000 in
theorem insSort_any (n : Nat) (key : Nat → Int) (f : Nat → Nat) (g bx cap : Nat) (ao : Option Addr) (w : World) (hn : n ≤ 10) (hP : PermI f n)
  (hO : 0 < n → ao = some ⟨g, 0, none⟩ ∧ Own w g .i64 3 (ordL f n)) (hkey : ∀ i, i < n → 0 ≤ key i ∧ key i ≤ 1000)
  (hf : ∀ i k, i < n → k < n → ∀ W, Below g w W → Calls Try.prog 14 #[.int .i64 i, .int .i64 k, .pointer (some ⟨bx, 0, none⟩)] W (RetIntQ (key k - key i) W)) :
  Calls Try.prog 36 #[.slice ao n cap, .int .i64 0, .int .i64 n, .func (.func 14) #[] #[.pointer (some ⟨bx, 0, none⟩)]] w (RetSort n key ao g w) := by
 have HF := Lib.hid hf
 have HK := Lib.hid hkey
 clear hf hkey
 by_cases hn2 : n < 2
 ·
  have t1 : decide ((1 : Int) < n) = false := decide_eq_false (by omega)
  have HP := Lib.hid hP
  have HO := Lib.hid hO
  have HS : Hid (SortTo key f n) := fun a b h1 h2 => by omega
  clear hP hO
  go_enter Try.func36, Try.ntmps36
  go_wp2_with fail
  go_loop [8] (fun iv => iv = .int .i64 1) (fun _ => 0)
  case atStart => rfl
  case round =>
   subst hrel
   go_wp2_with fail
   go_end0
   exact ⟨rfl, f, HP.out, HS.out, HO.out, Below.refl _ _⟩
 ·
  replace hO := hO (by omega)
  obtain ⟨rfl, hO⟩ := hO
  go_enter Try.func36, Try.ntmps36
  go_wp2_with fail
  go_loopw [8] (fun iv wr => ∃ (i : Nat) (h : Nat → Nat), 1 ≤ i ∧ i ≤ n ∧ iv = .int .i64 i ∧ Hid (PermI h n) ∧ Hid (SortTo key h i) ∧ Own wr g .i64 3 (ordL h n) ∧ Below g w wr)
   (fun iv _ => n - (intOf iv).toNat)
  case atStart => exact ⟨1, f, Nat.le_refl _, by omega, rfl, hP, SortTo.one _ _, hO, Below.refl _ _⟩
  case round =>
   clear hO hP
   obtain ⟨i, h, hi1, hin, rfl, HP, HS, hO, hbel⟩ := hrel
   by_cases hlt : i < n
   ·
    have hlt' : (i : Int) < n := by omega
    go_wp2_with fail
    go_loopw [9] (fun jv wq => ∃ (j : Nat) (h : Nat → Nat), j ≤ i ∧ jv = .int .i64 j ∧ Hid (PermI h n) ∧ Hid (SortX key h i j) ∧ Own wq g .i64 3 (ordL h n) ∧ Below g w wq)
     (fun jv _ => (intOf jv).toNat)
    case atStart => exact ⟨i, h, Nat.le_refl _, rfl, HP, SortX.start HS.out, hO, hbel⟩
    case round =>
     clear HP HS hO hbel
     obtain ⟨j, h, hji, rfl, HP, HX, hO, hbel⟩ := hrel
     by_cases hj0 : 0 < j
     ·
      have hj0' : decide ((j : Int) > 0) = true := decide_eq_true (by omega)
      have hjn : j < n := by omega
      have hjn' : (j : Int) < n := by omega
      obtain ⟨p, hp⟩ : ∃ p, j - 1 = p := ⟨_, rfl⟩
      have hpn : p < n := by omega
      have hpn' : (p : Int) < n := by omega
      have hp0 : (0 : Int) ≤ p := by omega
      have hjp : (0 : Int) ≤ j := by omega
      have hwp : IntKind.i64.wrap ((j : Int) - 1) = (p : Int) := by rw [IntWalk.i64_in _ (by omega)]; omega
      have c1 := hO.cell j (by rw [ordL_length]; exact hjn)
      have c2 := hO.cell p (by rw [ordL_length]; exact hpn)
      rw [ordL_get h hjn] at c1
      rw [ordL_get h hpn] at c2
      have f1 := hO.frozen j
      have f2 := hO.frozen p
      have hgl := hO.lt
      have ka := HK.out (h j) (HP.out.lt j hjn)
      have kb := HK.out (h p) (HP.out.lt p hpn)
      have HC : Hid (∀ W, Below g w W → Calls Try.prog 14 #[.int .i64 (h j : Nat), .int .i64 (h p : Nat), .pointer (some ⟨bx, 0, none⟩)] W (fun e w' => e = .returned (.int .i64 (key (h p) - key (h j))) ∧ Quiet W w')) := HF.out (h j) (h p) (HP.out.lt j hjn) (HP.out.lt p hpn)
      have HBL := Lib.hid hbel
      have HO := Lib.hid hO
      by_cases c : key (h p) < key (h j)
      ·
       have tc : decide (key (h p) - key (h j) < 0) = true := decide_eq_true (by omega)
       have HX2 : Hid (SortX key (swO h j) i (j - 1)) := HX.out.sw hj0 hji (by rw [hp]; exact c)
       have HP2 : Hid (PermI (swO h j) n) := HP.out.sw hj0 hjn
       have HSW : Hid (((ordL h n).set j (h p)).set p (h j) = ordL (swO h j) n) := by show _ = _; rw [← hp]; exact ordL_sw h hj0 hjn
       generalize key (h p) - key (h j) = dk at *
       generalize h j = hj at *
       generalize h p = hpv at *
       go_wp2_with fail
       go_quiet ((go_at_call 14; first | exact quiet_at0 (HC.out _ (below_dn HBL.out _)) | exact quiet_at (HC.out _ (below_dn HBL.out _))))
       go_wp2_with fail
       go_region
       go_wp2_with fail
       exact ⟨⟨p, swO h j, by omega, rfl, HP2, by rw [← hp]; exact HX2, by rw [← HSW.out]; exact ((HO.out.drewN _).store j hpv).store p hj, ((below_dn HBL.out _).setCell (Nat.le_refl _) _).setCell (Nat.le_refl _) _⟩, by simp [intOf]; omega⟩
      ·
       have tc : decide (key (h p) - key (h j) < 0) = false := decide_eq_false (by omega)
       have HS2 : Hid (SortTo key h (i + 1)) := HX.out.stop (.inr (by rw [hp]; omega))
       generalize key (h p) - key (h j) = dk at *
       generalize h j = hj at *
       generalize h p = hpv at *
       go_wp2_with fail
       go_quiet ((go_at_call 14; first | exact quiet_at0 (HC.out _ (below_dn HBL.out _)) | exact quiet_at (HC.out _ (below_dn HBL.out _))))
       go_wp2_with fail
       exact ⟨⟨i + 1, h, by omega, by omega, by go_num, HP, HS2, HO.out.drewN _, below_dn HBL.out _⟩, meas_up hlt⟩
     ·
      obtain rfl : j = 0 := by omega
      have hj0' : decide (((0 : Nat) : Int) > 0) = false := by decide
      have HS2 : Hid (SortTo key h (i + 1)) := HX.out.stop (.inl rfl)
      have HO := Lib.hid hO
      have HBL := Lib.hid hbel
      go_wp2_with fail
      go_quiet (fail)
      go_wp2_with fail
      exact ⟨⟨i + 1, h, by omega, by omega, by go_num, HP, HS2, HO.out.drewN _, below_dn HBL.out _⟩, meas_up hlt⟩
   ·
    obtain rfl : i = n := by omega
    go_wp2_with fail
    go_end0
    exact ⟨rfl, h, HP.out, HS.out, fun _ => ⟨rfl, hO⟩, hbel⟩

set_option maxRecDepth 100000 in
set_option maxHeartbeats 8000000 in
theorem stableCmp_any (n : Nat) (key : Nat → Int) (f : Nat → Nat) (g bx cap : Nat) (ao : Option Addr) (w : World) (hn : n ≤ 10) (hP : PermI f n)
  (hO : 0 < n → ao = some ⟨g, 0, none⟩ ∧ Own w g .i64 3 (ordL f n)) (hkey : ∀ i, i < n → 0 ≤ key i ∧ key i ≤ 1000)
  (hf : ∀ i k, i < n → k < n → ∀ W, Below g w W → Calls Try.prog 14 #[.int .i64 i, .int .i64 k, .pointer (some ⟨bx, 0, none⟩)] W (RetIntQ (key k - key i) W)) :
  Calls Try.prog 22 #[.slice ao n cap, .int .i64 n, .func (.func 14) #[] #[.pointer (some ⟨bx, 0, none⟩)]] w (RetSort n key ao g w) := by
 have H := Lib.hid (insSort_any n key f g bx cap ao w hn hP hO hkey hf)
 have t1 : decide ((20 : Int) ≤ n) = false := decide_eq_false (by omega)
 have t2 : decide ((20 : Int) < n) = false := decide_eq_false (by omega)
 clear hP hO hkey hf
 go_enter Try.func22, Try.ntmps22
 go_wp2_with fail
 go_loop [7, 8] (fun av bv => av = .int .i64 0 ∧ bv = .int .i64 20) (fun _ _ => 0)
 case atStart => exact ⟨rfl, rfl⟩
 case round =>
  obtain ⟨rfl, rfl⟩ := hrel
  go_wp2_with fail
  refine H.out.mono ?_
  rintro e w1 ⟨rfl, hr⟩
  have HR := Lib.hid hr
  clear hr
  go_wp2_with fail
  go_loop [6] (fun bv => bv = .int .i64 20) (fun _ => 0)
  case atStart => rfl
  case round =>
   subst hrel
   go_wp2_with fail
   go_end0
   exact ⟨rfl, HR.out⟩

set_option maxHeartbeats 4000000 in
theorem sortStable_any (n : Nat) (key : Nat → Int) (f : Nat → Nat) (g bx cap : Nat) (ao : Option Addr) (w : World) (hn : n ≤ 10) (hP : PermI f n)
  (hO : 0 < n → ao = some ⟨g, 0, none⟩ ∧ Own w g .i64 3 (ordL f n)) (hkey : ∀ i, i < n → 0 ≤ key i ∧ key i ≤ 1000)
  (hf : ∀ i k, i < n → k < n → ∀ W, Below g w W → Calls Try.prog 14 #[.int .i64 i, .int .i64 k, .pointer (some ⟨bx, 0, none⟩)] W (RetIntQ (key k - key i) W)) :
  Calls Try.prog 13 #[.slice ao n cap, .func (.func 14) #[] #[.pointer (some ⟨bx, 0, none⟩)]] w (RetSort n key ao g w) := by
 have H := Lib.hid (stableCmp_any n key f g bx cap ao w hn hP hO hkey hf)
 clear hP hO hkey hf
 go_enter Try.func13, Try.ntmps13
 go_wp2_with fail
 refine H.out.mono ?_
 rintro e w1 ⟨rfl, hr⟩
 have HR := Lib.hid hr
 clear hr
 go_wp2_with fail
 go_end0
 exact ⟨rfl, HR.out⟩

end Go.Proofs.Ytnjpkfccncjkhaa

namespace Go.Proofs.Ytnjpkfccncjkhaa
open Go.RowKit

theorem LRow.capOk {w : World} {base : Nat} {e : TypeId} {size : Nat} {v : Value} {n : Nat} {xs : List Value} (h : LRow w base e size v n xs) : ∃ ao cap, v = .slice ao n cap ∧ n ≤ cap ∧ cap ≤ maxLen := by
 rcases h.1.2 with ⟨rfl, rfl⟩ | ⟨g, cap, cur, rfl, _, _, h1, h2, _⟩
 ·
  exact ⟨none, 0, rfl, Nat.le_refl _, by unfold maxLen; omega⟩
 ·
  exact ⟨_, _, rfl, h1, h2⟩
theorem LRow.lit {w : World} {base : Nat} {e : TypeId} {size : Nat} (hb : base ≤ w.heap.size) (cs : Array Value) (n : Nat) (hm : n ≤ maxLen) (hs : cs.size = n * size) (hd : ∀ u ∈ cs.toList, noDig u) :
  LRow (w.alloc (.cells cs e)) base e size (.slice (some ⟨w.heap.size, 0, none⟩) n n) n cs.toList := by
 refine ⟨⟨by simpa using hs, .inr ⟨w.heap.size, n, cs, rfl, hb, heap_alloc_new w _, Nat.le_refl _, hm, hs, List.take_of_length_le (by rw [Array.length_toList, hs]; exact Nat.le_refl _)⟩⟩, fun g hg => ?_⟩
 obtain rfl : w.heap.size = g := by simpa [Value.ownBlock] using hg
 exact NoDig.of_block (heap_alloc_new w _) hd

end Go.Proofs.Ytnjpkfccncjkhaa

namespace Go.Proofs.Ytnjpkfccncjkhaa
open Go.RowKit

def RetNestP (l : List (Int × Int)) (m : Int) (w : World) (e : Ending) (w' : World) : Prop :=
 ∃ (ov : Value) (out : List (Int × Int)) (n : Int), e = .returned (.tuple #[ov, .int .i64 n, .int .i64 0]) ∧ Hid (out.length = l.length ∧ accB l m out l.length = true ∧ endZ l out l.length = n ∧ m * (n - longZ l l.length) ≤ 2 * areaZ l l.length) ∧ PairsOf w' ov out ∧ CapOk ov ∧ Below w.heap.size w w'

theorem LRow.ordO {w : World} {base n : Nat} {v : Value} (h : LRow w base 3 1 v n (idxCells (List.range n))) :
  ∃ ao cap g, v = .slice ao n cap ∧ base ≤ g ∧ (0 < n → ao = some ⟨g, 0, none⟩ ∧ Own w g .i64 3 (ordL (fun j => j) n)) := by
 rcases Nat.eq_zero_or_pos n with h0 | hp
 ·
  rcases h.1.2 with ⟨rfl, _⟩ | ⟨g, cap, cur, rfl, hb, _⟩
  ·
   exact ⟨none, 0, base, by rw [h0], Nat.le_refl _, fun h => by omega⟩
  ·
   exact ⟨_, cap, g, rfl, hb, fun h => by omega⟩
 ·
  obtain ⟨g, cap, rfl⟩ := ownsRow_some h.1 hp
  rw [ordL_id]
  obtain ⟨ho, h1, h2, h3⟩ := Own.of_ownsRow (k := .i64) (ds := List.range n) (by simp) h.1
  exact ⟨_, cap, g, rfl, h3, fun _ => ⟨rfl, ho⟩⟩
theorem idx_range (n : Nat) : idxCells (List.range (n + 1)) = idxCells (List.range n) ++ [.int .i64 (n : Int)] := by simp [idxCells, List.range_succ]
theorem info_shelf : (Try.prog.info? 63).map (fun i => (i.zero, i.size, i.bytes)) = some (some (.agg #[.int .i64 0, .int .i64 0]), 2, 16) := by kernel_rfl
theorem info_piece : (Try.prog.info? 27).map (fun i => (i.zero, i.size, i.bytes)) = some (some (.agg #[.int .i64 0, .int .i64 0]), 2, 16) := by kernel_rfl
theorem info_pt : (Try.prog.info? 36).map (fun i => (i.zero, i.size, i.bytes)) = some (some (.agg #[.int .i64 0, .int .i64 0]), 2, 16) := by kernel_rfl
theorem nestO (l : List (Int × Int)) (f : Nat → Nat) {j : Nat} (h : PermI f l.length) (hj : j < l.length) : ∀ k, k < j → f k ≠ f j := fun k hk e => by
 have := h.inj k j (by omega) hj e
 omega
theorem nest_hw {l : List (Int × Int)} {w : Int} {ord : Nat → Nat} {j : Nat} {sh out : List (Int × Int)} {e : Int} (H : NestInv l w ord j sh out e) (k : Nat) (hk : k < sh.length) : 0 ≤ (sh.getD k (0, 0)).1 ∧ (sh.getD k (0, 0)).1 ≤ e ∧ 1 ≤ (sh.getD k (0, 0)).2 ∧ (sh.getD k (0, 0)).2 ≤ w := by
 obtain ⟨_, _, _, s, h, B, aL, a1, _⟩ := H
 have := a1 k hk
 unfold gP at this
 omega

theorem LRow.oth {w : World} {base : Nat} {e : TypeId} {size : Nat} {v : Value} {n : Nat} {xs : List Value} (h : LRow w base e size v n xs) {a : Addr} (ha : a.block < base) (u : Value) : LRow (w.setCell a u) base e size v n xs :=
 h.keep fun g hg => heap_setCell_other _ _ _ _ (fun e => by have := (h.lt hg).2; omega)
theorem LRow.oth2 {w : World} {base : Nat} {e : TypeId} {size : Nat} {g n cap : Nat} {xs : List Value} (h : LRow w base e size (.slice (some ⟨g, 0, none⟩) n cap) n xs) {a : Addr} (ha : a.block ≠ g) (u : Value) : LRow (w.setCell a u) base e size (.slice (some ⟨g, 0, none⟩) n cap) n xs :=
 h.keep fun g' hg => heap_setCell_other _ _ _ _ (fun e => by simp [Value.ownBlock] at hg; exact ha (by rw [← e, hg]))
theorem SortTo.mono2 {key : Nat → Int} {f : Nat → Nat} {n a b : Nat} (h : SortTo key f n) (hab : a < b) (hb : b < n) : key (f b) ≤ key (f a) := h a b hab hb

set_option maxRecDepth 100000 in
set_option maxHeartbeats 16000000 in
theorem nest_any {l : List (Int × Int)} {m : Int} (v : Value) (w : World) (hg : GoodPcs l m) (hv : PairsOf w v l) : Calls Try.prog 5 #[v, .int .i64 m] w (RetNestP l m w) := by
 have HG := Lib.hid hg
 have HV := Lib.hid hv
 have hlen := hg.len
 have hm1 := hg.pcs.1
 have hm2 := hg.w1
 obtain ⟨av, cv, rfl, hE⟩ := hv
 have HE := Lib.hid hE
 clear hE
 obtain ⟨iI, hiI, hzI0, hzI1, hzI2⟩ := info_parts info_int
 obtain ⟨iS, hiS, hzS0, hzS1, hzS2⟩ := info_parts info_shelf
 obtain ⟨iP, hiP, hzP0, hzP1, hzP2⟩ := info_parts info_pt
 have hzd : ∀ u ∈ (Value.int .i64 0).cells.toList, noDig u := by
  intro u hu
  simp [Value.cells] at hu
  rw [hu]
  exact noDig_i64 0
 have hzd2 := zd2
 have hB0 := blk_new w #[.slice av l.length cv] 24
 have hal0 := (Below.refl w.heap.size w).alloc (Nat.le_refl _) (.cells #[.slice av l.length cv] 24)
 have hc0 := blk_cell hB0 0 _ rfl
 clear hg
 go_enter Try.func5, Try.ntmps5
 go_wp2_with fail
 go_step3
 go_wp2_with fail
 refine (checkPieces_ok _ _ HG.out (HV.out.below hal0)).mono ?_
 rintro e w1 ⟨rfl, hb1⟩
 have hBx := blk_keep hB0 hb1 (blk_lt hB0)
 have hx1 := ext_trans hal0 hb1
 have HBlt := Lib.hid (blk_lt hBx)
 have HV1 := Lib.hid (HV.out.below hx1)
 have HBX := Lib.hid hBx
 have hcx := blk_cell hBx 0 _ rfl
 have hsz1 : w.heap.size ≤ w1.heap.size := hx1.size
 clear hB0 hal0 hb1 hc0
 go_wp2_with fail
 go_loopw [8, 26] (fun ov iv wr => ∃ (i : Nat), i ≤ l.length ∧ iv = .int .i64 i ∧ LRow wr w1.heap.size 3 1 ov i (idxCells (List.range i)) ∧ Below w1.heap.size w1 wr)
  (fun _ iv _ => l.length - (intOf iv).toNat)
 case atStart => exact ⟨0, Nat.zero_le _, rfl, LRow.nil _ _ _ _, Below.refl _ _⟩
 case round =>
  obtain ⟨i, hi, rfl, hL, hbel⟩ := hrel
  by_cases hlt : i < l.length
  ·
   have hlt' : (i : Int) < l.length := by omega
   have hge' : (0 : Int) ≤ i := by omega
   have hx2 := (Below.refl wr.heap.size wr).alloc (Nat.le_refl _) (.cells #[.int .i64 (i : Int)] 3)
   have HCN := Lib.hid (cell_one_new wr (.int .i64 (i : Int)) 3)
   have HL2 := Lib.hid (hL.below hx2)
   clear hL
   go_wp2_with (at_builtin; refine wpList_append_lrow _ rfl (.tmp 29) (.tmp 31) 58 rfl w1.heap.size 3 iI (.int .i64 0) 1 8 Try.underlying58 hiI hzI0 hzI1 hzI2 rfl (by decide) hzd _ _ _ rfl HL2.out ⟨wr.heap.size, 0, none⟩ 1 1 [.int .i64 (i : Int)] rfl rfl HCN.out (by simp [Value.oneCell']) (by intro u hu; simp at hu; rw [hu]; exact noDig_i64 _) (by omega) (by unfold maxLen; omega) (by omega) (by simp; have := hbel.size; omega) ?_)
   intro g cap' w3 hL3 hgr hat
   have hx3 : Below w1.heap.size w1 w3 := (hbel.trans (hx2.mono hbel.size)).grown hgr (by simp; have := hbel.size; omega) (ownBlock_base HL2.out.1)
   go_wp2_with fail
   exact ⟨⟨i + 1, by omega, by go_num, by rw [idx_range]; exact hL3, hx3⟩, meas_up hlt⟩
  ·
   obtain rfl : i = l.length := by omega
   obtain ⟨ao, cap, g, rfl, hgb, hO⟩ := hL.ordO
   clear hL
   go_wp2_with fail
   refine (sortStable_any l.length (fun i => (gP l i).1) (fun j => j) g w.heap.size cap ao _ hlen (PermI.id _) hO (fun i hi => by have := HG.out.at hi; unfold gP; omega) (fun i k hi hk W hW => ?_)).mono ?_
   ·
    exact nestCmp_any i k w.heap.size _ _ W HG.out hi hk (HV1.out.below (hbel.trans (hW.mono hgb))) (blk_keep HBX.out (hbel.trans (hW.mono hgb)) HBlt.out)
   rintro e w2 ⟨rfl, f, hP, hS, hO2, hb2⟩
   have HP := Lib.hid hP
   have HS := Lib.hid hS
   have hx2 := hbel.trans (hb2.mono hgb)
   have hcx2 := blk_cell (blk_keep HBX.out hx2 HBlt.out) 0 _ rfl
   clear hP hS hO hb2 hbel hcx hBx
   go_wp2_with (at_make; refine wpList_make_full _ rfl _ _ 28 rfl w2.heap.size 36 iP _ 2 Try.underlying28 hiP hzP0 hzP1 _ _ _ _ l.length rfl rfl (by omega) (by omega) (by rw [hzP2]; omega) (by unfold maxLen; omega) (by omega) ?_)
   intro w3 hown hgr
   have hR := LRow.madeP hown
   have hb3 : Below w2.heap.size w2 w3 := (Below.refl _ _).grown hgr (Nat.le_refl _) (by simp)
   have hG3 : w2.heap.size < w3.heap.size := (hR.lt rfl).1
   have Hxw2 := Lib.hid (hx1.trans (hx2.mono hsz1))
   have hgG : 0 < l.length → g < w2.heap.size := fun h => (hO2 h).2.lt
   have HG2 : Hid (w1.heap.size ≤ w2.heap.size) := hx2.size
   clear hown hgr hcx2
   have hwG : w.heap.size ≤ w2.heap.size := Hxw2.out.size
   generalize hGG : w2.heap.size = G2 at *
   go_wp2_with fail
   go_step3
   go_wp2_with fail
   go_loopw [11, 12, 42] (fun sv ev iv wr => ∃ (j : Nat) (sh out : List (Int × Int)) (e : Int), j ≤ l.length ∧ iv = .int .i64 j ∧ ev = .int .i64 e ∧ (0 ≤ e ∧ e ≤ 1000 * j) ∧ LRow wr w3.heap.size 63 2 sv sh.length (pairCells sh) ∧ LRow wr G2 36 2 (.slice (some ⟨G2, 0, none⟩) l.length l.length) l.length (pairCells out) ∧ Hid (NestInv l m f j sh out e) ∧ w3.heap.size ≤ wr.heap.size ∧ Below G2 w2 wr)
    (fun _ _ iv _ => l.length - (intOf iv).toNat)
   case atStart => exact ⟨0, [], List.replicate l.length (0, 0), 0, Nat.zero_le _, rfl, rfl, ⟨by omega, by omega⟩, LRow.nil _ _ _ _, hR, nest_zero l m f _ (by simp), Nat.le_refl _, hb3⟩
   case round =>
    clear hR hb3
    obtain ⟨j, sh, out, e, hj, rfl, rfl, he, hLs, hLo, HN, h3P, hbel⟩ := hrel
    by_cases hlt : j < l.length
    ·
     replace hO2 := hO2 (by omega)
     obtain ⟨rfl, hOw⟩ := hO2
     obtain ⟨b, off, rfl, hbl, hEE⟩ := HE.out (by omega)
     have hiN := HP.out.lt j hlt
     have hgG := hgG (by omega)
     have hxw := Hxw2.out.trans (hbel.mono (by omega))
     have c0 := (hOw.below hbel hgG).cell j (by rw [ordL_length]; exact hlt)
     rw [ordL_get f hlt] at c0
     obtain ⟨q0, q1⟩ := (hEE (f j) hiN).below hxw hbl
     have hbx : wr.cell? ⟨w.heap.size, 0, none⟩ = some (.slice (some ⟨b, off, none⟩) l.length cv) := blk_cell (blk_keep (blk_keep HBX.out hx2 HBlt.out) hbel (Nat.lt_of_lt_of_le HBlt.out HG2.out)) 0 _ rfl
     have hp := HG.out.at hiN
     have hdd : ∀ q, q < j → (gP l (f j)).1 ≤ (gP l (f q)).1 := fun q hq => HS.out.mono2 hq hlt
     have HFIT : Hid (∀ k, k < sh.length → (sh.getD k (0, 0)).2 + (l.getD (f j) (0, 0)).2 ≤ m → NestInv l m f (j + 1) (sh.set k ((sh.getD k (0, 0)).1, (sh.getD k (0, 0)).2 + (l.getD (f j) (0, 0)).2)) (out.set (f j) (sh.getD k (0, 0))) e) := fun k hk h => nest_fit HN.out hiN (nestO l f HP.out hlt) hp.1.1 hp.2.1 hdd hk h
     have HNEW : Hid ((∀ k, k < sh.length → m < (sh.getD k (0, 0)).2 + (l.getD (f j) (0, 0)).2) → NestInv l m f (j + 1) (sh ++ [(e, (l.getD (f j) (0, 0)).2)]) (out.set (f j) (e, 0)) (e + (l.getD (f j) (0, 0)).1)) := fun h => nest_new HN.out hiN (nestO l f HP.out hlt) hp.1.1 hp.2.1 hp.2.2 hdd h
     have Hhw := Lib.hid (nest_hw HN.out)
     have Hol : Hid (out.length = l.length) := HN.out.outlen
     have hfew : sh.length ≤ 10 := by have := HN.out.few; omega
     obtain ⟨ao3, cap3, rfl, _, _⟩ := hLs.capOk
     have hlt' : (j : Int) < l.length := by omega
     have hge' : (0 : Int) ≤ j := by omega
     clear hEE hdd HN hOw
     generalize (l.getD (f j) (0, 0)).1 = x at *
     generalize (l.getD (f j) (0, 0)).2 = y at *
     generalize f j = i at *
     have hiN' : (i : Int) < l.length := by omega
     have hi0 : (0 : Int) ≤ i := by omega
     have hbl2 : b < wr.heap.size := Nat.lt_of_lt_of_le hbl hxw.size
     have hwx : w.heap.size < wr.heap.size := World.block_lt_of_cell? (h := hbx)
     have hgw : g < wr.heap.size := World.block_lt_of_cell? (h := c0)
     have hNb := blk_new wr #[.int .i64 x, .int .i64 y] 27
     have hal := (Below.refl wr.heap.size wr).alloc (Nat.le_refl _) (.cells #[.int .i64 x, .int .i64 y] 27)
     have hbel1 := hbel.alloc (by have := hLo.lt (g := G2) rfl; omega) (.cells #[.int .i64 x, .int .i64 y] 27)
     have hLs1 := hLs.below hal
     have hLo1 := hLo.below hal
     have HLP : Hid (∀ q, (Value.slice ao3 sh.length cap3).ownBlock = some q → q < wr.heap.size) := fun q hq => (hLs.lt hq).1
     have hPG : wr.heap.size ≠ G2 := fun h => by have := (hLo.lt (g := G2) rfl).1; omega
     go_wp2_with fail
     generalize hWP : wr.heap.size = P9 at *
     generalize wr.alloc (.cells #[.int .i64 x, .int .i64 y] 27) = W1 at *
     go_loopw [52] (fun kv wq => ∃ k : Nat, k ≤ sh.length ∧ kv = .int .i64 k ∧ Hid (∀ q, q < k → m < (sh.getD q (0, 0)).2 + y) ∧ Below W1.heap.size W1 wq)
      (fun kv _ => sh.length - (intOf kv).toNat)
     case atStart => exact ⟨0, Nat.zero_le _, rfl, fun q hq => by omega, Below.refl _ _⟩
     case round =>
      obtain ⟨k, hk, rfl, hno, hxq⟩ := hrel
      by_cases hkl : k < sh.length
      ·
       obtain ⟨g3, cap4, hv3⟩ := ownsRow_some hLs.1 (show 0 < sh.length by omega)
       simp only [Value.slice.injEq] at hv3
       obtain ⟨rfl, _, rfl⟩ := hv3
       have hLs2 := hLs1.below hxq
       have hLo2 := hLo1.below hxq
       obtain ⟨r0, r1⟩ := hLs2.cellP rfl hkl
       rw [Nat.zero_add] at r0 r1
       have hhw := Hhw.out k hkl
       have hNq := blk_keep hNb hxq (blk_lt hNb)
       have n1 := blk_cell hNq 1 (.int .i64 y) rfl
       have hg3 := (hLs2.lt rfl).1
       have hkl' : (k : Int) < sh.length := by omega
       have hkg' : (0 : Int) ≤ k := by omega
       have HF := Lib.hid (HFIT.out k hkl)
       generalize hsk : sh.getD k (0, 0) = sk at *
       obtain ⟨s0, s1⟩ := sk
       dsimp only at r0 r1 hhw HF
       have hws : IntKind.i64.wrap (s1 + y) = s1 + y := IntWalk.i64_in _ (by omega)
       have hal2 := (Below.refl wr.heap.size wr).alloc (Nat.le_refl _) (.cells #[.int .i64 s0, .int .i64 s1] 63)
       have hxe := hxq.alloc hxq.size (.cells #[.int .i64 s0, .int .i64 s1] 63)
       have hM := blk_new wr #[.int .i64 s0, .int .i64 s1] 63
       have m0 := blk_cell hM 0 (.int .i64 s0) rfl
       have m1 := blk_cell hM 1 (.int .i64 s1) rfl
       have a1 := (hal2.cell (p := ⟨P9, 1, none⟩) (blk_lt hNq)).trans n1
       by_cases c : s1 + y ≤ m
       ·
        have t : decide (s1 + y ≤ m) = true := decide_eq_true c
        have HI := Lib.hid (HF.out c)
        have hLo3 := hLo2.below hal2
        have hLs3 := hLs2.below hal2
        have fo0 := hLo3.frozenP (i * 2)
        have fo1 := hLo3.frozenP (i * 2 + 1)
        obtain ⟨p0, p1⟩ := hLo3.cellP Hol.out hiN
        rw [Nat.zero_add] at p0 p1
        have hL5 := (hLo3.setN (i * 2) (v := .int .i64 s0) (noDig_i64 s0)).setN (i * 2 + 1) (v := .int .i64 s1) (noDig_i64 s1)
        rw [pairCells_set12 out s0 s1 i (by rw [Hol.out]; exact hiN)] at hL5
        have hS5 := (hLs3.oth (a := ⟨G2, i * 2, none⟩) hG3 (.int .i64 s0)).oth (a := ⟨G2, i * 2 + 1, none⟩) hG3 (.int .i64 s1)
        have hN5 : (((wr.alloc (.cells #[.int .i64 s0, .int .i64 s1] 63)).setCell ⟨G2, i * 2, none⟩ (.int .i64 s0)).setCell ⟨G2, i * 2 + 1, none⟩ (.int .i64 s1)).heap[P9]? = some (.cells #[.int .i64 x, .int .i64 y] 27 (0, 0)) := by
         rw [heap_setCell_other _ _ _ _ hPG, heap_setCell_other _ _ _ _ hPG]
         exact blk_keep hNq hal2 (blk_lt hNq)
        have hB5 := ((hbel1.trans (hxe.mono (by rw [← hGG]; exact hbel1.size))).setCell (p := ⟨G2, i * 2, none⟩) (Nat.le_refl _) (.int .i64 s0)).setCell (p := ⟨G2, i * 2 + 1, none⟩) (Nat.le_refl _) (.int .i64 s1)
        go_wp2_with fail
        generalize (((wr.alloc (.cells #[.int .i64 s0, .int .i64 s1] 63)).setCell ⟨G2, i * 2, none⟩ (.int .i64 s0)).setCell ⟨G2, i * 2 + 1, none⟩ (.int .i64 s1)) = W5 at *
        obtain ⟨r0', r1'⟩ := hS5.cellP rfl hkl
        rw [hsk] at r0' r1'
        rw [Nat.zero_add] at r0' r1'
        dsimp only at r0' r1'
        have f5 := hS5.frozenP (k * 2 + 1)
        have n5 := blk_cell hN5 1 (.int .i64 y) rfl
        go_region
        go_wp2_with fail
        have hg3G : w3.heap.size ≤ g3 := (hS5.lt (g := g3) rfl).2
        have hgP : g3 < P9 := HLP.out g3 rfl
        have hS6 := hS5.setN (k * 2 + 1) (v := .int .i64 (s1 + y)) (noDig_i64 _)
        rw [pairCells_setB sh (s1 + y) k hkl, hsk] at hS6
        have hL6 := hL5.oth2 (a := ⟨g3, k * 2 + 1, none⟩) (show g3 ≠ G2 by omega) (.int .i64 (s1 + y))
        have hB6 := hB5.setCell (p := ⟨g3, k * 2 + 1, none⟩) (show G2 ≤ g3 by omega) (.int .i64 (s1 + y))
        have hP6 := blk_lt ((heap_setCell_other W5 ⟨g3, k * 2 + 1, none⟩ P9 (.int .i64 (s1 + y)) (show P9 ≠ g3 by omega)).trans hN5)
        generalize W5.setCell ⟨g3, k * 2 + 1, none⟩ (.int .i64 (s1 + y)) = W6 at *
        exact ⟨⟨j + 1, sh.set k (s0, s1 + y), out.set i (s0, s1), e, by omega, by go_num, rfl, ⟨by omega, by omega⟩, by rw [List.length_set]; exact hS6.below (Below.refl _ _).drew, hL6.below (Below.refl _ _).drew, HI, (show w3.heap.size ≤ W6.heap.size by omega), hB6.drew⟩, meas_up hlt⟩
       ·
        have t : decide (s1 + y ≤ m) = false := decide_eq_false c
        have Hno : Hid (∀ q, q < k + 1 → m < (sh.getD q (0, 0)).2 + y) := fun q hq => by
         rcases Nat.lt_or_ge q k with h | h
         ·
          exact hno.out q h
         ·
          obtain rfl : q = k := by omega
          rw [hsk]
          show m < s1 + y
          omega
        go_wp2_with fail
        exact ⟨⟨k + 1, by omega, by go_num, Hno, hxe⟩, meas_up hkl⟩
      ·
       obtain rfl : k = sh.length := by omega
       have HI := Lib.hid (HNEW.out hno.out)
       have hLs2 := hLs1.below hxq
       have hLo2 := hLo1.below hxq
       have hNq := blk_keep hNb hxq (blk_lt hNb)
       have fo0 := hLo2.frozenP (i * 2)
       have fo1 := hLo2.frozenP (i * 2 + 1)
       obtain ⟨p0, p1⟩ := hLo2.cellP Hol.out hiN
       rw [Nat.zero_add] at p0 p1
       have hL5 := (hLo2.setN (i * 2) (v := .int .i64 e) (noDig_i64 e)).setN (i * 2 + 1) (v := .int .i64 0) (noDig_i64 0)
       rw [pairCells_set12 out e 0 i (by rw [Hol.out]; exact hiN)] at hL5
       have hS5 := (hLs2.oth (a := ⟨G2, i * 2, none⟩) hG3 (.int .i64 e)).oth (a := ⟨G2, i * 2 + 1, none⟩) hG3 (.int .i64 0)
       have hN5 : ((wr.setCell ⟨G2, i * 2, none⟩ (.int .i64 e)).setCell ⟨G2, i * 2 + 1, none⟩ (.int .i64 0)).heap[P9]? = some (.cells #[.int .i64 x, .int .i64 y] 27 (0, 0)) := by
        rw [heap_setCell_other _ _ _ _ hPG, heap_setCell_other _ _ _ _ hPG]
        exact hNq
       have hB5 := ((hbel1.trans (hxq.mono (by rw [← hGG]; exact hbel1.size))).setCell (p := ⟨G2, i * 2, none⟩) (Nat.le_refl _) (.int .i64 e)).setCell (p := ⟨G2, i * 2 + 1, none⟩) (Nat.le_refl _) (.int .i64 0)
       go_upto_region 26 with (fail)
       generalize ((wr.setCell ⟨G2, i * 2, none⟩ (.int .i64 e)).setCell ⟨G2, i * 2 + 1, none⟩ (.int .i64 0)) = W5 at *
       have n5 := blk_cell hN5 1 (.int .i64 y) rfl
       have hx5 := (Below.refl W5.heap.size W5).alloc (Nat.le_refl _) (.cells #[.int .i64 e, .int .i64 y] 63)
       have HL6 := Lib.hid (hS5.below hx5)
       have HCN := Lib.hid (cell_new2 W5 (.int .i64 e) (.int .i64 y) 63)
       have hPW := blk_lt hN5
       have hGW : w3.heap.size ≤ W5.heap.size := by omega
       go_wp2_with (at_builtin; refine wpList_append_lrow _ rfl (.tmp 88) (.tmp 93) 61 rfl w3.heap.size 63 iS _ 2 16 Try.underlying61 hiS hzS0 hzS1 hzS2 rfl (by decide) hzd2 _ _ _ rfl HL6.out ⟨W5.heap.size, 0, none⟩ 1 1 [.int .i64 e, .int .i64 y] rfl rfl HCN.out (one2 _ _) (nd2 _ _) (by omega) (by unfold maxLen; omega) (by omega) (by simp; omega) ?_)
       intro gs caps w6 hL7 hgr hat
       have hN7 : w6.heap[P9]? = some (.cells #[.int .i64 x, .int .i64 y] 27 (0, 0)) := by
        rw [hgr.block _ (by simp; omega) (fun e => by have := HLP.out _ e.symm; omega)]
        exact blk_keep hN5 hx5 (blk_lt hN5)
       have n7 := blk_cell hN7 0 (.int .i64 x) rfl
       have hwe : IntKind.i64.wrap (e + x) = e + x := IntWalk.i64_in _ (by omega)
       have hO7 := (hL5.below hx5).grown hgr (fun g' hg' e => by
        simp [Value.ownBlock] at hg'
        have := ownBlock_base HL6.out.1 g' e.symm
        omega)
       have hB7 : Below G2 w2 w6 := (hB5.trans (hx5.mono (by omega))).grown hgr (by simp; omega) (fun q hq => by have := ownBlock_base HL6.out.1 q hq; omega)
       go_wp2_with fail
       exact ⟨⟨j + 1, sh ++ [(e, y)], out.set i (e, 0), e + x, by omega, by go_num, rfl, ⟨by omega, by omega⟩, by rw [pairCells_append, List.length_append]; exact hL7, hO7, HI, (by have := blk_lt hN7; omega), hB7⟩, meas_up hlt⟩
    ·
     obtain rfl : j = l.length := by omega
     have hol := HN.out.outlen
     have HD := Lib.hid (nest_done HG.out.pcs HP.out (fun j hj => by
      rcases Nat.eq_zero_or_pos j with h | h
      ·
       rw [h]; exact Int.le_refl _
      ·
       exact HS.out.mono2 h hj) HG.out.big hlen HN.out)
     have HPO : Hid (PairsOf wr (.slice (some ⟨G2, 0, none⟩) l.length l.length) out) := by
      have h := hLo
      rw [← hol] at h ⊢
      exact PairsOf.ofRow h
     have hxw := Hxw2.out.trans (hbel.mono (by omega))
     go_wp2_with fail
     go_ret3
     exact ⟨_, out, e, rfl, HD, HPO.out, ⟨_, _, _, rfl, Nat.le_refl _, by unfold maxLen; omega⟩, hxw⟩

end Go.Proofs.Ytnjpkfccncjkhaa

namespace Go.Proofs.Ytnjpkfccncjkhaa
open Go.RowKit

def SumBox (W0 : World) (q : Rat) (s : Value) (wx : World) : Prop :=
 ∃ (N : Nat) (b : Bool) (x : Option Addr) (i j : Nat) (y : Option Addr) (k l : Nat) (T : TypeId), s = .pointer (some ⟨N, 0, none⟩) ∧ W0.heap.size ≤ N ∧ Below W0.heap.size W0 wx ∧ wx.heap[N]? = some (.cells #[.bool b, .slice x i j, .slice y k l] T (0, 0)) ∧ IsRat wx (.agg #[.bool b, .slice x i j, .slice y k l]) q
theorem boxkeep {W w' : World} {cs : Array Value} {T : TypeId} (hb : Below (W.alloc (.cells cs T)).heap.size (W.alloc (.cells cs T)) w') : w'.heap[W.heap.size]? = some (.cells cs T (0, 0)) := blk_keep (blk_new W cs T) hb (by simp)
theorem boxkeepD {W w' : World} {cs : Array Value} {T : TypeId} (hb : Below (W.alloc (.cells cs T)).drew.heap.size (W.alloc (.cells cs T)).drew w') : w'.heap[W.heap.size]? = some (.cells cs T (0, 0)) := boxkeep (W := W) (cs := cs) (T := T) (w' := w') ⟨hb.os, hb.tape, hb.output, hb.size, hb.block⟩
theorem SumBox.of_alloc {W0 wB : World} {q : Rat} {b : Bool} {x y : Option Addr} {i j k l : Nat} {T : TypeId} (hb : Below W0.heap.size W0 (wB.alloc (.cells #[.bool b, .slice x i j, .slice y k l] T))) (hN : W0.heap.size ≤ wB.heap.size) (hv : IsRat wB (.agg #[.bool b, .slice x i j, .slice y k l]) q) :
  SumBox W0 q (.pointer (some ⟨wB.heap.size, 0, none⟩)) (wB.alloc (.cells #[.bool b, .slice x i j, .slice y k l] T)) :=
 ⟨_, b, x, i, j, y, k, l, T, rfl, hN, hb, blk_new _ _ _, hv.below ((Below.refl _ _).alloc (Nat.le_refl _) _)⟩
theorem SumBox.of_set {W0 wB : World} {q : Rat} {N : Nat} {b b0 : Bool} {x y x0 y0 : Option Addr} {i j k l i0 j0 k0 l0 : Nat} {T : TypeId} (hb : Below W0.heap.size W0 (((wB.setCell ⟨N, 0, none⟩ (.bool b)).setCell ⟨N, 1, none⟩ (.slice x i j)).setCell ⟨N, 2, none⟩ (.slice y k l))) (hN : W0.heap.size ≤ N) (hB : wB.heap[N]? = some (.cells #[.bool b0, .slice x0 i0 j0, .slice y0 k0 l0] T (0, 0))) (hv : IsRat wB (.agg #[.bool b, .slice x i j, .slice y k l]) q) :
  SumBox W0 q (.pointer (some ⟨N, 0, none⟩)) (((wB.setCell ⟨N, 0, none⟩ (.bool b)).setCell ⟨N, 1, none⟩ (.slice x i j)).setCell ⟨N, 2, none⟩ (.slice y k l)) := by
 obtain ⟨vn, vd, e, h1, h2⟩ := hv
 simp only [Value.agg.injEq, Array.mk.injEq, List.cons.injEq, Value.bool.injEq, and_true] at e
 obtain ⟨rfl, rfl, rfl⟩ := e
 exact ⟨N, _, x, i, j, y, k, l, T, rfl, hN, hb, by exact blk_set (blk_set (blk_set hB 0 _) 1 _) 2 _, ⟨_, _, rfl, store3 hB h1, store3 hB h2⟩⟩
set_option maxRecDepth 100000 in
set_option maxHeartbeats 2000000 in
theorem divRat_any (x y : Rat) (vx vy : Value) (w : World) (hx : IsRat w vx x) (hy : IsRat w vy y) (hlx : szR x 68719476736) (hly : szR y 68719476736) (hy0 : y.num.natAbs ≠ 0) : Calls Try.prog 47 #[vx, vy] w (RetRatE (x / y) 0 w) := by
 obtain ⟨a1, c1, a2, c2, rfl, n1, n2⟩ := hx.opened
 obtain ⟨a3, c3, a4, c4, rfl, n3, n4⟩ := hy.opened
 have HX := Lib.hid hx
 have HY := Lib.hid hy
 have HLX := Lib.hid hlx
 have HLY := Lib.hid hly
 have H0 := Lib.hid hy0
 have t0 : decide (y.num.natAbs = 0) = false := decide_eq_false hy0
 clear hx hy n1 n2 n3 n4 hlx hly hy0
 go_enter Try.func47, Try.ntmps47
 go_wp2_with fail
 generalize hW0 : ((w.alloc (.cells #[.bool (decide (x.num < 0)), .slice a1 (dig b64 x.num.natAbs).length c1, .slice a2 (dig b64 (dn x.den)).length c2] 45)).alloc (.cells #[.bool (decide (y.num < 0)), .slice a3 (dig b64 y.num.natAbs).length c3, .slice a4 (dig b64 (dn y.den)).length c4] 45)).alloc (.cells #[.bool false, .slice none 0 0, .slice none 0 0] 45) = W at *
 obtain ⟨hal, hB1, hB2, hB3⟩ := boxes3 w _ _ _ _ W hW0.symm
 clear hW0
 refine (zero_any _ _ y.num.natAbs _ _ _ _ _).mono ?_
 rw [t0]
 rintro e w1 ⟨rfl, hb1⟩
 have hB11 := blk_keep hB1 hb1 (blk_lt hB1)
 have hB21 := blk_keep hB2 hb1 (blk_lt hB2)
 have hB31 := blk_keep hB3 hb1 (blk_lt hB3)
 have hx1 := ext_trans hal hb1
 have p0 := blk_cell hB11 0 (.bool (decide (x.num < 0))) rfl
 have p1 := blk_cell hB11 1 (.slice a1 (dig b64 x.num.natAbs).length c1) rfl
 have p2 := blk_cell hB11 2 (.slice a2 (dig b64 (dn x.den)).length c2) rfl
 have r0 := blk_cell hB21 0 (.bool (decide (y.num < 0))) rfl
 have r1 := blk_cell hB21 1 (.slice a3 (dig b64 y.num.natAbs).length c3) rfl
 have r2 := blk_cell hB21 2 (.slice a4 (dig b64 (dn y.den)).length c4) rfl
 have HB : Hid (RB w1 (w.heap.size + 2)) := ⟨false, none, 0, 0, none, 0, 0, _, hB31⟩
 have hl3 := blk_lt hB31
 clear hB1 hB2 hB3 hB11 hB21 hB31 hb1 hal
 go_wp2_with fail
 refine (byRat_any x y _ _ _ (HX.out.below hx1) (HY.out.below hx1) HLX.out HLY.out H0.out).mono ?_
 rintro e w3 ⟨v, rfl, hv, hb⟩
 have hRB := HB.out.keep hb hl3
 obtain ⟨a5, c5, a6, c6, rfl, n5, n6⟩ := IsRat.opened hv
 have hx := ext_trans hx1 hb
 obtain ⟨g0, g1, g2, f0', f1', f2'⟩ := hRB.cell
 have hBl := hRB.lt
 generalize x / y = q at *
 clear hv hb hx1 p0 p1 p2 r0 r1 r2
 go_wp2_with fail
 refine bodyPost_ret (v := .tuple #[.agg #[.bool (decide (q.num < 0)), .slice a5 (dig b64 q.num.natAbs).length _, .slice a6 (dig b64 (dn q.den)).length _], .int .i64 0]) (by simp [results, Try.results47, go_sem, g0, g1, g2]; first | done | exact ⟨⟨rfl, rfl⟩, rfl⟩ | exact ⟨rfl, rfl⟩ | rfl) rfl ⟨_, rfl, ?_, below_store3 hx (by omega)⟩
 exact IsRat.stored hRB n5 n6 rfl rfl

theorem keepB3c {n : Nat} {W a b : World} {A0 A1 A2 : Addr} {v0 v1 v2 : Value} (hn : n ≤ W.heap.size) (hb : Below a.heap.size a b) (h : Below n W a ∧ a.cell? A0 = some v0 ∧ a.cell? A1 = some v1 ∧ a.cell? A2 = some v2) :
  Below n W b ∧ b.cell? A0 = some v0 ∧ b.cell? A1 = some v1 ∧ b.cell? A2 = some v2 := by
 obtain ⟨h0, h1, h2, h3⟩ := h
 have e : ∀ A v, a.cell? A = some v → b.cell? A = some v := fun A v h => (hb.cell (World.block_lt_of_cell? (h := h))).trans h
 have := h0.size
 exact ⟨h0.trans (hb.mono (by omega)), e _ _ h1, e _ _ h2, e _ _ h3⟩
theorem keepB3s {n : Nat} {W a : World} {N B1 j0 j1 j2 : Nat} {v0 v1 v2 u0 u1 u2 : Value} (hn : n ≤ N) (h1 : B1 ≠ N) (h : Below n W a ∧ a.cell? ⟨B1, j0, none⟩ = some v0 ∧ a.cell? ⟨B1, j1, none⟩ = some v1 ∧ a.cell? ⟨B1, j2, none⟩ = some v2) (b : World)
  (hb : b = ((a.setCell ⟨N, 0, none⟩ u0).setCell ⟨N, 1, none⟩ u1).setCell ⟨N, 2, none⟩ u2) : Below n W b ∧ b.cell? ⟨B1, j0, none⟩ = some v0 ∧ b.cell? ⟨B1, j1, none⟩ = some v1 ∧ b.cell? ⟨B1, j2, none⟩ = some v2 := by
 subst hb
 have e : ∀ B j v, B ≠ N → a.cell? ⟨B, j, none⟩ = some v → (((a.setCell ⟨N, 0, none⟩ u0).setCell ⟨N, 1, none⟩ u1).setCell ⟨N, 2, none⟩ u2).cell? ⟨B, j, none⟩ = some v := fun B j v hne h => by
  rw [World.cell?_setCell_other, World.cell?_setCell_other, World.cell?_setCell_other, h]
  all_goals intro e; cases e; exact hne rfl
 obtain ⟨h0, k0, k1, k2⟩ := h
 exact ⟨below_store3 h0 hn, e _ _ _ h1 k0, e _ _ _ h1 k1, e _ _ _ h1 k2⟩
theorem keepB3a {n : Nat} {W a : World} {o o' : Obj} {B1 j0 j1 j2 : Nat} {v0 v1 v2 : Value} (hn : n ≤ a.heap.size) (h1 : B1 < a.heap.size) (h : Below n W (a.alloc o) ∧ (a.alloc o).cell? ⟨B1, j0, none⟩ = some v0 ∧ (a.alloc o).cell? ⟨B1, j1, none⟩ = some v1 ∧ (a.alloc o).cell? ⟨B1, j2, none⟩ = some v2) :
  Below n W (a.alloc o') ∧ (a.alloc o').cell? ⟨B1, j0, none⟩ = some v0 ∧ (a.alloc o').cell? ⟨B1, j1, none⟩ = some v1 ∧ (a.alloc o').cell? ⟨B1, j2, none⟩ = some v2 := by
 have e : ∀ B j v, B < a.heap.size → (a.alloc o).cell? ⟨B, j, none⟩ = some v → (a.alloc o').cell? ⟨B, j, none⟩ = some v := fun B j v hB h => by
  rw [← h]
  exact World.cell?_of_block (a := ⟨B, j, none⟩) ((heap_alloc_old a o' hB).trans (heap_alloc_old a o hB).symm)
 obtain ⟨h0, k0, k1, k2⟩ := h
 exact ⟨⟨h0.os, h0.tape, h0.output, by have := h0.size; simp at this ⊢; exact this, fun k hk => ((heap_alloc_old a o' (by omega)).trans (heap_alloc_old a o (by omega)).symm).trans (h0.block k hk)⟩, e _ _ _ h1 k0, e _ _ _ h1 k1, e _ _ _ h1 k2⟩

set_option maxRecDepth 100000 in
set_option maxHeartbeats 4000000 in
theorem half_any (x : Rat) (vx : Value) (w : World) (hx : IsRat w vx x) (hlx : szR x 68719476736) : Calls Try.prog 29 #[vx] w (RetRat (x / 2) w) := by
 obtain ⟨a1, c1, a2, c2, rfl, n1, n2⟩ := hx.opened
 have HX := Lib.hid hx
 have HLX := Lib.hid hlx
 have HS2 := Lib.hid (i64_szR 2 (by omega) (by omega) 68719476736 (by omega))
 have H20 : Hid ((((2 : Int) : Rat)).num.natAbs ≠ 0) := by show _ ≠ _; simp
 have HN2 : Hid (∀ W, Calls Try.prog 30 #[.int .i64 2] W (RetRat (((2 : Int) : Rat)) W)) := fun W => lwhole_any 2 W (by omega) (by omega)
 have He : Hid (x / (((2 : Int) : Rat)) = x / 2) := rfl
 have HD : Hid (∀ v W, IsRat W (.agg #[.bool (decide (x.num < 0)), .slice a1 (dig b64 x.num.natAbs).length c1, .slice a2 (dig b64 (dn x.den)).length c2]) x → IsRat W v (((2 : Int) : Rat)) → Calls Try.prog 47 #[.agg #[.bool (decide (x.num < 0)), .slice a1 (dig b64 x.num.natAbs).length c1, .slice a2 (dig b64 (dn x.den)).length c2], v] W (RetRatE (x / 2) 0 W)) := fun v W h1 h2 => by
  have := divRat_any x (((2 : Int) : Rat)) _ v W h1 h2 HLX.out HS2.out H20.out
  rw [He.out] at this
  exact this
 clear hx n1 n2 hlx H20 HS2 He HLX
 go_enter Try.func29, Try.ntmps29
 go_wp2_with fail
 generalize hsx : decide (x.num < 0) = sx at *
 clear hsx
 have hB1 := blk_new w #[.bool sx, .slice a1 (dig b64 x.num.natAbs).length c1, .slice a2 (dig b64 (dn x.den)).length c2] 45
 have hA1 := (Below.refl w.heap.size w).alloc (Nat.le_refl _) (.cells #[.bool sx, .slice a1 (dig b64 x.num.natAbs).length c1, .slice a2 (dig b64 (dn x.den)).length c2] 45)
 have hB2 := blk_new (w.alloc (.cells #[.bool sx, .slice a1 (dig b64 x.num.natAbs).length c1, .slice a2 (dig b64 (dn x.den)).length c2] 45)) #[.bool false, .slice none 0 0, .slice none 0 0] 45
 rw [World.size_alloc] at hB2
 have hB12 := blk_keep hB1 ((Below.refl _ _).alloc (Nat.le_refl _) (.cells #[.bool false, .slice none 0 0, .slice none 0 0] 45)) (blk_lt hB1)
 have hA2 := hA1.alloc hA1.size (.cells #[.bool false, .slice none 0 0, .slice none 0 0] 45)
 generalize (w.alloc (.cells #[.bool sx, .slice a1 (dig b64 x.num.natAbs).length c1, .slice a2 (dig b64 (dn x.den)).length c2] 45)).alloc (.cells #[.bool false, .slice none 0 0, .slice none 0 0] 45) = W10 at *
 have HB : Hid (RB W10 (w.heap.size + 1)) := ⟨false, none, 0, 0, none, 0, 0, _, hB2⟩
 have hl1 := blk_lt hB12
 have hl2 := blk_lt hB2
 have HX10 := Lib.hid (HX.out.below hA2)
 have hZZ := (Below.refl W10.heap.size W10).alloc (Nat.le_refl _) (.cells #[.bool false, .slice none 0 0, .slice none 0 0] 45)
 have c1' : W10.drew.cell? ⟨w.heap.size, 0, none⟩ = some (.bool sx) := blk_cell hB12 0 _ rfl
 have c2' : W10.drew.cell? ⟨w.heap.size, 1, none⟩ = some (.slice a1 (dig b64 x.num.natAbs).length c1) := blk_cell hB12 1 _ rfl
 have c3' : W10.drew.cell? ⟨w.heap.size, 2, none⟩ = some (.slice a2 (dig b64 (dn x.den)).length c2) := blk_cell hB12 2 _ rfl
 have d1' : (W10.alloc (.cells #[.bool false, .slice none 0 0, .slice none 0 0] 45)).drew.cell? ⟨w.heap.size, 0, none⟩ = some (.bool sx) := blk_cell (blk_keep hB12 hZZ hl1) 0 _ rfl
 have d2' : (W10.alloc (.cells #[.bool false, .slice none 0 0, .slice none 0 0] 45)).drew.cell? ⟨w.heap.size, 1, none⟩ = some (.slice a1 (dig b64 x.num.natAbs).length c1) := blk_cell (blk_keep hB12 hZZ hl1) 1 _ rfl
 have d3' : (W10.alloc (.cells #[.bool false, .slice none 0 0, .slice none 0 0] 45)).drew.cell? ⟨w.heap.size, 2, none⟩ = some (.slice a2 (dig b64 (dn x.den)).length c2) := blk_cell (blk_keep hB12 hZZ hl1) 2 _ rfl
 have hds : W10.drew.heap.size = W10.heap.size := rfl
 have HDS := Lib.hid hds
 clear hds hZZ hB1 hB2 hA1 HX
 go_cut [3] from 3 to 10 (fun s wx => SumBox W10 (x / 2) s wx)
 case first =>
  go_region_held3 (fun w' => Below W10.heap.size W10 w' ∧ w'.cell? ⟨w.heap.size, 0, none⟩ = some (.bool sx) ∧ w'.cell? ⟨w.heap.size, 1, none⟩ = some (.slice a1 (dig b64 x.num.natAbs).length c1) ∧ w'.cell? ⟨w.heap.size, 2, none⟩ = some (.slice a2 (dig b64 (dn x.den)).length c2))
   (first | exact ⟨(Below.refl _ _).drew, c1', c2', c3'⟩ | exact ⟨((Below.refl _ _).alloc (Nat.le_refl _) _).drew, d1', d2', d3'⟩ | assumption | (refine keepB3c (Nat.le_refl _) hbB ?_; assumption) | (refine keepB3c (Nat.le_refl _) hbA ?_; assumption) | (refine keepB3c (Nat.le_refl _) ((Below.refl _ _).alloc (Nat.le_refl _) _) ?_; assumption) | exact keepB3a hWB (by omega) (by assumption) | (refine keepB3s hNN (by omega) (by assumption) _ rfl))
   (first
    | (go_at_call 30; refine (HN2.out _).mono ?_; rintro e wA ⟨vN, rfl, hvN, hbA⟩; obtain ⟨a7, k7, a8, k8, rfl, _, _⟩ := hvN.opened; have HVN := Lib.hid hvN; (first | (with_reducible have HNA := Lib.hid (boxkeepD hbA)) | (with_reducible have HNA := Lib.hid (boxkeep hbA)) | skip); clear hvN)
    | (go_at_call 47; (refine (HD.out _ _ (HX10.out.below (And.left (by assumption))) (by first | exact HVN.out | exact HVN.out.below ((Below.refl _ _).alloc (Nat.le_refl _) _))).mono ?_); rintro e wB ⟨vS, rfl, hvS, hbB⟩; obtain ⟨a9, k9, a10, k10, rfl, _, _⟩ := hvS.opened; have HVS := Lib.hid hvS; clear hvS; (have hWB : W10.heap.size ≤ wB.heap.size := by have q1 := hbA.size; have q2 := hbB.size; simp at q1 q2; omega); (first | ((with_reducible have hNB := boxkeep hbB); have hNN : W10.heap.size ≤ wA.heap.size := hbA.size) | (have hNB := blk_keep HNA.out hbB (blk_lt HNA.out); have hNN : W10.heap.size ≤ W10.heap.size := Nat.le_refl _) | skip); (try (have n0 := blk_cell hNB 0 _ rfl; have n1 := blk_cell hNB 1 _ rfl; have n2 := blk_cell hNB 2 _ rfl; have f0 := blk_frozen hNB 0; have f1 := blk_frozen hNB 1; have f2 := blk_frozen hNB 2))))
  all_goals
   rename_i hS
   have hbS := hS.1
   clear hS
   go_wp2_with fail
   go_meet
   first | exact SumBox.of_alloc hbS hWB HVS.out | exact SumBox.of_set hbS hNN hNB HVS.out
 case rest =>
  obtain ⟨N, b7, x7, i7, j7, y7, k7, l7, T7, rfl, hN, hbc, hNB, hvN⟩ := hcut
  have nn0 := blk_cell hNB 0 _ rfl
  have nn1 := blk_cell hNB 1 _ rfl
  have nn2 := blk_cell hNB 2 _ rfl
  have hRB := HB.out.keep hbc hl2
  have hxc := ext_trans hA2 hbc
  obtain ⟨g0, g1, g2, f0', f1', f2'⟩ := hRB.cell
  have hBl := hRB.lt
  have hneN : N ≠ w.heap.size + 1 := by omega
  obtain ⟨vn, vd, hag, n5, n6⟩ := hvN
  simp only [Value.agg.injEq, Array.mk.injEq, List.cons.injEq, and_true] at hag
  obtain ⟨hb7, rfl, rfl⟩ := hag
  have Hb7 := Lib.hid hb7
  generalize x / 2 = q at *
  clear hNB c1' c2' c3' d1' d2' d3' hb7
  go_wp2_with fail
  refine bodyPost_ret (v := .agg #[.bool b7, .slice x7 i7 j7, .slice y7 k7 l7]) (by simp [results, Try.results29, go_sem, g0, g1, g2]; first | done | exact ⟨rfl, rfl⟩ | rfl) rfl ⟨_, rfl, ?_, below_store3 hxc (by omega)⟩
  exact IsRat.stored hRB n5 n6 (by have := Hb7.out; simpa using this.symm) rfl

theorem dir_fields : (Try.prog.fieldsOf 41).toList = [{ name := "P", type := 3, offset := 0, embedded := false, tag := "", pkgPath := "", byteOffset := 0 }, { name := "Q", type := 3, offset := 1, embedded := false, tag := "", pkgPath := "", byteOffset := 8 }] := by kernel_rfl
theorem part2 (a b : Int) (w : World) : (part 3 #[Value.int .i64 a, .int .i64 b] 0).run Try.prog w = .ok (.int .i64 a) w ∧ (part 3 #[Value.int .i64 a, .int .i64 b] 1).run Try.prog w = .ok (.int .i64 b) w := ⟨by kernel_rfl, by kernel_rfl⟩
theorem eqInt (x y : Int) (w : World) : (Op.equalIn 9999 3 (.int .i64 x) (.int .i64 y)).run Try.prog w = .ok (x == y) w := by rw [run_equalIn_int w 9998 3 .i64 .i64 x y Try.underlying3]
set_option maxRecDepth 100000 in
theorem eql_dir (a b c d : Int) (w : World) : (binOp .eql 41 (.agg #[.int .i64 a, .int .i64 b]) (.agg #[.int .i64 c, .int .i64 d])).run Try.prog w = .ok (.bool (a == c && b == d)) w := by
 rw [run_eql_struct, run_equalIn_struct w 9999 41 _ _ (by kernel_rfl) (by kernel_rfl), dir_fields]
 have n0 : ("P" ≠ "_") := by decide
 have n1 : ("Q" ≠ "_") := by decide
 unfold Op.eqFields
 rw [if_pos n0]
 simp only [Sem.run_bind, (part2 _ _ _).1, eqInt, Result.andThen_ok, Sem.run_ite]
 cases a == c with
 | false => simp
 | true =>
  unfold Op.eqFields
  rw [if_pos n1]
  simp only [Sem.run_bind, (part2 _ _ _).2, eqInt, Result.andThen_ok, Sem.run_ite]
  unfold Op.eqFields
  by_cases h : b = d <;> simp [h]

set_option maxHeartbeats 2000000 in
theorem checkDir_ok (p q : Int) (w : World) (h0 : p ≠ 0 ∨ q ≠ 0) (h1 : inL p (-1048576) 1048576 = true) (h2 : inL q (-1048576) 1048576 = true) : Calls Try.prog 16 #[.agg #[.int .i64 p, .int .i64 q]] w (RetInt 0 w) := by
 have hal := (Below.refl w.heap.size w).alloc (Nat.le_refl _) (.cells #[.int .i64 p, .int .i64 q] 41)
 have hB0 := blk_new w #[.int .i64 p, .int .i64 q] 41
 have he := eql_dir p q 0 0
 have e0 : (p == 0 && q == 0) = false := by
  rcases h0 with h | h
  ·
   rw [beq_eq_false_iff_ne.2 h]; rfl
  ·
   rw [beq_eq_false_iff_ne.2 h]; simp
 rw [e0] at he
 have H1 := Lib.hid h1
 have H2 := Lib.hid h2
 clear h0 h1 h2 e0
 go_enter Try.func16, Try.ntmps16
 go_wp2_with fail
 refine (within_any p _ _ _).mono ?_
 rw [H1.out]
 rintro e w1 ⟨rfl, hb1⟩
 have c1 := blk_cell (blk_keep hB0 hb1 (blk_lt hB0)) 1 (.int .i64 q) rfl
 have hx1 := ext_trans hal hb1
 clear hal hB0 hb1
 go_wp2_with fail
 refine (within_any q _ _ _).mono ?_
 rw [H2.out]
 rintro e w2 ⟨rfl, hb2⟩
 go_wp2_with fail
 go_ret
 exact ⟨rfl, ext_trans hx1 hb2⟩

def RetPt (p : Pt) (w : World) (e : Ending) (w' : World) : Prop := e = .returned (.tuple #[.agg #[.int .i64 p.1, .int .i64 p.2], .int .i64 0]) ∧ Below w.heap.size w w'
set_option maxRecDepth 100000 in
set_option maxHeartbeats 4000000 in
theorem turned_ok (d p : Pt) (w : World) (h0 : d.1 ≠ 0 ∨ d.2 ≠ 0) (h1 : inL d.1 (-1048576) 1048576 = true) (h2 : inL d.2 (-1048576) 1048576 = true) (h3 : inL p.1 (-1048576) 1048576 = true) (h4 : inL p.2 (-1048576) 1048576 = true) :
  Calls Try.prog 8 #[.agg #[.int .i64 d.1, .int .i64 d.2], .agg #[.int .i64 p.1, .int .i64 p.2]] w (RetPt (turnI d p) w) := by
 have r1 : -1048576 ≤ d.1 ∧ d.1 ≤ 1048576 := by simpa [inL] using h1
 have r2 : -1048576 ≤ d.2 ∧ d.2 ≤ 1048576 := by simpa [inL] using h2
 have r3 : -1048576 ≤ p.1 ∧ p.1 ≤ 1048576 := by simpa [inL] using h3
 have r4 : -1048576 ≤ p.2 ∧ p.2 ≤ 1048576 := by simpa [inL] using h4
 have m1 := mul_absI r1 r3
 have m2 := mul_absI r2 r4
 have m3 := mul_absI r1 r4
 have m4 := mul_absI r2 r3
 have Hx : Hid ((turnI d p).1 = d.1 * p.1 + d.2 * p.2) := rfl
 have Hy : Hid ((turnI d p).2 = d.1 * p.2 - d.2 * p.1) := rfl
 have HC := Lib.hid (fun W => checkDir_ok d.1 d.2 W h0 h1 h2)
 have H3 := Lib.hid h3
 have H4 := Lib.hid h4
 clear h0 h1 h2 h3 h4 r1 r2 r3 r4
 obtain ⟨tx, htx⟩ : ∃ tx, tx = (turnI d p).1 := ⟨_, rfl⟩
 obtain ⟨ty, hty⟩ : ∃ ty, ty = (turnI d p).2 := ⟨_, rfl⟩
 rw [← htx] at Hx
 rw [← hty] at Hy
 have HTX := Lib.hid htx
 have HTY := Lib.hid hty
 clear htx hty
 generalize turnI d p = tp at *
 generalize d.1 = a at *
 generalize d.2 = b at *
 generalize p.1 = x at *
 generalize p.2 = y at *
 have e1 : IntKind.i64.wrap (a * x) = a * x := IntWalk.i64_in _ (by omega)
 have e2 : IntKind.i64.wrap (b * y) = b * y := IntWalk.i64_in _ (by omega)
 have e3 : IntKind.i64.wrap (a * y) = a * y := IntWalk.i64_in _ (by omega)
 have e4 : IntKind.i64.wrap (b * x) = b * x := IntWalk.i64_in _ (by omega)
 have e5 : IntKind.i64.wrap (a * x + b * y) = tx := by rw [Hx.out]; exact IntWalk.i64_in _ (by omega)
 have e6 : IntKind.i64.wrap (a * y - b * x) = ty := by rw [Hy.out]; exact IntWalk.i64_in _ (by omega)
 clear m1 m2 m3 m4
 have hA1 := (Below.refl w.heap.size w).alloc (Nat.le_refl _) (.cells #[.int .i64 a, .int .i64 b] 41)
 have hB1 := blk_new w #[.int .i64 a, .int .i64 b] 41
 have hA2 := hA1.alloc hA1.size (.cells #[.int .i64 x, .int .i64 y] 36)
 have hB1' := blk_keep hB1 ((Below.refl _ _).alloc (Nat.le_refl _) (.cells #[.int .i64 x, .int .i64 y] 36)) (blk_lt hB1)
 have hB2 := blk_new (w.alloc (.cells #[.int .i64 a, .int .i64 b] 41)) #[.int .i64 x, .int .i64 y] 36
 rw [World.size_alloc] at hB2
 have hA3 := hA2.alloc hA2.size (.cells #[.int .i64 0, .int .i64 0] 36)
 have hB1'' := blk_keep hB1' ((Below.refl _ _).alloc (Nat.le_refl _) (.cells #[.int .i64 0, .int .i64 0] 36)) (blk_lt hB1')
 have hB2' := blk_keep hB2 ((Below.refl _ _).alloc (Nat.le_refl _) (.cells #[.int .i64 0, .int .i64 0] 36)) (blk_lt hB2)
 have hB3 := blk_new ((w.alloc (.cells #[.int .i64 a, .int .i64 b] 41)).alloc (.cells #[.int .i64 x, .int .i64 y] 36)) #[.int .i64 0, .int .i64 0] 36
 rw [World.size_alloc, World.size_alloc] at hB3
 go_enter Try.func8, Try.ntmps8
 go_wp2_with fail
 generalize ((w.alloc (.cells #[.int .i64 a, .int .i64 b] 41)).alloc (.cells #[.int .i64 x, .int .i64 y] 36)).alloc (.cells #[.int .i64 0, .int .i64 0] 36) = W at *
 clear hA1 hA2 hB1 hB1' hB2
 refine (HC.out _).mono ?_
 rintro e w1 ⟨rfl, hb1⟩
 have k1 := blk_keep hB1'' hb1 (blk_lt hB1'')
 have k2 := blk_keep hB2' hb1 (blk_lt hB2')
 have k3 := blk_keep hB3 hb1 (blk_lt hB3)
 have hx1 := ext_trans hA3 hb1
 have q0 := blk_cell k2 0 (.int .i64 x) rfl
 clear hA3 hB1'' hB2' hB3 hb1
 go_wp2_with fail
 refine (within_any x _ _ _).mono ?_
 rw [H3.out]
 rintro e w2 ⟨rfl, hb2⟩
 have l1 := blk_keep k1 hb2 (blk_lt k1)
 have l2 := blk_keep k2 hb2 (blk_lt k2)
 have l3 := blk_keep k3 hb2 (blk_lt k3)
 have hx2 := ext_trans hx1 hb2
 have q1 := blk_cell l2 1 (.int .i64 y) rfl
 clear k1 k2 k3 hx1 hb2 q0
 go_wp2_with fail
 refine (within_any y _ _ _).mono ?_
 rw [H4.out]
 rintro e w3 ⟨rfl, hb3⟩
 have m1 := blk_keep l1 hb3 (blk_lt l1)
 have m2 := blk_keep l2 hb3 (blk_lt l2)
 have m3 := blk_keep l3 hb3 (blk_lt l3)
 have hx3 := ext_trans hx2 hb3
 have s0 := blk_cell m1 0 (.int .i64 a) rfl
 have s1 := blk_cell m1 1 (.int .i64 b) rfl
 have s2 := blk_cell m2 0 (.int .i64 x) rfl
 have s3 := blk_cell m2 1 (.int .i64 y) rfl
 have s4 := blk_cell m3 0 (.int .i64 0) rfl
 have s5 := blk_cell m3 1 (.int .i64 0) rfl
 have f0 := blk_frozen m3 0
 have f1 := blk_frozen m3 1
 have hl3 := blk_lt m3
 clear l1 l2 l3 hx2 hb3 q1 m1 m2 m3
 go_wp2_with fail
 refine bodyPost_ret (v := .tuple #[.agg #[.int .i64 tx, .int .i64 ty], .int .i64 0]) (by simp [results, Try.results8, go_sem, s4, s5]; first | done | exact ⟨rfl, rfl⟩ | rfl) rfl ⟨by rw [HTX.out, HTY.out], (hx3.setCell (p := ⟨w.heap.size + 2, 0, none⟩) (by show _ ≤ w.heap.size + 2; omega) _).setCell (p := ⟨w.heap.size + 2, 1, none⟩) (by show _ ≤ w.heap.size + 2; omega) _⟩

end Go.Proofs.Ytnjpkfccncjkhaa

namespace Go.Proofs.Ytnjpkfccncjkhaa
open Go.RowKit

theorem keepC6 {n : Nat} {W a b : World} {A0 A1 A2 A3 A4 A5 : Addr} {v0 v1 v2 v3 v4 v5 : Value} (hn : n ≤ W.heap.size) (hb : Below a.heap.size a b)
  (h : Below n W a ∧ a.cell? A0 = some v0 ∧ a.cell? A1 = some v1 ∧ a.cell? A2 = some v2 ∧ a.cell? A3 = some v3 ∧ a.cell? A4 = some v4 ∧ a.cell? A5 = some v5) :
  Below n W b ∧ b.cell? A0 = some v0 ∧ b.cell? A1 = some v1 ∧ b.cell? A2 = some v2 ∧ b.cell? A3 = some v3 ∧ b.cell? A4 = some v4 ∧ b.cell? A5 = some v5 := by
 obtain ⟨h0, h1, h2, h3, h4, h5, h6⟩ := h
 have e : ∀ A v, a.cell? A = some v → b.cell? A = some v := fun A v h => (hb.cell (World.block_lt_of_cell? (h := h))).trans h
 have := h0.size
 exact ⟨h0.trans (hb.mono (by omega)), e _ _ h1, e _ _ h2, e _ _ h3, e _ _ h4, e _ _ h5, e _ _ h6⟩
def sgI (z : Int) : Int := if z < 0 then -1 else if z = 0 then 0 else 1
theorem sgI_int (z : Int) : sgI z ≤ 0 ↔ z ≤ 0 := by
 unfold sgI
 split
 ·
  omega
 ·
  split <;> omega
theorem sgnI_int (z : Int) : sgnI (decide ((z : Rat).num < 0)) (z : Rat).num.natAbs = sgI z := by
 have e : (z : Rat).num = z := by simp
 rw [e]
 unfold sgnI sgI
 by_cases h : z < 0
 ·
  simp [h]
 ·
  by_cases h0 : z = 0
  ·
   simp [h0]
  ·
   simp [h, h0]
theorem sign_int (z : Int) (v : Value) (w : World) (h : IsRat w v (z : Rat)) : Calls Try.prog 25 #[v] w (RetInt (sgI z) w) := by
 obtain ⟨a5, c5, a6, c6, rfl, _, _⟩ := IsRat.opened h
 rw [← sgnI_int]
 exact sign_any _ _ _ _ _ _ _ _

def OkK (l : List Pt) (k : Nat) : Prop := ∀ k', k' < k → ∀ j, j < k' → ∀ i, i < j → 0 < crossI (ptAt l i) (ptAt l j) (ptAt l k')
def OkJ (l : List Pt) (k j : Nat) : Prop := ∀ j', j' < j → ∀ i, i < j' → 0 < crossI (ptAt l i) (ptAt l j') (ptAt l k)
def OkI (l : List Pt) (k j i : Nat) : Prop := ∀ i', i' < i → 0 < crossI (ptAt l i') (ptAt l j) (ptAt l k)
theorem OkI.step {l : List Pt} {k j i : Nat} (h : OkI l k j i) (h1 : 0 < crossI (ptAt l i) (ptAt l j) (ptAt l k)) : OkI l k j (i + 1) := fun i' hi => by
 rcases Nat.lt_or_ge i' i with h2 | h2
 ·
  exact h i' h2
 ·
  obtain rfl : i' = i := by omega
  exact h1
theorem OkJ.step {l : List Pt} {k j : Nat} (h : OkJ l k j) (h1 : OkI l k j j) : OkJ l k (j + 1) := fun j' hj => by
 rcases Nat.lt_or_ge j' j with h2 | h2
 ·
  exact h j' h2
 ·
  obtain rfl : j' = j := by omega
  exact h1
theorem OkK.step {l : List Pt} {k : Nat} (h : OkK l k) (h1 : OkJ l k k) : OkK l (k + 1) := fun k' hk => by
 rcases Nat.lt_or_ge k' k with h2 | h2
 ·
  exact h k' h2
 ·
  obtain rfl : k' = k := by omega
  exact h1

theorem outErr_size (l : List Pt) (h : l.length < 3 ∨ 16 < l.length) : outErr l = 4 := by unfold outErr; rw [if_pos h]
theorem outErr_arg (l : List Pt) (h : ¬ (l.length < 3 ∨ 16 < l.length)) (h1 : ptsOk l = false) : outErr l = 1 := by unfold outErr; rw [if_neg h, if_pos h1]
theorem outErr_ok (l : List Pt) (h : ¬ (l.length < 3 ∨ 16 < l.length)) (h1 : ptsOk l = true) (h2 : Round3 l) : outErr l = 0 := by unfold outErr; rw [if_neg h, if_neg (by rw [h1]; simp), if_pos h2]
theorem outErr_order (l : List Pt) (h : ¬ (l.length < 3 ∨ 16 < l.length)) (h1 : ptsOk l = true) (h2 : ¬ Round3 l) : outErr l = 7 := by unfold outErr; rw [if_neg h, if_neg (by rw [h1]; simp), if_neg h2]

set_option maxRecDepth 100000 in
set_option maxHeartbeats 8000000 in
theorem checkOutline_any (l : List Pt) (v : Value) (w : World) (h : PairsOf w v l) : Calls Try.prog 17 #[v] w (RetInt (outErr l) w) := by
 have H := Lib.hid h
 obtain ⟨ao, cap, rfl, hE⟩ := h
 have HE := Lib.hid hE
 clear hE
 by_cases c1 : l.length < 3
 ·
  have Hr := Lib.hid (outErr_size l (.inl c1))
  have t1 : decide ((l.length : Int) < 3) = true := by simp; omega
  clear c1
  go_enter Try.func17, Try.ntmps17
  go_wp2_with fail
  go_ret
  exact ⟨by rw [Hr.out]; rfl, Below.refl _ _⟩
 ·
  have t1 : decide ((l.length : Int) < 3) = false := by simp; omega
  by_cases c2 : 16 < l.length
  ·
   have Hr := Lib.hid (outErr_size l (.inr c2))
   have t2 : decide ((l.length : Int) > 16) = true := by simp; omega
   clear c1 c2
   go_enter Try.func17, Try.ntmps17
   go_wp2_with fail
   go_ret
   exact ⟨by rw [Hr.out]; rfl, Below.refl _ _⟩
  ·
   have t2 : decide ((l.length : Int) > 16) = false := by simp; omega
   have hl16 : l.length ≤ 16 := by omega
   have Hsz : Hid (¬ (l.length < 3 ∨ 16 < l.length)) := by show ¬ _; omega
   clear c1 c2
   cases hok : ptsOk l with
   | false =>
    have Hr := Lib.hid (outErr_arg l Hsz.out hok)
    have Hok := Lib.hid hok
    clear hok
    go_enter Try.func17, Try.ntmps17
    go_wp2_with fail
    refine (isRight_any l _ _ H.out (by omega)).mono ?_
    rw [Hok.out]
    rintro e w1 ⟨rfl, hb1⟩
    go_wp2_with fail
    go_ret
    exact ⟨by rw [Hr.out]; rfl, hb1⟩
   | true =>
    have Hok := Lib.hid hok
    clear hok
    go_enter Try.func17, Try.ntmps17
    go_wp2_with fail
    refine (isRight_any l _ _ H.out (by omega)).mono ?_
    rw [Hok.out]
    rintro e w1 ⟨rfl, hb1⟩
    clear t1 t2
    go_wp2_with fail
    go_loopw [19] (fun kv wr => ∃ (k : Nat), k ≤ l.length ∧ kv = .int .i64 k ∧ Hid (OkK l k) ∧ Below w.heap.size w wr) (fun kv _ => l.length - (intOf kv).toNat)
    case atStart => exact ⟨0, Nat.zero_le _, rfl, fun k' hk => absurd hk (by omega), hb1⟩
    case round =>
     clear hb1
     obtain ⟨k, hk, rfl, hK, hbel⟩ := hrel
     by_cases hlk : k < l.length
     ·
      have hlk' : (k : Int) < l.length := by omega
      generalize wr = wo at *
      go_wp2_with fail
      go_loopw [23] (fun jv wr => ∃ (j : Nat), j ≤ k ∧ jv = .int .i64 j ∧ Hid (OkJ l k j) ∧ Below w.heap.size w wr) (fun jv _ => k - (intOf jv).toNat)
      case atStart => exact ⟨0, Nat.zero_le _, rfl, fun k' hk => absurd hk (by omega), hbel⟩
      case round =>
       clear hbel
       obtain ⟨j, hj, rfl, hJ, hbel⟩ := hrel
       by_cases hlj : j < k
       ·
        have hlj' : (j : Int) < k := by omega
        generalize wr = wp at *
        go_wp2_with fail
        go_loopw [27] (fun iv wr => ∃ (i : Nat), i ≤ j ∧ iv = .int .i64 i ∧ Hid (OkI l k j i) ∧ Below w.heap.size w wr) (fun iv _ => j - (intOf iv).toNat)
        case atStart => exact ⟨0, Nat.zero_le _, rfl, fun k' hk => absurd hk (by omega), hbel⟩
        case round =>
         clear hbel
         obtain ⟨i, hi, rfl, hI, hbel⟩ := hrel
         by_cases hli : i < j
         ·
          obtain ⟨b, off, rfl, hbl, hLL⟩ := HE.out (by omega)
          obtain ⟨p0, p1⟩ := (hLL i (by omega)).below hbel hbl
          obtain ⟨p2, p3⟩ := (hLL j (by omega)).below hbel hbl
          obtain ⟨p4, p5⟩ := (hLL k (by omega)).below hbel hbl
          have hli' : (i : Int) < j := by omega
          have hil : (i : Int) < l.length := by omega
          have hjl : (j : Int) < l.length := by omega
          have hi0 : (0 : Int) ≤ i := by omega
          have hj0 : (0 : Int) ≤ j := by omega
          have hk0 : (0 : Int) ≤ k := by omega
          have hbl2 : b < wr.heap.size := Nat.lt_of_lt_of_le hbl hbel.size
          have HC : Hid (∀ W, Calls Try.prog 24 #[.agg #[.int .i64 (l.getD i (0, 0)).1, .int .i64 (l.getD i (0, 0)).2], .agg #[.int .i64 (l.getD j (0, 0)).1, .int .i64 (l.getD j (0, 0)).2], .agg #[.int .i64 (l.getD k (0, 0)).1, .int .i64 (l.getD k (0, 0)).2]] W (RetRat ((crossI (ptAt l i) (ptAt l j) (ptAt l k) : Int) : Rat) W)) :=
           fun W => cross_any (ptAt l i) (ptAt l j) (ptAt l k) W (ptsOk_get Hok.out i (by omega)) (ptsOk_get Hok.out j (by omega)) (ptsOk_get Hok.out k (by omega))
          have Hst : Hid (0 < crossI (ptAt l i) (ptAt l j) (ptAt l k) → OkI l k j (i + 1)) := fun h1 => hI.out.step h1
          have Hbad : Hid (¬ 0 < crossI (ptAt l i) (ptAt l j) (ptAt l k) → outErr l = 7) := fun h1 => outErr_order l Hsz.out Hok.out (fun hR => h1 (hR k hlk j hlj i hli))
          generalize crossI (ptAt l i) (ptAt l j) (ptAt l k) = z at *
          generalize (l.getD i (0, 0)).1 = ax at *
          generalize (l.getD i (0, 0)).2 = ay at *
          generalize (l.getD j (0, 0)).1 = bx at *
          generalize (l.getD j (0, 0)).2 = by' at *
          generalize (l.getD k (0, 0)).1 = cx at *
          generalize (l.getD k (0, 0)).2 = cy at *
          have Hsg := Lib.hid (sgI_int z)
          have HSI := Lib.hid (sign_int z)
          clear hLL hI hJ hK
          go_wp2_with fail
          go_region_held3 (fun w' => Below wr.heap.size wr w' ∧ w'.cell? ⟨b, off + i * 2, none⟩ = some (.int .i64 ax) ∧ w'.cell? ⟨b, off + i * 2 + 1, none⟩ = some (.int .i64 ay) ∧ w'.cell? ⟨b, off + j * 2, none⟩ = some (.int .i64 bx) ∧ w'.cell? ⟨b, off + j * 2 + 1, none⟩ = some (.int .i64 by') ∧ w'.cell? ⟨b, off + k * 2, none⟩ = some (.int .i64 cx) ∧ w'.cell? ⟨b, off + k * 2 + 1, none⟩ = some (.int .i64 cy))
           (first | exact ⟨(Below.refl _ _).drew, p0, p1, p2, p3, p4, p5⟩ | assumption | exact keepC6 (Nat.le_refl _) hbB (by assumption) | exact keepC6 (Nat.le_refl _) hbA (by assumption))
           (first
            | (go_at_call 24; refine (HC.out _).mono ?_; rintro e wA ⟨vA, rfl, hvA, hbA⟩)
            | (go_at_call 25; refine (HSI.out _ _ hvA).mono ?_; rintro e wB ⟨rfl, hbB⟩))
          rename_i hS
          have hx := ext_trans hbel hS.1
          clear hS p0 p1 p2 p3 p4 p5 hvA
          generalize sgI z = s at *
          by_cases hz : 0 < z
          ·
           have Hst2 := Lib.hid (Hst.out hz)
           have t7 : decide (s ≤ 0) = false := decide_eq_false (fun h => by have := Hsg.out.1 h; omega)
           rw [t7]
           clear hz
           go_wp2_with fail
           exact ⟨⟨i + 1, by omega, by go_num, Hst2.out, hx⟩, meas_up hli⟩
          ·
           have Hr : Hid (outErr l = 7) := Hbad.out (by omega)
           have t7 : decide (s ≤ 0) = true := decide_eq_true (Hsg.out.2 (by omega))
           rw [t7]
           clear hz
           go_wp2_with fail
           go_ret
           exact ⟨by rw [Hr.out]; rfl, hx⟩
         ·
          obtain rfl : i = j := by omega
          go_wp2_with fail
          exact ⟨⟨i + 1, by omega, by go_num, hJ.out.step hI.out, hbel⟩, meas_up hlj⟩
       ·
        obtain rfl : j = k := by omega
        go_wp2_with fail
        exact ⟨⟨j + 1, by omega, by go_num, hK.out.step hJ.out, hbel⟩, meas_up hlk⟩
     ·
      obtain rfl : k = l.length := by omega
      have Hr := Lib.hid (outErr_ok l Hsz.out Hok.out hK.out)
      go_wp2_with fail
      go_ret
      exact ⟨by rw [Hr.out]; rfl, hbel⟩

end Go.Proofs.Ytnjpkfccncjkhaa

namespace Go.Proofs.Ytnjpkfccncjkhaa
open Go.RowKit

theorem IsRat.grownL {w w' : World} {v : Value} {q : Rat} {row : Option Nat} (h : IsRat w v q) (hg : w.grownBy w' row) (hr : ∀ g, row = some g → NoDig w g) : IsRat w' v q := by
 obtain ⟨vn, vd, rfl, h1, h2⟩ := h
 exact ⟨vn, vd, rfl, IsRow.grown (.inl rfl) h1 hg hr, IsRow.grown (.inl rfl) h2 hg hr⟩
theorem ownBlock_low {w : World} {base : Nat} {e : TypeId} {size : Nat} {v : Value} {n : Nat} {xs : List Value} (h : w.ownsRow base e size v n xs) : ∀ k, v.ownBlock = some k → base ≤ k := by
 intro k hk
 rcases h.2 with ⟨rfl, _⟩ | ⟨g, cap, cur, rfl, hb, _⟩
 ·
  simp [Value.ownBlock] at hk
 ·
  simp [Value.ownBlock] at hk
  omega
def VtxAt (w : World) (b o : Nat) (p : Rat × Rat) : Prop :=
 ∃ v0 v1 v2 v3 v4 v5, w.cell? ⟨b, o, none⟩ = some v0 ∧ w.cell? ⟨b, o + 1, none⟩ = some v1 ∧ w.cell? ⟨b, o + 2, none⟩ = some v2 ∧ w.cell? ⟨b, o + 3, none⟩ = some v3 ∧ w.cell? ⟨b, o + 4, none⟩ = some v4 ∧ w.cell? ⟨b, o + 5, none⟩ = some v5 ∧
  IsRat w (.agg #[v0, v1, v2]) p.1 ∧ IsRat w (.agg #[v3, v4, v5]) p.2
def VtxOf (w : World) (v : Value) (vs : List (Rat × Rat)) : Prop :=
 ∃ ao cap, v = .slice ao vs.length cap ∧ (0 < vs.length → ∃ b off, ao = some ⟨b, off, none⟩ ∧ b < w.heap.size ∧ ∀ i, i < vs.length → VtxAt w b (off + i * 6) (vs.getD i (0, 0)))
theorem VtxAt.below {w w' : World} {b o : Nat} {p : Rat × Rat} (h : VtxAt w b o p) (hb : Below w.heap.size w w') (hl : b < w.heap.size) : VtxAt w' b o p := by
 obtain ⟨v0, v1, v2, v3, v4, v5, h0, h1, h2, h3, h4, h5, h6, h7⟩ := h
 have c : ∀ j v, w.cell? ⟨b, j, none⟩ = some v → w'.cell? ⟨b, j, none⟩ = some v := fun j v h => (hb.cell (p := ⟨b, j, none⟩) hl).trans h
 exact ⟨v0, v1, v2, v3, v4, v5, c _ _ h0, c _ _ h1, c _ _ h2, c _ _ h3, c _ _ h4, c _ _ h5, h6.below hb, h7.below hb⟩
theorem VtxOf.below {w w' : World} {v : Value} {vs : List (Rat × Rat)} (h : VtxOf w v vs) (hb : Below w.heap.size w w') : VtxOf w' v vs := by
 obtain ⟨ao, cap, rfl, h⟩ := h
 refine ⟨ao, cap, rfl, fun hl => ?_⟩
 obtain ⟨b, off, rfl, hlt, h⟩ := h hl
 exact ⟨b, off, rfl, Nat.lt_of_lt_of_le hlt hb.size, fun i hi => (h i hi).below hb hlt⟩
def VtxRow (w : World) (xs : List Value) (vs : List (Rat × Rat)) : Prop :=
 xs.length = vs.length * 6 ∧ ∀ j, j < vs.length → ∃ v0 v1 v2 v3 v4 v5, xs[j * 6]? = some v0 ∧ xs[j * 6 + 1]? = some v1 ∧ xs[j * 6 + 2]? = some v2 ∧ xs[j * 6 + 3]? = some v3 ∧ xs[j * 6 + 4]? = some v4 ∧ xs[j * 6 + 5]? = some v5 ∧
  IsRat w (.agg #[v0, v1, v2]) (vs.getD j (0, 0)).1 ∧ IsRat w (.agg #[v3, v4, v5]) (vs.getD j (0, 0)).2
theorem VtxRow.mono {w w' : World} {xs : List Value} {vs : List (Rat × Rat)} (h : VtxRow w xs vs) (hr : ∀ v q, IsRat w v q → IsRat w' v q) : VtxRow w' xs vs :=
 ⟨h.1, fun j hj => by obtain ⟨v0, v1, v2, v3, v4, v5, h0, h1, h2, h3, h4, h5, h6, h7⟩ := h.2 j hj; exact ⟨v0, v1, v2, v3, v4, v5, h0, h1, h2, h3, h4, h5, hr _ _ h6, hr _ _ h7⟩⟩
theorem VtxRow.nil (w : World) : VtxRow w [] [] := ⟨rfl, fun j hj => absurd hj (by simp)⟩
theorem VtxRow.snoc {w : World} {xs : List Value} {vs : List (Rat × Rat)} (h : VtxRow w xs vs) {v0 v1 v2 v3 v4 v5 : Value} {p q : Rat} (hp : IsRat w (.agg #[v0, v1, v2]) p) (hq : IsRat w (.agg #[v3, v4, v5]) q) :
  VtxRow w (xs ++ [v0, v1, v2, v3, v4, v5]) (vs ++ [(p, q)]) := by
 obtain ⟨hl, h⟩ := h
 refine ⟨by simp [hl]; omega, fun j hj => ?_⟩
 rcases Nat.lt_or_ge j vs.length with h1 | h1
 ·
  obtain ⟨u0, u1, u2, u3, u4, u5, k0, k1, k2, k3, k4, k5, k6, k7⟩ := h j h1
  have e : ∀ k, k < 6 → (xs ++ [v0, v1, v2, v3, v4, v5])[j * 6 + k]? = xs[j * 6 + k]? := fun k hk => List.getElem?_append_left (by omega)
  have e2 : (vs ++ [(p, q)]).getD j (0, 0) = vs.getD j (0, 0) := by simp [List.getD, List.getElem?_append_left h1]
  rw [e2]
  exact ⟨u0, u1, u2, u3, u4, u5, by rw [← k0]; exact e 0 (by omega), by rw [← k1]; exact e 1 (by omega), by rw [← k2]; exact e 2 (by omega), by rw [← k3]; exact e 3 (by omega), by rw [← k4]; exact e 4 (by omega), by rw [← k5]; exact e 5 (by omega), k6, k7⟩
 ·
  obtain rfl : j = vs.length := by simp at hj; omega
  have e : ∀ k, (xs ++ [v0, v1, v2, v3, v4, v5])[vs.length * 6 + k]? = ([v0, v1, v2, v3, v4, v5] : List Value)[k]? := fun k => by rw [List.getElem?_append_right (by omega), hl]; congr 1; omega
  have e2 : (vs ++ [(p, q)]).getD vs.length (0, 0) = (p, q) := by simp [List.getD]
  rw [e2]
  exact ⟨v0, v1, v2, v3, v4, v5, e 0, e 1, e 2, e 3, e 4, e 5, hp, hq⟩
theorem VtxOf.ofRow {w : World} {base : Nat} {e : TypeId} {v : Value} {xs : List Value} {vs : List (Rat × Rat)} (h : LRow w base e 6 v vs.length xs) (ht : VtxRow w xs vs) : VtxOf w v vs := by
 rcases Nat.eq_zero_or_pos vs.length with h0 | hp
 ·
  rcases h.1.2 with ⟨rfl, _⟩ | ⟨g, cap, cur, rfl, _⟩
  ·
   exact ⟨none, 0, by rw [h0], fun h => absurd h (by omega)⟩
  ·
   exact ⟨_, _, rfl, fun h => absurd h (by omega)⟩
 ·
  obtain ⟨g, cap, rfl⟩ := ownsRow_some h.1 hp
  have hc : ∀ j u, xs[j]? = some u → w.cell? ((⟨g, 0, none⟩ : Addr).add j) = some u := h.1.cells (g := g) rfl
  have hlt : g < w.heap.size := (h.lt rfl).1
  refine ⟨_, _, rfl, fun _ => ⟨g, 0, rfl, hlt, fun i hi => ?_⟩⟩
  obtain ⟨v0, v1, v2, v3, v4, v5, h0, h1, h2, h3, h4, h5, h6, h7⟩ := ht.2 i hi
  have ea : ∀ j, (⟨g, 0, none⟩ : Addr).add j = ⟨g, 0 + j, none⟩ := fun j => by unfold Addr.add; split <;> simp_all
  refine ⟨v0, v1, v2, v3, v4, v5, ?_, ?_, ?_, ?_, ?_, ?_, h6, h7⟩
  ·
   rw [← ea]; exact hc _ _ h0
  all_goals rw [Nat.add_assoc, ← ea]
  ·
   exact hc _ _ h1
  ·
   exact hc _ _ h2
  ·
   exact hc _ _ h3
  ·
   exact hc _ _ h4
  ·
   exact hc _ _ h5
structure VS (w0 w : World) (va : Value) (xs : List Value) (vs : List (Rat × Rat)) : Prop where
 x : Below w0.heap.size w0 w
 la : LRow w w0.heap.size 76 6 va vs.length xs
 ta : VtxRow w xs vs
theorem VS.below {w0 w w' : World} {va : Value} {xs : List Value} {vs : List (Rat × Rat)} (h : VS w0 w va xs vs) (hb : Below w.heap.size w w') : VS w0 w' va xs vs :=
 ⟨ext_trans h.x hb, h.la.below hb, h.ta.mono fun _ _ hr => hr.below hb⟩
theorem VS.alloc {w0 w : World} {va : Value} {xs : List Value} {vs : List (Rat × Rat)} (h : VS w0 w va xs vs) (o : Obj) : VS w0 (w.alloc o) va xs vs := h.below ((Below.refl _ _).alloc (Nat.le_refl _) _)
theorem VS.append {w0 w w' : World} {va va' : Value} {xs : List Value} {vs : List (Rat × Rat)} (h : VS w0 w va xs vs) {v0 v1 v2 v3 v4 v5 : Value} {p q : Rat} (hp : IsRat w (.agg #[v0, v1, v2]) p) (hq : IsRat w (.agg #[v3, v4, v5]) q)
  (hL : LRow w' w0.heap.size 76 6 va' (vs.length + 1) (xs ++ [v0, v1, v2, v3, v4, v5])) (hg : w.grownBy w' va.ownBlock) : VS w0 w' va' (xs ++ [v0, v1, v2, v3, v4, v5]) (vs ++ [(p, q)]) := by
 have hnd : ∀ g, va.ownBlock = some g → NoDig w g := h.la.2
 exact ⟨h.x.grown hg h.x.size (ownBlock_low h.la.1), by rw [List.length_append]; exact hL, (h.ta.mono fun _ _ hr => hr.grownL hg hnd).snoc (hp.grownL hg hnd) (hq.grownL hg hnd)⟩
theorem cell_new6 (w : World) (a b c d e f : Value) (t : TypeId) : ∀ j u, [a, b, c, d, e, f][j]? = some u → (w.alloc (.cells #[a, b, c, d, e, f] t)).cell? ((⟨w.heap.size, 0, none⟩ : Addr).add j) = some u := by
 intro j u hj
 match j, hj with
 | 0, hj => simp at hj; subst hj; simp [Addr.add]
 | 1, hj => simp at hj; subst hj; simp [Addr.add]
 | 2, hj => simp at hj; subst hj; simp [Addr.add]
 | 3, hj => simp at hj; subst hj; simp [Addr.add]
 | 4, hj => simp at hj; subst hj; simp [Addr.add]
 | 5, hj => simp at hj; subst hj; simp [Addr.add]
 | j + 6, hj => simp at hj
theorem info_vertex : (Try.prog.info? 76).map (fun i => (i.zero, i.size, i.bytes)) = some (some (.agg #[.bool false, .slice none 0 0, .slice none 0 0, .bool false, .slice none 0 0, .slice none 0 0]), 6, 112) := by kernel_rfl
def boxP (x y : Int) (B : Nat) (w : World) : Prop := w.heap[B]? = some (.cells #[.int .i64 x, .int .i64 y] 36 (0, 0))
theorem boxP.all {x y : Int} {B : Nat} {w : World} (h : boxP x y B w) : boxP x y B w ∧ w.cell? ⟨B, 0, none⟩ = some (.int .i64 x) ∧ w.cell? ⟨B, 1, none⟩ = some (.int .i64 y) := ⟨h, blk_cell h 0 _ rfl, blk_cell h 1 _ rfl⟩
theorem boxP.below {x y : Int} {B : Nat} {a b : World} (hb : Below a.heap.size a b) (h : boxP x y B a ∧ a.cell? ⟨B, 0, none⟩ = some (.int .i64 x) ∧ a.cell? ⟨B, 1, none⟩ = some (.int .i64 y)) : boxP x y B b ∧ b.cell? ⟨B, 0, none⟩ = some (.int .i64 x) ∧ b.cell? ⟨B, 1, none⟩ = some (.int .i64 y) :=
 boxP.all (blk_keep h.1 hb (blk_lt h.1))
theorem boxP.grown {x y : Int} {B : Nat} {a b : World} {row : Option Nat} (hg : a.grownBy b row) (hne : some B ≠ row) (h : boxP x y B a ∧ a.cell? ⟨B, 0, none⟩ = some (.int .i64 x) ∧ a.cell? ⟨B, 1, none⟩ = some (.int .i64 y)) : boxP x y B b ∧ b.cell? ⟨B, 0, none⟩ = some (.int .i64 x) ∧ b.cell? ⟨B, 1, none⟩ = some (.int .i64 y) :=
 boxP.all ((hg.block B (blk_lt h.1) hne).trans h.1)

def ratPt (p : Pt) : Rat × Rat := ((p.1 : Rat), (p.2 : Rat))
def ratPts (l : List Pt) : List (Rat × Rat) := l.map ratPt
theorem ratPts_take (l : List Pt) (i : Nat) (hi : i < l.length) : ratPts (l.take (i + 1)) = ratPts (l.take i) ++ [(((l.getD i (0, 0)).1 : Rat), ((l.getD i (0, 0)).2 : Rat))] := by
 unfold ratPts
 rw [List.take_add_one, List.map_append]
 simp [hi, ratPt]
theorem ratPts_length (l : List Pt) (i : Nat) (hi : i ≤ l.length) : (ratPts (l.take i)).length = i := by simp [ratPts]; omega
def RetVtx (vs : List (Rat × Rat)) (w : World) (e : Ending) (w' : World) : Prop := ∃ v, e = .returned v ∧ VtxOf w' v vs ∧ Below w.heap.size w w'

set_option maxRecDepth 100000 in
set_option maxHeartbeats 4000000 in
theorem vertices_any (l : List Pt) (v : Value) (w : World) (h : PairsOf w v l) (hr : ptsOk l = true) (hl : l.length ≤ 1000000) : Calls Try.prog 19 #[v] w (RetVtx (ratPts l) w) := by
 obtain ⟨ao, cap, rfl, hE⟩ := h
 have HE := Lib.hid hE
 have HR := Lib.hid hr
 obtain ⟨iA, hiA, hzA, hsA, hyA⟩ := info_parts info_vertex
 have hzd : ∀ u ∈ (Value.agg #[.bool false, .slice none 0 0, .slice none 0 0, .bool false, .slice none 0 0, .slice none 0 0]).cells.toList, noDig u := by
  intro u hu
  simp [Value.cells] at hu
  rcases hu with rfl | rfl | rfl | rfl
  ·
   exact noDig_bool _
  ·
   exact noDig_slice _ _ _
  ·
   exact noDig_bool _
  ·
   exact noDig_slice _ _ _
 clear hE hr
 go_enter Try.func19, Try.ntmps19
 go_wp2_with fail
 go_loopw [3, 8] (fun va iv wr => ∃ (i : Nat) (xs : List Value), i ≤ l.length ∧ iv = .int .i64 i ∧ VS w wr va xs (ratPts (l.take i)))
  (fun _ iv _ => l.length - (intOf iv).toNat)
 case atStart => exact ⟨0, [], Nat.zero_le _, rfl, Below.refl _ _, LRow.nil _ _ _ _, VtxRow.nil _⟩
 case round =>
  obtain ⟨i, xs, hi, rfl, hT⟩ := hrel
  have HT := Lib.hid hT
  by_cases hlt : i < l.length
  ·
   obtain ⟨b, off, rfl, hbl, hEE⟩ := HE.out (by omega)
   obtain ⟨g0, g1⟩ := (hEE i hlt).below hT.x hbl
   have hlt' : (i : Int) < l.length := by omega
   have hge' : (0 : Int) ≤ i := by omega
   have hbl2 : b < wr.heap.size := Nat.lt_of_lt_of_le hbl hT.x.size
   have Htk := Lib.hid (ratPts_take l i hlt)
   have hln := ratPts_length l i hi
   have hpo := ptOk_range (ptsOk_get HR.out i hlt)
   have hx1 : -4398046511104 ≤ (l.getD i (0, 0)).1 ∧ (l.getD i (0, 0)).1 ≤ 4398046511104 := hpo.1
   have hy1 : -4398046511104 ≤ (l.getD i (0, 0)).2 ∧ (l.getD i (0, 0)).2 ≤ 4398046511104 := hpo.2
   clear hEE hT hpo
   generalize (l.getD i (0, 0)).1 = x at *
   generalize (l.getD i (0, 0)).2 = y at *
   generalize ratPts (l.take i) = vs at *
   have HWX := Lib.hid (fun W => lwhole_any x W (by omega) (by omega))
   have HWY := Lib.hid (fun W => lwhole_any y W (by omega) (by omega))
   have hvs : vs.length ≤ 1000000 := by omega
   clear hln hx1 hy1
   have hN : boxP x y wr.heap.size (wr.alloc (.cells #[.int .i64 x, .int .i64 y] 36)).drew := blk_new wr #[.int .i64 x, .int .i64 y] 36
   have HT0 := Lib.hid (HT.out.below (((Below.refl wr.heap.size wr).alloc (Nat.le_refl _) (.cells #[.int .i64 x, .int .i64 y] 36)).drew))
   have hAlt := Lib.hid (fun g (hg : u3.ownBlock = some g) => (HT.out.la.lt hg).1)
   go_wp2_with fail
   go_region_held3 (fun w' => boxP x y wr.heap.size w' ∧ w'.cell? ⟨wr.heap.size, 0, none⟩ = some (.int .i64 x) ∧ w'.cell? ⟨wr.heap.size, 1, none⟩ = some (.int .i64 y))
    (first | exact hN.all | assumption | (refine boxP.below hbB ?_; assumption) | (refine boxP.below hbA ?_; assumption) | (refine boxP.below ((Below.refl _ _).alloc (Nat.le_refl _) _) ?_; assumption) | (refine boxP.grown hgrA (fun e => Nat.lt_irrefl _ (hAlt.out _ e.symm)) ?_; assumption))
    (first
     | (go_at_call_of 30 (Value.int .i64 x); refine (HWX.out _).mono ?_; rintro e wA ⟨vA, rfl, hvA, hbA⟩; obtain ⟨a1, c1, a2, c2, rfl, _, _⟩ := hvA.opened; have HVA := Lib.hid hvA; have HT1 := Lib.hid (HT0.out.below hbA); clear hvA)
     | (go_at_call_of 30 (Value.int .i64 y); refine (HWY.out _).mono ?_; rintro e wB ⟨vB, rfl, hvB, hbB⟩; obtain ⟨a3, c3, a4, c4, rfl, _, _⟩ := hvB.opened; have HVB := Lib.hid hvB; have HVA2 := Lib.hid (HVA.out.below hbB); have HT2 := Lib.hid (HT1.out.below hbB); clear hvB)
     | (refine step_append_lrow _ rfl (.tmp 12) (.tmp 20) 68 rfl w.heap.size 76 iA _ 6 112 Try.underlying68 hiA hzA hsA hyA rfl (by decide) hzd _ _ _ rfl (HT2.out.alloc _).la ⟨wB.heap.size, 0, none⟩ 1 1 [.bool (decide ((x : Rat).num < 0)), .slice a1 (dig b64 (x : Rat).num.natAbs).length c1, .slice a2 (dig b64 (dn (x : Rat).den)).length c2, .bool (decide ((y : Rat).num < 0)), .slice a3 (dig b64 (y : Rat).num.natAbs).length c3, .slice a4 (dig b64 (dn (y : Rat).den)).length c4] rfl rfl (cell_new6 _ _ _ _ _ _ _ _) (by simp [Value.oneCell']) (by intro u hu; simp at hu; rcases hu with rfl | rfl | rfl | rfl | rfl | rfl; exact noDig_bool _; exact noDig_slice _ _ _; exact noDig_slice _ _ _; exact noDig_bool _; exact noDig_slice _ _ _; exact noDig_slice _ _ _) (by omega) (by unfold maxLen; omega) (by omega) (HT2.out.alloc _).x.size ?_; intro gA capA w3 hL3 hgrA hatA; have HT3 := Lib.hid ((HT2.out.alloc _).append (HVA2.out.below ((Below.refl _ _).alloc (Nat.le_refl _) _)) (HVB.out.below ((Below.refl _ _).alloc (Nat.le_refl _) _)) hL3 hgrA)))
   clear HT HT0 HT1 HT2 HVA HVB HVA2 hL3 hgrA
   go_wp2_with fail
   exact ⟨⟨i + 1, _, by omega, by go_num, by rw [Htk.out]; exact HT3.out⟩, meas_up hlt⟩
  ·
   obtain rfl : i = l.length := by omega
   rw [List.take_length] at hT HT
   have hln : (ratPts l).length = l.length := by simp [ratPts]
   clear hT
   go_wp2_with fail
   go_ret
   exact ⟨_, rfl, VtxOf.ofRow HT.out.la HT.out.ta, HT.out.x⟩

def sumTo (vs : List (Rat × Rat)) : Nat → Rat
 | 0 => 0
 | i + 1 => sumTo vs i + (vs.getD i (0, 0)).1 * (vs.getD ((i + 1) % vs.length) (0, 0)).2 - (vs.getD i (0, 0)).2 * (vs.getD ((i + 1) % vs.length) (0, 0)).1
def SzV (vs : List (Rat × Rat)) : Prop := ∀ i, i < vs.length → szR (vs.getD i (0, 0)).1 1000 ∧ szR (vs.getD i (0, 0)).2 1000
theorem sumTo_size {vs : List (Rat × Rat)} (h : SzV vs) (i : Nat) (hi : i ≤ vs.length) : szR (sumTo vs i) (1 + 4002 * i) := by
 induction i with
 | zero => exact ⟨by simp [sumTo, dig_zero], dig_length_le b64_two 1 _ (by simp [sumTo]; unfold b64; omega)⟩
 | succ i ih =>
  have h1 := h i (by omega)
  have h2 := h ((i + 1) % vs.length) (Nat.mod_lt _ (by omega))
  have a := szR_add (ih (by omega)) (szR_mul h1.1 h2.2)
  have b := szR_sub a (szR_mul h1.2 h2.1)
  exact szR_mono b (by omega)
def BoxQ (w : World) (B : Nat) (q : Rat) : Prop := ∃ b x i j y k l T, w.heap[B]? = some (.cells #[.bool b, .slice x i j, .slice y k l] T (0, 0)) ∧ IsRat w (.agg #[.bool b, .slice x i j, .slice y k l]) q
theorem BoxQ.rb {w : World} {B : Nat} {q : Rat} (h : BoxQ w B q) : RB w B := by
 obtain ⟨b, x, i, j, y, k, l, T, h, _⟩ := h; exact ⟨b, x, i, j, y, k, l, T, h⟩
theorem BoxQ.stored {w : World} {B : Nat} {neg : Bool} {x1 y1 : Option Addr} {i1 j1 k1 l1 : Nat} {q : Rat} (hB : RB w B) (h : IsRat w (.agg #[.bool neg, .slice x1 i1 j1, .slice y1 k1 l1]) q) :
  BoxQ (((w.setCell ⟨B, 0, none⟩ (.bool neg)).setCell ⟨B, 1, none⟩ (.slice x1 i1 j1)).setCell ⟨B, 2, none⟩ (.slice y1 k1 l1)) B q := by
 obtain ⟨vn, vd, e, h1, h2⟩ := h
 simp only [Value.agg.injEq, Array.mk.injEq, List.cons.injEq, Value.bool.injEq, and_true] at e
 obtain ⟨rfl, rfl, rfl⟩ := e
 obtain ⟨b, x, i, j, y, k, l, T, hB⟩ := hB
 exact ⟨_, x1, i1, j1, y1, k1, l1, T, by exact blk_set (blk_set (blk_set hB 0 _) 1 _) 2 _, _, _, rfl, store3 hB h1, store3 hB h2⟩
theorem RB.other {w : World} {B B' : Nat} (h : RB w B') (hne : B' ≠ B) (u0 u1 u2 : Value) : RB (((w.setCell ⟨B, 0, none⟩ u0).setCell ⟨B, 1, none⟩ u1).setCell ⟨B, 2, none⟩ u2) B' := by
 obtain ⟨b, x, i, j, y, k, l, T, h⟩ := h
 refine ⟨b, x, i, j, y, k, l, T, ?_⟩
 rw [heap_setCell_other _ ⟨B, 2, none⟩ B' _ hne, heap_setCell_other _ ⟨B, 1, none⟩ B' _ hne, heap_setCell_other _ ⟨B, 0, none⟩ B' _ hne]
 exact h
theorem keep12 {n : Nat} {W a b : World} {VBl WB : Nat} {x0 x1 x2 x3 x4 x5 y0 y1 y2 y3 y4 y5 : Value} (hn : n ≤ W.heap.size) (hb : Below a.heap.size a b) (h : Below n W a ∧ a.cell? ⟨VBl, 0, none⟩ = some x0 ∧ a.cell? ⟨VBl, 1, none⟩ = some x1 ∧ a.cell? ⟨VBl, 2, none⟩ = some x2 ∧ a.cell? ⟨VBl, 3, none⟩ = some x3 ∧ a.cell? ⟨VBl, 4, none⟩ = some x4 ∧ a.cell? ⟨VBl, 5, none⟩ = some x5 ∧ a.cell? ⟨WB, 0, none⟩ = some y0 ∧ a.cell? ⟨WB, 1, none⟩ = some y1 ∧ a.cell? ⟨WB, 2, none⟩ = some y2 ∧ a.cell? ⟨WB, 3, none⟩ = some y3 ∧ a.cell? ⟨WB, 4, none⟩ = some y4 ∧ a.cell? ⟨WB, 5, none⟩ = some y5) : Below n W b ∧ b.cell? ⟨VBl, 0, none⟩ = some x0 ∧ b.cell? ⟨VBl, 1, none⟩ = some x1 ∧ b.cell? ⟨VBl, 2, none⟩ = some x2 ∧ b.cell? ⟨VBl, 3, none⟩ = some x3 ∧ b.cell? ⟨VBl, 4, none⟩ = some x4 ∧ b.cell? ⟨VBl, 5, none⟩ = some x5 ∧ b.cell? ⟨WB, 0, none⟩ = some y0 ∧ b.cell? ⟨WB, 1, none⟩ = some y1 ∧ b.cell? ⟨WB, 2, none⟩ = some y2 ∧ b.cell? ⟨WB, 3, none⟩ = some y3 ∧ b.cell? ⟨WB, 4, none⟩ = some y4 ∧ b.cell? ⟨WB, 5, none⟩ = some y5 := by
 obtain ⟨h0, h1, h2, h3, h4, h5, h6, k1, k2, k3, k4, k5, k6⟩ := h
 have e : ∀ B j v, a.cell? ⟨B, j, none⟩ = some v → b.cell? ⟨B, j, none⟩ = some v := fun B j v h => (hb.cell (p := ⟨B, j, none⟩) (World.block_lt_of_cell? (h := h))).trans h
 have := h0.size
 exact ⟨h0.trans (hb.mono (by omega)), e _ _ _ h1, e _ _ _ h2, e _ _ _ h3, e _ _ _ h4, e _ _ _ h5, e _ _ _ h6, e _ _ _ k1, e _ _ _ k2, e _ _ _ k3, e _ _ _ k4, e _ _ _ k5, e _ _ _ k6⟩
theorem keep12s {n : Nat} {W a : World} {VBl WB B : Nat} {x0 x1 x2 x3 x4 x5 y0 y1 y2 y3 y4 y5 u0 u1 u2 : Value} (hn : n ≤ B) (hv : VBl ≠ B) (hw : WB ≠ B) (h : Below n W a ∧ a.cell? ⟨VBl, 0, none⟩ = some x0 ∧ a.cell? ⟨VBl, 1, none⟩ = some x1 ∧ a.cell? ⟨VBl, 2, none⟩ = some x2 ∧ a.cell? ⟨VBl, 3, none⟩ = some x3 ∧ a.cell? ⟨VBl, 4, none⟩ = some x4 ∧ a.cell? ⟨VBl, 5, none⟩ = some x5 ∧ a.cell? ⟨WB, 0, none⟩ = some y0 ∧ a.cell? ⟨WB, 1, none⟩ = some y1 ∧ a.cell? ⟨WB, 2, none⟩ = some y2 ∧ a.cell? ⟨WB, 3, none⟩ = some y3 ∧ a.cell? ⟨WB, 4, none⟩ = some y4 ∧ a.cell? ⟨WB, 5, none⟩ = some y5) (b : World) (hb : b = ((a.setCell ⟨B, 0, none⟩ u0).setCell ⟨B, 1, none⟩ u1).setCell ⟨B, 2, none⟩ u2) : Below n W b ∧ b.cell? ⟨VBl, 0, none⟩ = some x0 ∧ b.cell? ⟨VBl, 1, none⟩ = some x1 ∧ b.cell? ⟨VBl, 2, none⟩ = some x2 ∧ b.cell? ⟨VBl, 3, none⟩ = some x3 ∧ b.cell? ⟨VBl, 4, none⟩ = some x4 ∧ b.cell? ⟨VBl, 5, none⟩ = some x5 ∧ b.cell? ⟨WB, 0, none⟩ = some y0 ∧ b.cell? ⟨WB, 1, none⟩ = some y1 ∧ b.cell? ⟨WB, 2, none⟩ = some y2 ∧ b.cell? ⟨WB, 3, none⟩ = some y3 ∧ b.cell? ⟨WB, 4, none⟩ = some y4 ∧ b.cell? ⟨WB, 5, none⟩ = some y5 := by
 subst hb
 obtain ⟨h0, h1, h2, h3, h4, h5, h6, k1, k2, k3, k4, k5, k6⟩ := h
 have e : ∀ B1 j v, B1 ≠ B → a.cell? ⟨B1, j, none⟩ = some v → (((a.setCell ⟨B, 0, none⟩ u0).setCell ⟨B, 1, none⟩ u1).setCell ⟨B, 2, none⟩ u2).cell? ⟨B1, j, none⟩ = some v := fun B1 j v hne h => by
  rw [World.cell?_setCell_other, World.cell?_setCell_other, World.cell?_setCell_other, h]
  all_goals intro e; cases e; exact hne rfl
 exact ⟨below_store3 h0 hn, e _ _ _ hv h1, e _ _ _ hv h2, e _ _ _ hv h3, e _ _ _ hv h4, e _ _ _ hv h5, e _ _ _ hv h6, e _ _ _ hw k1, e _ _ _ hw k2, e _ _ _ hw k3, e _ _ _ hw k4, e _ _ _ hw k5, e _ _ _ hw k6⟩

set_option maxRecDepth 100000 in
set_option maxHeartbeats 16000000 in
theorem area_any (vs : List (Rat × Rat)) (v : Value) (w : World) (h : VtxOf w v vs) (hs : SzV vs) (hl : vs.length ≤ 1000) : Calls Try.prog 18 #[v] w (RetRat (sumTo vs vs.length / 2) w) := by
 have H := Lib.hid h
 obtain ⟨ao, cap, rfl, hE⟩ := h
 have HE := Lib.hid hE
 have HS := Lib.hid hs
 have HSS := Lib.hid (fun i hi => sumTo_size hs i hi)
 clear hE hs
 have hB1 := blk_new w #[.bool false, .slice none 0 0, .slice none 0 0] 45
 have hA1 := (Below.refl w.heap.size w).alloc (Nat.le_refl _) (.cells #[.bool false, .slice none 0 0, .slice none 0 0] 45)
 have hB2 := blk_new (w.alloc (.cells #[.bool false, .slice none 0 0, .slice none 0 0] 45)) #[.bool false, .slice none 0 0, .slice none 0 0] 45
 rw [World.size_alloc] at hB2
 have hB12 := blk_keep hB1 ((Below.refl _ _).alloc (Nat.le_refl _) (.cells #[.bool false, .slice none 0 0, .slice none 0 0] 45)) (blk_lt hB1)
 have hA2 := hA1.alloc hA1.size (.cells #[.bool false, .slice none 0 0, .slice none 0 0] 45)
 go_enter Try.func18, Try.ntmps18
 go_wp2_with fail
 generalize (w.alloc (.cells #[.bool false, .slice none 0 0, .slice none 0 0] 45)).alloc (.cells #[.bool false, .slice none 0 0, .slice none 0 0] 45) = W0 at *
 have HRB0 : Hid (RB W0 w.heap.size) := ⟨false, none, 0, 0, none, 0, 0, _, hB12⟩
 have HBQ0 : Hid (BoxQ W0 (w.heap.size + 1) (sumTo vs 0)) := ⟨false, none, 0, 0, none, 0, 0, _, hB2, IsRat.zero _⟩
 clear hB1 hB2 hB12 hA1
 go_loopw [9] (fun iv wr => ∃ (i : Nat), i ≤ vs.length ∧ iv = .int .i64 i ∧ Hid (RB wr w.heap.size) ∧ Hid (BoxQ wr (w.heap.size + 1) (sumTo vs i)) ∧ Below w.heap.size w wr) (fun iv _ => vs.length - (intOf iv).toNat)
 case atStart => exact ⟨0, Nat.zero_le _, rfl, HRB0, HBQ0, hA2⟩
 case round =>
  clear HRB0 HBQ0 hA2
  obtain ⟨i, hi, rfl, hRB, hBQ, hbel⟩ := hrel
  have Hl1 := Lib.hid hRB.out.lt
  have Hl2 := Lib.hid hBQ.out.rb.lt
  by_cases hlt : i < vs.length
  ·
   obtain ⟨b, off, rfl, hbl, hEE⟩ := HE.out (by omega)
   have hjl : (i + 1) % vs.length < vs.length := Nat.mod_lt _ (by omega)
   obtain ⟨v0, v1, v2, v3, v4, v5, g0, g1, g2, g3, g4, g5, hr1, hr2⟩ := hEE i hlt
   obtain ⟨u0, u1, u2, u3, u4, u5, k0, k1, k2, k3, k4, k5, ht1, ht2⟩ := hEE ((i + 1) % vs.length) hjl
   have HsI := Lib.hid (HSS.out i (by omega))
   have HsJ := Lib.hid (HSS.out (i + 1) (by omega))
   have Hst : Hid (sumTo vs i + (vs.getD i (0, 0)).1 * (vs.getD ((i + 1) % vs.length) (0, 0)).2 - (vs.getD i (0, 0)).2 * (vs.getD ((i + 1) % vs.length) (0, 0)).1 = sumTo vs (i + 1)) := rfl
   have Hz1 := Lib.hid (HS.out i hlt)
   have Hz2 := Lib.hid (HS.out ((i + 1) % vs.length) hjl)
   have ej : IntKind.i64.wrap ((i : Int) + 1) = (i : Int) + 1 := IntWalk.i64_in _ (by omega)
   have em : ((i : Int) + 1) % (vs.length : Int) = (((i + 1) % vs.length : Nat) : Int) := by rw [Int.natCast_emod]; rfl
   have em2 : ((i : Int) + 1).tmod (vs.length : Int) = (((i + 1) % vs.length : Nat) : Int) := by rw [Int.tmod_eq_emod_of_nonneg (by omega)]; exact em
   have ew : IntKind.i64.wrap (((i + 1) % vs.length : Nat) : Int) = (((i + 1) % vs.length : Nat) : Int) := IntWalk.i64_in _ (by omega)
   have hnz : ((vs.length : Int) == 0) = false := beq_eq_false_iff_ne.2 (by omega)
   have hlt' : (i : Int) < vs.length := by omega
   have hge' : (0 : Int) ≤ i := by omega
   have hjl' : ((((i + 1) % vs.length : Nat)) : Int) < vs.length := by omega
   have hbl2 : b < wr.heap.size := Nat.lt_of_lt_of_le hbl hbel.size
   have hj0 : (0 : Int) ≤ (((i + 1) % vs.length : Nat) : Int) := by omega
   clear hEE
   generalize (vs.getD i (0, 0)).1 = x1 at *
   generalize (vs.getD i (0, 0)).2 = y1 at *
   generalize (vs.getD ((i + 1) % vs.length) (0, 0)).1 = x2 at *
   generalize (vs.getD ((i + 1) % vs.length) (0, 0)).2 = y2 at *
   generalize (i + 1) % vs.length = j at *
   obtain ⟨p1a, p1b, p1c, p1d, hag, _, _⟩ := hr1.opened
   simp only [Value.agg.injEq, Array.mk.injEq, List.cons.injEq, and_true] at hag
   obtain ⟨rfl, rfl, rfl⟩ := hag
   obtain ⟨q1a, q1b, q1c, q1d, hag, _, _⟩ := hr2.opened
   simp only [Value.agg.injEq, Array.mk.injEq, List.cons.injEq, and_true] at hag
   obtain ⟨rfl, rfl, rfl⟩ := hag
   obtain ⟨p2a, p2b, p2c, p2d, hag, _, _⟩ := ht1.opened
   simp only [Value.agg.injEq, Array.mk.injEq, List.cons.injEq, and_true] at hag
   obtain ⟨rfl, rfl, rfl⟩ := hag
   obtain ⟨q2a, q2b, q2c, q2d, hag, _, _⟩ := ht2.opened
   simp only [Value.agg.injEq, Array.mk.injEq, List.cons.injEq, and_true] at hag
   obtain ⟨rfl, rfl, rfl⟩ := hag
   have HV1 := Lib.hid hr1
   have HV2 := Lib.hid hr2
   have HW1 := Lib.hid ht1
   have HW2 := Lib.hid ht2
   have c : ∀ o v, w.cell? ⟨b, o, none⟩ = some v → wr.cell? ⟨b, o, none⟩ = some v := fun o v h => (hbel.cell (p := ⟨b, o, none⟩) hbl).trans h
   replace g0 := c _ _ g0
   replace g1 := c _ _ g1
   replace g2 := c _ _ g2
   replace g3 := c _ _ g3
   replace g4 := c _ _ g4
   replace g5 := c _ _ g5
   have hal1 := (Below.refl wr.heap.size wr).alloc (Nat.le_refl _) (.cells #[.bool (decide (x1.num < 0)), .slice p1a (dig b64 x1.num.natAbs).length p1b, .slice p1c (dig b64 (dn x1.den)).length p1d, .bool (decide (y1.num < 0)), .slice q1a (dig b64 y1.num.natAbs).length q1b, .slice q1c (dig b64 (dn y1.den)).length q1d] 76)
   have d : ∀ o v, w.cell? ⟨b, o, none⟩ = some v → (wr.alloc (.cells #[.bool (decide (x1.num < 0)), .slice p1a (dig b64 x1.num.natAbs).length p1b, .slice p1c (dig b64 (dn x1.den)).length p1d, .bool (decide (y1.num < 0)), .slice q1a (dig b64 y1.num.natAbs).length q1b, .slice q1c (dig b64 (dn y1.den)).length q1d] 76)).cell? ⟨b, o, none⟩ = some v := fun o v h => (hal1.cell (p := ⟨b, o, none⟩) hbl2).trans (c _ _ h)
   replace k0 := d _ _ k0
   replace k1 := d _ _ k1
   replace k2 := d _ _ k2
   replace k3 := d _ _ k3
   replace k4 := d _ _ k4
   replace k5 := d _ _ k5
   clear c d hr1 hr2 ht1 ht2
   have hV := blk_new wr #[.bool (decide (x1.num < 0)), .slice p1a (dig b64 x1.num.natAbs).length p1b, .slice p1c (dig b64 (dn x1.den)).length p1d, .bool (decide (y1.num < 0)), .slice q1a (dig b64 y1.num.natAbs).length q1b, .slice q1c (dig b64 (dn y1.den)).length q1d] 76
   have hV2 := blk_keep hV ((Below.refl _ _).alloc (Nat.le_refl _) (.cells #[.bool (decide (x2.num < 0)), .slice p2a (dig b64 x2.num.natAbs).length p2b, .slice p2c (dig b64 (dn x2.den)).length p2d, .bool (decide (y2.num < 0)), .slice q2a (dig b64 y2.num.natAbs).length q2b, .slice q2c (dig b64 (dn y2.den)).length q2d] 76)) (blk_lt hV)
   have hWb := blk_new (wr.alloc (.cells #[.bool (decide (x1.num < 0)), .slice p1a (dig b64 x1.num.natAbs).length p1b, .slice p1c (dig b64 (dn x1.den)).length p1d, .bool (decide (y1.num < 0)), .slice q1a (dig b64 y1.num.natAbs).length q1b, .slice q1c (dig b64 (dn y1.den)).length q1d] 76)) #[.bool (decide (x2.num < 0)), .slice p2a (dig b64 x2.num.natAbs).length p2b, .slice p2c (dig b64 (dn x2.den)).length p2d, .bool (decide (y2.num < 0)), .slice q2a (dig b64 y2.num.natAbs).length q2b, .slice q2c (dig b64 (dn y2.den)).length q2d] 76
   rw [World.size_alloc] at hWb
   have hal2 := hal1.alloc hal1.size (.cells #[.bool (decide (x2.num < 0)), .slice p2a (dig b64 x2.num.natAbs).length p2b, .slice p2c (dig b64 (dn x2.den)).length p2d, .bool (decide (y2.num < 0)), .slice q2a (dig b64 y2.num.natAbs).length q2b, .slice q2c (dig b64 (dn y2.den)).length q2d] 76)
   have hbl3 : b < (wr.alloc (.cells #[.bool (decide (x1.num < 0)), .slice p1a (dig b64 x1.num.natAbs).length p1b, .slice p1c (dig b64 (dn x1.den)).length p1d, .bool (decide (y1.num < 0)), .slice q1a (dig b64 y1.num.natAbs).length q1b, .slice q1c (dig b64 (dn y1.den)).length q1d] 76)).heap.size := by simp; omega
   clear hal1 hV
   go_wp2_with fail
   have hx2 : Below w.heap.size w ((wr.alloc (.cells #[.bool (decide (x1.num < 0)), .slice p1a (dig b64 x1.num.natAbs).length p1b, .slice p1c (dig b64 (dn x1.den)).length p1d, .bool (decide (y1.num < 0)), .slice q1a (dig b64 y1.num.natAbs).length q1b, .slice q1c (dig b64 (dn y1.den)).length q1d] 76)).alloc (.cells #[.bool (decide (x2.num < 0)), .slice p2a (dig b64 x2.num.natAbs).length p2b, .slice p2c (dig b64 (dn x2.den)).length p2d, .bool (decide (y2.num < 0)), .slice q2a (dig b64 y2.num.natAbs).length q2b, .slice q2c (dig b64 (dn y2.den)).length q2d] 76)).drew := (ext_trans hbel hal2).drew
   have HRB2 := Lib.hid (hRB.out.keep hal2 Hl1.out)
   obtain ⟨sb, sx, si, sj, sy, sk, sl, T, hbs, hqs⟩ := hBQ.out
   have hS2 := blk_keep hbs hal2 Hl2.out
   have HQ2 := Lib.hid (hqs.below hal2)
   have hVW : wr.heap.size ≠ w.heap.size + 1 ∧ wr.heap.size + 1 ≠ w.heap.size + 1 := by have := Hl2.out; omega
   generalize (wr.alloc (.cells #[.bool (decide (x1.num < 0)), .slice p1a (dig b64 x1.num.natAbs).length p1b, .slice p1c (dig b64 (dn x1.den)).length p1d, .bool (decide (y1.num < 0)), .slice q1a (dig b64 y1.num.natAbs).length q1b, .slice q1c (dig b64 (dn y1.den)).length q1d] 76)).alloc (.cells #[.bool (decide (x2.num < 0)), .slice p2a (dig b64 x2.num.natAbs).length p2b, .slice p2c (dig b64 (dn x2.den)).length p2d, .bool (decide (y2.num < 0)), .slice q2a (dig b64 y2.num.natAbs).length q2b, .slice q2c (dig b64 (dn y2.den)).length q2d] 76) = W2 at *
   generalize wr.heap.size + 1 = WB at *
   generalize wr.heap.size = VBl at *
   obtain ⟨hVn, hWn⟩ := hVW
   have z0 : W2.drew.cell? ⟨VBl, 0, none⟩ = some (.bool (decide (x1.num < 0))) := blk_cell hV2 0 _ rfl
   have z1 : W2.drew.cell? ⟨VBl, 1, none⟩ = some (.slice p1a (dig b64 x1.num.natAbs).length p1b) := blk_cell hV2 1 _ rfl
   have z2 : W2.drew.cell? ⟨VBl, 2, none⟩ = some (.slice p1c (dig b64 (dn x1.den)).length p1d) := blk_cell hV2 2 _ rfl
   have z3 : W2.drew.cell? ⟨VBl, 3, none⟩ = some (.bool (decide (y1.num < 0))) := blk_cell hV2 3 _ rfl
   have z4 : W2.drew.cell? ⟨VBl, 4, none⟩ = some (.slice q1a (dig b64 y1.num.natAbs).length q1b) := blk_cell hV2 4 _ rfl
   have z5 : W2.drew.cell? ⟨VBl, 5, none⟩ = some (.slice q1c (dig b64 (dn y1.den)).length q1d) := blk_cell hV2 5 _ rfl
   have t0 : W2.drew.cell? ⟨WB, 0, none⟩ = some (.bool (decide (x2.num < 0))) := blk_cell hWb 0 _ rfl
   have t1 : W2.drew.cell? ⟨WB, 1, none⟩ = some (.slice p2a (dig b64 x2.num.natAbs).length p2b) := blk_cell hWb 1 _ rfl
   have t2 : W2.drew.cell? ⟨WB, 2, none⟩ = some (.slice p2c (dig b64 (dn x2.den)).length p2d) := blk_cell hWb 2 _ rfl
   have t3 : W2.drew.cell? ⟨WB, 3, none⟩ = some (.bool (decide (y2.num < 0))) := blk_cell hWb 3 _ rfl
   have t4 : W2.drew.cell? ⟨WB, 4, none⟩ = some (.slice q2a (dig b64 y2.num.natAbs).length q2b) := blk_cell hWb 4 _ rfl
   have t5 : W2.drew.cell? ⟨WB, 5, none⟩ = some (.slice q2c (dig b64 (dn y2.den)).length q2d) := blk_cell hWb 5 _ rfl
   have hSd : W2.drew.heap[w.heap.size + 1]? = some (.cells #[.bool sb, .slice sx si sj, .slice sy sk sl] T (0, 0)) := hS2
   have s0 := blk_cell hSd 0 (.bool sb) rfl
   have s1 := blk_cell hSd 1 (.slice sx si sj) rfl
   have s2 := blk_cell hSd 2 (.slice sy sk sl) rfl
   have hn1 : w.heap.size ≤ w.heap.size + 1 := Nat.le_succ _
   have HZ1 := Lib.hid (szR_mono Hz1.out.1 (show 1000 ≤ 68719476736 by omega))
   have HZ2 := Lib.hid (szR_mono Hz1.out.2 (show 1000 ≤ 68719476736 by omega))
   have HZ3 := Lib.hid (szR_mono Hz2.out.1 (show 1000 ≤ 68719476736 by omega))
   have HZ4 := Lib.hid (szR_mono Hz2.out.2 (show 1000 ≤ 68719476736 by omega))
   have HZ5 := Lib.hid (szR_mono HsI.out (show 1 + 4002 * i ≤ 68719476736 by omega))
   have HZ6 := Lib.hid (szR_mono (szR_mul Hz1.out.1 Hz2.out.2) (show 1000 + 1000 ≤ 68719476736 by omega))
   have HZ7 := Lib.hid (szR_mono (szR_mul Hz1.out.2 Hz2.out.1) (show 1000 + 1000 ≤ 68719476736 by omega))
   have HZ8 := Lib.hid (szR_mono (szR_add HsI.out (szR_mul Hz1.out.1 Hz2.out.2)) (show 1 + 4002 * i + (1000 + 1000) + 1 ≤ 68719476736 by omega))
   clear hRB hBQ hbs hqs hal2 hV2 hWb g0 g1 g2 g3 g4 g5 k0 k1 k2 k3 k4 k5 hbl3 hS2 hbel
   generalize hss : sumTo vs i = s at *
   generalize hss2 : sumTo vs (i + 1) = s' at *
   have Hs2 := Lib.hid hss2
   clear hss hss2
   refine wp_region_held_drew (S := (fun w' => Below w.heap.size w w' ∧ w'.cell? ⟨VBl, 0, none⟩ = some (.bool (decide (x1.num < 0))) ∧ w'.cell? ⟨VBl, 1, none⟩ = some (.slice p1a (dig b64 x1.num.natAbs).length p1b) ∧ w'.cell? ⟨VBl, 2, none⟩ = some (.slice p1c (dig b64 (dn x1.den)).length p1d) ∧ w'.cell? ⟨VBl, 3, none⟩ = some (.bool (decide (y1.num < 0))) ∧ w'.cell? ⟨VBl, 4, none⟩ = some (.slice q1a (dig b64 y1.num.natAbs).length q1b) ∧ w'.cell? ⟨VBl, 5, none⟩ = some (.slice q1c (dig b64 (dn y1.den)).length q1d) ∧ w'.cell? ⟨WB, 0, none⟩ = some (.bool (decide (x2.num < 0))) ∧ w'.cell? ⟨WB, 1, none⟩ = some (.slice p2a (dig b64 x2.num.natAbs).length p2b) ∧ w'.cell? ⟨WB, 2, none⟩ = some (.slice p2c (dig b64 (dn x2.den)).length p2d) ∧ w'.cell? ⟨WB, 3, none⟩ = some (.bool (decide (y2.num < 0))) ∧ w'.cell? ⟨WB, 4, none⟩ = some (.slice q2a (dig b64 y2.num.natAbs).length q2b) ∧ w'.cell? ⟨WB, 5, none⟩ = some (.slice q2c (dig b64 (dn y2.den)).length q2d))) (by kernel_rfl) ⟨hx2, z0, z1, z2, z3, z4, z5, t0, t1, t2, t3, t4, t5⟩ (fun hh0 => ?_)
   refine tk0 (i := 1) (v := ?vp1) rfl (Or.inl ⟨by rfl, ?hyp1⟩) (by assumption) ?rep1
   case hyp1 => intro w hSw; (try dsimp only at hSw); (go_simp <;> with_reducible rfl)
   try simp only [na1, na2, na3, Act.put, na4, na5, na6]
   refine tk0 (i := 2) (v := ?vp2) rfl (Or.inl ⟨by rfl, ?hyp2⟩) (by assumption) ?rep2
   case hyp2 => intro w hSw; (try dsimp only at hSw); (go_simp <;> with_reducible rfl)
   try simp only [na1, na2, na3, Act.put, na4, na5, na6]
   refine tk0 (i := 3) (v := ?vp3) rfl (Or.inl ⟨by rfl, ?hyp3⟩) (by assumption) ?rep3
   case hyp3 => intro w hSw; (try dsimp only at hSw); (go_simp <;> with_reducible rfl)
   try simp only [na1, na2, na3, Act.put, na4, na5, na6]
   refine tk0 (i := 4) (v := ?vp4) rfl (Or.inl ⟨by rfl, ?hyp4⟩) (by assumption) ?rep4
   case hyp4 => intro w hSw; (try dsimp only at hSw); (go_simp <;> with_reducible rfl)
   try simp only [na1, na2, na3, Act.put, na4, na5, na6]
   refine tk0 (i := 7) (v := ?vp7) rfl (Or.inl ⟨by rfl, ?hyp7⟩) (by assumption) ?rep7
   case hyp7 => intro w hSw; (try dsimp only at hSw); (go_simp <;> with_reducible rfl)
   try simp only [na1, na2, na3, Act.put, na4, na5, na6]
   refine tk0 (i := 8) (v := ?vp8) rfl (Or.inl ⟨by rfl, ?hyp8⟩) (by assumption) ?rep8
   case hyp8 => intro w hSw; (try dsimp only at hSw); (go_simp <;> with_reducible rfl)
   try simp only [na1, na2, na3, Act.put, na4, na5, na6]
   refine tk0 (i := 9) (v := ?vp9) rfl (Or.inl ⟨by rfl, ?hyp9⟩) (by assumption) ?rep9
   case hyp9 => intro w hSw; (try dsimp only at hSw); (go_simp <;> with_reducible rfl)
   try simp only [na1, na2, na3, Act.put, na4, na5, na6]
   refine tk0 (i := 10) (v := ?vp10) rfl (Or.inl ⟨by rfl, ?hyp10⟩) (by assumption) ?rep10
   case hyp10 => intro w hSw; (try dsimp only at hSw); (go_simp <;> with_reducible rfl)
   try simp only [na1, na2, na3, Act.put, na4, na5, na6]
   refine wpAnyH_ready (rs := [0, 5]) (by kernel_rfl) (by simp) ?_
   refine AllReadyH.cons rfl (fun K hK => ?_) (AllReadyH.cons rfl (fun K hK => ?_) AllReadyH.nil)
   ·
    go_simp
    refine hK.out _ _ hh0 (fun hh1 => ?_)
    clear hK K hh0
    try simp only [na1, na2, na3, Act.put, na4, na5, na6]
    refine rd1 (i := 5) rfl (fun K hK => ?_)
    go_simp
    go_wp2_with (go_at_call_of 27 (Value.agg #[.bool (decide (x1.num < 0)), .slice p1a (dig b64 x1.num.natAbs).length p1b, .slice p1c (dig b64 (dn x1.den)).length p1d]); refine (mulRat_any x1 y2 _ _ _ (HV1.out.below (And.left (by assumption))) (HW2.out.below (And.left (by assumption))) HZ1.out HZ4.out).mono ?_; rintro e wA ⟨vA, rfl, hvA, hbA⟩; have kA := blk_keep hSd hbA (blk_lt hSd); have skA0 := blk_cell kA 0 (.bool sb) rfl; have skA1 := blk_cell kA 1 (.slice sx si sj) rfl; have skA2 := blk_cell kA 2 (.slice sy sk sl) rfl; have fkA0 := blk_frozen kA 0; have fkA1 := blk_frozen kA 1; have fkA2 := blk_frozen kA 2)
    refine hK.out _ _ (keep12 (Nat.le_refl _) hbA hh1) (fun hh2 => ?_)
    clear hK K hh1
    try simp only [na1, na2, na3, Act.put, na4, na5, na6]
    refine rd1 (i := 6) rfl (fun K hK => ?_)
    go_simp
    go_wp2_with (go_at_call 26; refine (addRat_any s (x1 * y2) _ _ _ (HQ2.out.below (ext_trans (show Below W2.heap.size W2 W2.drew from (Below.refl _ _).drew) hbA)) hvA HZ5.out HZ6.out).mono ?_; rintro e wB ⟨vB, rfl, hvB, hbB⟩; have kB := blk_keep kA hbB (blk_lt kA); have skB0 := blk_cell kB 0 (.bool sb) rfl; have skB1 := blk_cell kB 1 (.slice sx si sj) rfl; have skB2 := blk_cell kB 2 (.slice sy sk sl) rfl; have fkB0 := blk_frozen kB 0; have fkB1 := blk_frozen kB 1; have fkB2 := blk_frozen kB 2)
    refine hK.out _ _ (keep12 (Nat.le_refl _) hbB hh2) (fun hh3 => ?_)
    clear hK K hh2
    try simp only [na1, na2, na3, Act.put, na4, na5, na6]
    refine rd1 (i := 11) rfl (fun K hK => ?_)
    go_simp
    go_wp2_with (go_at_call_of 27 (Value.agg #[.bool (decide (y1.num < 0)), .slice q1a (dig b64 y1.num.natAbs).length q1b, .slice q1c (dig b64 (dn y1.den)).length q1d]); refine (mulRat_any y1 x2 _ _ _ (HV2.out.below (And.left (by assumption))) (HW1.out.below (And.left (by assumption))) HZ2.out HZ3.out).mono ?_; rintro e wC ⟨vC, rfl, hvC, hbC⟩; have kC := blk_keep kB hbC (blk_lt kB); have skC0 := blk_cell kC 0 (.bool sb) rfl; have skC1 := blk_cell kC 1 (.slice sx si sj) rfl; have skC2 := blk_cell kC 2 (.slice sy sk sl) rfl; have fkC0 := blk_frozen kC 0; have fkC1 := blk_frozen kC 1; have fkC2 := blk_frozen kC 2)
    refine hK.out _ _ (keep12 (Nat.le_refl _) hbC hh3) (fun hh4 => ?_)
    clear hK K hh3
    try simp only [na1, na2, na3, Act.put, na4, na5, na6]
    refine rd1 (i := 12) rfl (fun K hK => ?_)
    go_simp
    go_wp2_with (go_at_call 28; refine (subRat_any (s + x1 * y2) (y1 * x2) _ _ _ (hvB.below hbC) hvC HZ8.out HZ7.out).mono ?_; rw [Hst.out]; rintro e wD ⟨vD, rfl, hvD, hbD⟩; obtain ⟨r1, r2, r3, r4, rfl, _, _⟩ := IsRat.opened hvD; have kD := blk_keep kC hbD (blk_lt kC); have skD0 := blk_cell kD 0 (.bool sb) rfl; have skD1 := blk_cell kD 1 (.slice sx si sj) rfl; have skD2 := blk_cell kD 2 (.slice sy sk sl) rfl; have fkD0 := blk_frozen kD 0; have fkD1 := blk_frozen kD 1; have fkD2 := blk_frozen kD 2)
    refine hK.out _ _ (keep12 (Nat.le_refl _) hbD hh4) (fun hh5 => ?_)
    clear hK K hh4
    try simp only [na1, na2, na3, Act.put, na4, na5, na6]
    refine rd1 (i := 13) rfl (fun K hK => ?_)
    go_simp
    refine hK.out _ _ (keep12s hn1 hVn hWn hh5 _ rfl) (fun hS1 => ?_)
    clear hK K hh5
    try simp only [na1, na2, na3, Act.put, na4, na5, na6]
    refine wpAnyH_done (by kernel_rfl) ?_ _
    have HRB3 : Hid (RB wD w.heap.size) := RB.keep (a := W2.drew) HRB2.out (ext_trans (ext_trans (ext_trans hbA hbB) hbC) hbD) HRB2.out.lt
    have HRB4 := Lib.hid (RB.other HRB3.out (show w.heap.size ≠ w.heap.size + 1 by omega) (.bool (decide (s'.num < 0))) (.slice r1 (dig b64 s'.num.natAbs).length r2) (.slice r3 (dig b64 (dn s'.den)).length r4))
    have HBQ4 := Lib.hid (BoxQ.stored (B := w.heap.size + 1) ⟨sb, sx, si, sj, sy, sk, sl, T, kD⟩ hvD)
    have hx5 := hS1.1
    clear hS1
    go_wp2_with fail
    exact ⟨⟨i + 1, by omega, by go_num, HRB4.out, by rw [Hs2.out]; exact HBQ4.out, hx5⟩, meas_up hlt⟩
   ·
    go_simp
    go_wp2_with (go_at_call_of 27 (Value.agg #[.bool (decide (x1.num < 0)), .slice p1a (dig b64 x1.num.natAbs).length p1b, .slice p1c (dig b64 (dn x1.den)).length p1d]); refine (mulRat_any x1 y2 _ _ _ (HV1.out.below (And.left (by assumption))) (HW2.out.below (And.left (by assumption))) HZ1.out HZ4.out).mono ?_; rintro e wA ⟨vA, rfl, hvA, hbA⟩; have kA := blk_keep hSd hbA (blk_lt hSd); have skA0 := blk_cell kA 0 (.bool sb) rfl; have skA1 := blk_cell kA 1 (.slice sx si sj) rfl; have skA2 := blk_cell kA 2 (.slice sy sk sl) rfl; have fkA0 := blk_frozen kA 0; have fkA1 := blk_frozen kA 1; have fkA2 := blk_frozen kA 2)
    refine hK.out _ _ (keep12 (Nat.le_refl _) hbA hh0) (fun hh1 => ?_)
    clear hK K hh0
    try simp only [na1, na2, na3, Act.put, na4, na5, na6]
    refine rd1 (i := 0) rfl (fun K hK => ?_)
    go_simp
    refine hK.out _ _ hh1 (fun hh2 => ?_)
    clear hK K hh1
    try simp only [na1, na2, na3, Act.put, na4, na5, na6]
    refine rd1 (i := 6) rfl (fun K hK => ?_)
    go_simp
    go_wp2_with (go_at_call 26; refine (addRat_any s (x1 * y2) _ _ _ (HQ2.out.below (ext_trans (show Below W2.heap.size W2 W2.drew from (Below.refl _ _).drew) hbA)) hvA HZ5.out HZ6.out).mono ?_; rintro e wB ⟨vB, rfl, hvB, hbB⟩; have kB := blk_keep kA hbB (blk_lt kA); have skB0 := blk_cell kB 0 (.bool sb) rfl; have skB1 := blk_cell kB 1 (.slice sx si sj) rfl; have skB2 := blk_cell kB 2 (.slice sy sk sl) rfl; have fkB0 := blk_frozen kB 0; have fkB1 := blk_frozen kB 1; have fkB2 := blk_frozen kB 2)
    refine hK.out _ _ (keep12 (Nat.le_refl _) hbB hh2) (fun hh3 => ?_)
    clear hK K hh2
    try simp only [na1, na2, na3, Act.put, na4, na5, na6]
    refine rd1 (i := 11) rfl (fun K hK => ?_)
    go_simp
    go_wp2_with (go_at_call_of 27 (Value.agg #[.bool (decide (y1.num < 0)), .slice q1a (dig b64 y1.num.natAbs).length q1b, .slice q1c (dig b64 (dn y1.den)).length q1d]); refine (mulRat_any y1 x2 _ _ _ (HV2.out.below (And.left (by assumption))) (HW1.out.below (And.left (by assumption))) HZ2.out HZ3.out).mono ?_; rintro e wC ⟨vC, rfl, hvC, hbC⟩; have kC := blk_keep kB hbC (blk_lt kB); have skC0 := blk_cell kC 0 (.bool sb) rfl; have skC1 := blk_cell kC 1 (.slice sx si sj) rfl; have skC2 := blk_cell kC 2 (.slice sy sk sl) rfl; have fkC0 := blk_frozen kC 0; have fkC1 := blk_frozen kC 1; have fkC2 := blk_frozen kC 2)
    refine hK.out _ _ (keep12 (Nat.le_refl _) hbC hh3) (fun hh4 => ?_)
    clear hK K hh3
    try simp only [na1, na2, na3, Act.put, na4, na5, na6]
    refine rd1 (i := 12) rfl (fun K hK => ?_)
    go_simp
    go_wp2_with (go_at_call 28; refine (subRat_any (s + x1 * y2) (y1 * x2) _ _ _ (hvB.below hbC) hvC HZ8.out HZ7.out).mono ?_; rw [Hst.out]; rintro e wD ⟨vD, rfl, hvD, hbD⟩; obtain ⟨r1, r2, r3, r4, rfl, _, _⟩ := IsRat.opened hvD; have kD := blk_keep kC hbD (blk_lt kC); have skD0 := blk_cell kD 0 (.bool sb) rfl; have skD1 := blk_cell kD 1 (.slice sx si sj) rfl; have skD2 := blk_cell kD 2 (.slice sy sk sl) rfl; have fkD0 := blk_frozen kD 0; have fkD1 := blk_frozen kD 1; have fkD2 := blk_frozen kD 2)
    refine hK.out _ _ (keep12 (Nat.le_refl _) hbD hh4) (fun hh5 => ?_)
    clear hK K hh4
    try simp only [na1, na2, na3, Act.put, na4, na5, na6]
    refine rd1 (i := 13) rfl (fun K hK => ?_)
    go_simp
    refine hK.out _ _ (keep12s hn1 hVn hWn hh5 _ rfl) (fun hS1 => ?_)
    clear hK K hh5
    try simp only [na1, na2, na3, Act.put, na4, na5, na6]
    refine wpAnyH_done (by kernel_rfl) ?_ _
    have HRB3 : Hid (RB wD w.heap.size) := RB.keep (a := W2.drew) HRB2.out (ext_trans (ext_trans (ext_trans hbA hbB) hbC) hbD) HRB2.out.lt
    have HRB4 := Lib.hid (RB.other HRB3.out (show w.heap.size ≠ w.heap.size + 1 by omega) (.bool (decide (s'.num < 0))) (.slice r1 (dig b64 s'.num.natAbs).length r2) (.slice r3 (dig b64 (dn s'.den)).length r4))
    have HBQ4 := Lib.hid (BoxQ.stored (B := w.heap.size + 1) ⟨sb, sx, si, sj, sy, sk, sl, T, kD⟩ hvD)
    have hx5 := hS1.1
    clear hS1
    go_wp2_with fail
    exact ⟨⟨i + 1, by omega, by go_num, HRB4.out, by rw [Hs2.out]; exact HBQ4.out, hx5⟩, meas_up hlt⟩
  ·
   obtain rfl : i = vs.length := by omega
   obtain ⟨sb, sx, si, sj, sy, sk, sl, T, hbs, hqs⟩ := hBQ.out
   have s0 := blk_cell hbs 0 (.bool sb) rfl
   have s1 := blk_cell hbs 1 (.slice sx si sj) rfl
   have s2 := blk_cell hbs 2 (.slice sy sk sl) rfl
   have HH := Lib.hid (half_any (sumTo vs vs.length) (.agg #[.bool sb, .slice sx si sj, .slice sy sk sl]) wr hqs (szR_mono (HSS.out vs.length (Nat.le_refl _)) (by omega)))
   clear hbs hqs hBQ
   generalize sumTo vs vs.length / 2 = q at *
   go_wp2_with fail
   refine HH.out.mono ?_
   rintro e w3 ⟨vh, rfl, hvh, hbh⟩
   have hRB3 := hRB.out.keep hbh Hl1.out
   obtain ⟨a5, c5, a6, c6, rfl, n5, n6⟩ := IsRat.opened hvh
   have hx := ext_trans hbel hbh
   obtain ⟨g0, g1, g2, f0', f1', f2'⟩ := hRB3.cell
   have hBl := hRB3.lt
   clear hvh hbh s0 s1 s2
   go_wp2_with fail
   refine bodyPost_ret (v := .agg #[.bool (decide (q.num < 0)), .slice a5 (dig b64 q.num.natAbs).length _, .slice a6 (dig b64 (dn q.den)).length _]) (by simp [results, Try.results18, go_sem, g0, g1, g2]; first | done | exact ⟨rfl, rfl⟩ | rfl) rfl ⟨_, rfl, ?_, below_store3 hx (by omega)⟩
   exact IsRat.stored hRB3 n5 n6 rfl rfl

end Go.Proofs.Ytnjpkfccncjkhaa
