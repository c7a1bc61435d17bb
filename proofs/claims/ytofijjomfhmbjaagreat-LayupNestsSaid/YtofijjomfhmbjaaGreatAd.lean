/- Part d of the lemmas and walks. -/
import Derived.Test.YtofijjomfhmbjaaGreatAc

namespace Go.Proofs.YtofijjomfhmbjaaGreat
open Go.RowKit

theorem IsRat.stored {w : World} {B : Nat} {neg : Bool} {x1 y1 : Option Addr} {i1 j1 k1 l1 n : Nat} {q : Rat}
  (hB : RB w B) (h1 : IsNat .u64 b64 w (.slice x1 i1 j1) n) (h2 : IsNat .u64 b64 w (.slice y1 k1 l1) (dn q.den))
  (hn : decide (q.num < 0) = neg) (hm : q.num.natAbs = n) :
  IsRat (((w.setCell ⟨B, 0, none⟩ (.bool neg)).setCell ⟨B, 1, none⟩ (.slice x1 i1 j1)).setCell ⟨B, 2, none⟩ (.slice y1 k1 l1)) (.agg #[.bool neg, .slice x1 i1 j1, .slice y1 k1 l1]) q := by
 subst hn hm
 obtain ⟨b, x, i, j, y, k, l, T, hB⟩ := hB
 exact ⟨_, _, rfl, store3 hB h1, store3 hB h2⟩

set_option maxRecDepth 100000 in
set_option maxHeartbeats 4000000 in
theorem addRat_any (x y : Rat) (vx vy : Value) (w : World) (hx : IsRat w vx x) (hy : IsRat w vy y) (hlx : szR x 68719476736) (hly : szR y 68719476736) : Calls Tryz.prog 45 #[vx, vy] w (RetRat (x + y) w) := by
 obtain ⟨a1, c1, a2, c2, rfl, n1, n2⟩ := hx.opened
 obtain ⟨a3, c3, a4, c4, rfl, n3, n4⟩ := hy.opened
 have N1 := Lib.hid n1
 have N2 := Lib.hid n2
 have N3 := Lib.hid n3
 have N4 := Lib.hid n4
 have He := Lib.hid (mkQ_add x y)
 have hA := dig_length_mul b64_two x.num.natAbs y.den
 have hB := dig_length_mul b64_two y.num.natAbs x.den
 have hC := dig_length_mul b64_two x.den y.den
 have HA : Hid ((dig b64 (x.num.natAbs * y.den)).length ≤ 137438953472) := by have := hlx.1; have := hly.2; show _ ≤ _; omega
 have HBB : Hid ((dig b64 (y.num.natAbs * x.den)).length ≤ 137438953472) := by have := hlx.2; have := hly.1; show _ ≤ _; omega
 have HC : Hid ((dig b64 (x.den * y.den)).length ≤ 137438953472) := by have := hlx.2; have := hly.2; show _ ≤ _; omega
 have hS := dig_length_add b64_two (x.num.natAbs * y.den) (y.num.natAbs * x.den) 137438953472 HA.out HBB.out
 have HS := Lib.hid hS
 have HP := Lib.hid (Nat.mul_pos x.den_pos y.den_pos)
 have HLX := Lib.hid hlx
 have HLY := Lib.hid hly
 clear hx hy n1 n2 n3 n4 hlx hly hA hB hC hS
 go_enter Tryz.func45, Tryz.ntmps45
 go_wp2_with fail
 generalize hsx : decide (x.num < 0) = sx at *
 generalize hsy : decide (y.num < 0) = sy at *
 clear hsx hsy
 generalize hW0 : ((w.alloc (.cells #[.bool sx, .slice a1 (dig b64 x.num.natAbs).length c1, .slice a2 (dig b64 (dn x.den)).length c2] 54)).alloc (.cells #[.bool sy, .slice a3 (dig b64 y.num.natAbs).length c3, .slice a4 (dig b64 (dn y.den)).length c4] 54)).alloc (.cells #[.bool false, .slice none 0 0, .slice none 0 0] 54) = W at *
 obtain ⟨hal, hB1, hB2, hB3⟩ := boxes3 w _ _ _ _ W hW0.symm
 clear hW0
 have hW : Below w.heap.size w W.drew := hal.drew
 have p0 := blk_cell hB1 0 (.bool sx) rfl
 have p1 := blk_cell hB1 1 (.slice a1 (dig b64 x.num.natAbs).length c1) rfl
 have p2 := blk_cell hB1 2 (.slice a2 (dig b64 (dn x.den)).length c2) rfl
 have r0 := blk_cell hB2 0 (.bool sy) rfl
 have r1 := blk_cell hB2 1 (.slice a3 (dig b64 y.num.natAbs).length c3) rfl
 have r2 := blk_cell hB2 2 (.slice a4 (dig b64 (dn y.den)).length c4) rfl
 have HB : Hid (RB W (w.heap.size + 2)) := ⟨false, none, 0, 0, none, 0, 0, _, hB3⟩
 have hl3 := blk_lt hB3
 clear hB1 hB2 hB3
 go_region_held3 (fun w' => Below w.heap.size w w' ∧ RB w' (w.heap.size + 2) ∧ w'.cell? ⟨w.heap.size, 0, none⟩ = some (.bool sx) ∧ w'.cell? ⟨w.heap.size, 1, none⟩ = some (.slice a1 (dig b64 x.num.natAbs).length c1) ∧ w'.cell? ⟨w.heap.size, 2, none⟩ = some (.slice a2 (dig b64 (dn x.den)).length c2) ∧ w'.cell? ⟨w.heap.size + 1, 0, none⟩ = some (.bool sy) ∧ w'.cell? ⟨w.heap.size + 1, 1, none⟩ = some (.slice a3 (dig b64 y.num.natAbs).length c3) ∧ w'.cell? ⟨w.heap.size + 1, 2, none⟩ = some (.slice a4 (dig b64 (dn y.den)).length c4) ∧ w'.cell? ⟨w.heap.size + 2, 0, none⟩ = some (cellOf w' ⟨w.heap.size + 2, 0, none⟩) ∧ w'.cell? ⟨w.heap.size + 2, 1, none⟩ = some (cellOf w' ⟨w.heap.size + 2, 1, none⟩) ∧ w'.cell? ⟨w.heap.size + 2, 2, none⟩ = some (cellOf w' ⟨w.heap.size + 2, 2, none⟩) ∧ w'.frozen? ⟨w.heap.size + 2, 0, none⟩ = false ∧ w'.frozen? ⟨w.heap.size + 2, 1, none⟩ = false ∧ w'.frozen? ⟨w.heap.size + 2, 2, none⟩ = false)
  (first | exact hold6 hW p0 p1 p2 r0 r1 r2 HB.out | exact hold6_call (Nat.le_refl _) hbB (by assumption) | exact hold6_call (Nat.le_refl _) hbA (by assumption))
  (first
   | (go_at_call_of 65 (Value.slice a2 (dig b64 (dn x.den)).length c2); (with_reducible refine (under_any x.den _ _ (N2.out.below (And.left (by assumption))) x.den_pos).mono ?_); rintro e wA ⟨vA, rfl, hvA, hbA⟩)
   | (go_at_call_of 65 (Value.slice a4 (dig b64 (dn y.den)).length c4); (with_reducible refine (under_any y.den _ _ (N4.out.below (And.left (by assumption))) y.den_pos).mono ?_); rintro e wB ⟨vB, rfl, hvB, hbB⟩))
 rename_i hS1
 have hD := ext_trans hbA hbB
 have HB1 : Hid (RB wB (w.heap.size + 2)) := RB.keep (a := W.drew) HB.out hD hl3
 have hl31 := HB1.out.lt
 have hXA := Lib.hid (hvA.below hbB)
 have hXB := Lib.hid hvB
 obtain ⟨hWB, -, p0', p1', p2', r0', r1', r2', -⟩ := hS1
 clear p0 p1 p2 r0 r1 r2
 replace p0 := p0'
 replace p1 := p1'
 replace p2 := p2'
 replace r0 := r0'
 replace r1 := r1'
 replace r2 := r2'
 clear p0' p1' p2' r0' r1' r2'
 have hWB2 : Below w.heap.size w wB.drew := hWB.drew
 clear hbA hbB hvA hvB hD HB hW hal hl3
 go_wp2_with fail
 go_region_held3 (fun w' => Below w.heap.size w w' ∧ RB w' (w.heap.size + 2) ∧ w'.cell? ⟨w.heap.size, 0, none⟩ = some (.bool sx) ∧ w'.cell? ⟨w.heap.size, 1, none⟩ = some (.slice a1 (dig b64 x.num.natAbs).length c1) ∧ w'.cell? ⟨w.heap.size, 2, none⟩ = some (.slice a2 (dig b64 (dn x.den)).length c2) ∧ w'.cell? ⟨w.heap.size + 1, 0, none⟩ = some (.bool sy) ∧ w'.cell? ⟨w.heap.size + 1, 1, none⟩ = some (.slice a3 (dig b64 y.num.natAbs).length c3) ∧ w'.cell? ⟨w.heap.size + 1, 2, none⟩ = some (.slice a4 (dig b64 (dn y.den)).length c4) ∧ w'.cell? ⟨w.heap.size + 2, 0, none⟩ = some (cellOf w' ⟨w.heap.size + 2, 0, none⟩) ∧ w'.cell? ⟨w.heap.size + 2, 1, none⟩ = some (cellOf w' ⟨w.heap.size + 2, 1, none⟩) ∧ w'.cell? ⟨w.heap.size + 2, 2, none⟩ = some (cellOf w' ⟨w.heap.size + 2, 2, none⟩) ∧ w'.frozen? ⟨w.heap.size + 2, 0, none⟩ = false ∧ w'.frozen? ⟨w.heap.size + 2, 1, none⟩ = false ∧ w'.frozen? ⟨w.heap.size + 2, 2, none⟩ = false)
  (first | exact hold6 hWB2 p0 p1 p2 r0 r1 r2 HB1.out | exact hold6_call (Nat.le_refl _) hbD (by assumption) | exact hold6_call (Nat.le_refl _) hbC (by assumption))
  (first
   | (go_at_call_of 66 (Value.slice a1 (dig b64 x.num.natAbs).length c1); refine (times_any x.num.natAbs y.den _ _ _ (N1.out.below (And.left (by assumption))) (hXB.out.below (Below.refl _ _).drew) (by have := HLX.out.1; have := HLY.out.2; omega)).mono ?_; rintro e wC ⟨vC, rfl, hvC, hbC⟩)
   | (go_at_call_of 66 (Value.slice a3 (dig b64 y.num.natAbs).length c3); refine (times_any y.num.natAbs x.den _ _ _ (N3.out.below (And.left (by assumption))) ((hXA.out.below (Below.refl _ _).drew).below hbC) (by have := HLX.out.2; have := HLY.out.1; omega)).mono ?_; rintro e wD ⟨vD, rfl, hvD, hbD⟩))
 rename_i hS1
 have hD : Below wB.heap.size wB wD := ext_trans (Below.refl _ _).drew (ext_trans hbC hbD)
 have HB2 : Hid (RB wD (w.heap.size + 2)) := RB.keep HB1.out hD hl31
 have hl32 := HB2.out.lt
 have hB3 := Lib.hid (hvC.below hbD)
 have hD3 := Lib.hid hvD
 have hXA2 := Lib.hid (hXA.out.below hD)
 have hXB2 := Lib.hid (hXB.out.below hD)
 obtain ⟨hWD, -, p0', p1', p2', r0', r1', r2', -⟩ := hS1
 clear p0 p1 p2 r0 r1 r2
 replace p0 := p0'
 replace p1 := p1'
 replace p2 := p2'
 replace r0 := r0'
 replace r1 := r1'
 replace r2 := r2'
 clear p0' p1' p2' r0' r1' r2'
 clear hbC hbD hvC hvD hD HB1 hXA hXB hWB hWB2 hl31
 go_wp2_with fail
 refine (times_any x.den y.den _ _ _ hXA2.out hXB2.out (by have := HLX.out.2; have := HLY.out.2; omega)).mono ?_
 rintro e W2 ⟨vC, rfl, hvC, hbF⟩
 have HC3 := Lib.hid hvC
 have HN1 := Lib.hid (hB3.out.below hbF)
 have HN2 := Lib.hid (hD3.out.below hbF)
 have HB3 : Hid (RB W2 (w.heap.size + 2)) := RB.keep HB2.out hbF hl32
 have e6 := hold6_call (Nat.le_refl _) hbF (hold6 hWD p0 p1 p2 r0 r1 r2 HB2.out)
 obtain ⟨hW2, -, p0', p1', p2', r0', r1', r2', -⟩ := e6
 clear p0 p1 p2 r0 r1 r2 hbF HB2 hB3 hD3 hXA2 hXB2 hvC hWD hl32
 replace p0 := p0'
 replace p1 := p1'
 replace p2 := p2'
 replace r0 := r0'
 replace r1 := r1'
 replace r2 := r2'
 clear p0' p1' p2' r0' r1' r2'
 have HB2 := HB3
 have hl32 := HB2.out.lt
 clear HB3
 generalize x.num.natAbs * y.den = A at *
 generalize y.num.natAbs * x.den = B at *
 generalize x.den * y.den = C at *
 by_cases hs : (sx == sy) = true
 ·
  have Hs := Lib.hid hs
  go_wp2_with fail
  have hWe : Below w.heap.size w W2.drew := hW2.drew
  go_region_held3 (fun w' => Below w.heap.size w w' ∧ RB w' (w.heap.size + 2) ∧ w'.cell? ⟨w.heap.size, 0, none⟩ = some (.bool sx) ∧ w'.cell? ⟨w.heap.size, 1, none⟩ = some (.slice a1 (dig b64 x.num.natAbs).length c1) ∧ w'.cell? ⟨w.heap.size, 2, none⟩ = some (.slice a2 (dig b64 (dn x.den)).length c2) ∧ w'.cell? ⟨w.heap.size + 1, 0, none⟩ = some (.bool sy) ∧ w'.cell? ⟨w.heap.size + 1, 1, none⟩ = some (.slice a3 (dig b64 y.num.natAbs).length c3) ∧ w'.cell? ⟨w.heap.size + 1, 2, none⟩ = some (.slice a4 (dig b64 (dn y.den)).length c4) ∧ w'.cell? ⟨w.heap.size + 2, 0, none⟩ = some (cellOf w' ⟨w.heap.size + 2, 0, none⟩) ∧ w'.cell? ⟨w.heap.size + 2, 1, none⟩ = some (cellOf w' ⟨w.heap.size + 2, 1, none⟩) ∧ w'.cell? ⟨w.heap.size + 2, 2, none⟩ = some (cellOf w' ⟨w.heap.size + 2, 2, none⟩) ∧ w'.frozen? ⟨w.heap.size + 2, 0, none⟩ = false ∧ w'.frozen? ⟨w.heap.size + 2, 1, none⟩ = false ∧ w'.frozen? ⟨w.heap.size + 2, 2, none⟩ = false)
   (first | exact hold6 hWe p0 p1 p2 r0 r1 r2 HB2.out | exact hold6_call (Nat.le_refl _) hbE (by assumption) | exact hold6_call (Nat.le_refl _) hbD (by assumption) | exact hold6_store _ _ _ _ _ _ _ (by omega) (by omega) (by omega) (by assumption) _ rfl)
   (first
    | (go_at_call 68; (refine (plus_any A B _ _ _ (HN1.out.below (Below.refl _ _).drew) (HN2.out.below (Below.refl _ _).drew) (by have := HA.out; omega) (by have := HBB.out; omega)).mono ?_); rintro e wD' ⟨vE, rfl, hvE, hbD⟩)
    | (go_at_call 67; (refine (reduced_any _ (A + B) C _ _ _ hvE (HC3.out.below (ext_trans (show Below W2.heap.size W2 W2.drew from (Below.refl _ _).drew) hbD)) HP.out (by have := HA.out; have := HBB.out; have := HS.out; omega) (by have := HC.out; omega)).mono ?_); rintro e wE ⟨vF, rfl, hvF, hbE⟩; obtain ⟨a5, c5, a6, c6, rfl, n5, n6⟩ := IsRat.opened hvF))
  have hE := ext_trans hbD hbE
  have hRB := RB.keep (a := W2.drew) HB2.out hE hl32
  obtain ⟨g0, g1, g2, f0', f1', f2'⟩ := hRB.cell
  have hx := hWe.trans (hE.mono hWe.size)
  have hBl := hRB.lt
  have He' := He.out sx (A + B) (by have e : sx = sy := (by simpa using Hs.out); rw [← e]; exact sg_add sx A B)
  generalize mkQ sx (A + B) C = q at *
  subst He'
  go_wp2_with fail
  refine bodyPost_ret (v := .agg #[.bool (decide ((x + y).num < 0)), .slice a5 (dig b64 (x + y).num.natAbs).length _, .slice a6 (dig b64 (dn (x + y).den)).length _]) (by simp [results, Tryz.results45, go_sem, g0, g1, g2]; first | done | exact ⟨rfl, rfl⟩ | rfl) rfl ⟨_, rfl, ?_, below_store3 hx (by omega)⟩
  exact IsRat.stored hRB n5 n6 rfl rfl
 ·
  have hs' : (sx == sy) = false := by simpa using hs
  have Hs := Lib.hid hs'
  clear hs
  go_wp2_with fail
  refine (cmp_any A B _ _ W2 HN1.out HN2.out).mono ?_
  rintro e w' ⟨rfl, nq, rfl⟩
  have hWn : Below w.heap.size w (W2.drewN nq) := below_dn hW2 nq
  have HC4 := Lib.hid (HC3.out.below (below_dn (Below.refl W2.heap.size W2) nq))
  have HN3 := Lib.hid (HN1.out.below (below_dn (Below.refl W2.heap.size W2) nq))
  have HN4 := Lib.hid (HN2.out.below (below_dn (Below.refl W2.heap.size W2) nq))
  have HB4 : Hid (RB (W2.drewN nq) (w.heap.size + 2)) := HB2.out
  have hl34 := HB4.out.lt
  clear HB2 HN1 HN2 HC3 hW2 hl32
  have q0 : (W2.drewN nq).cell? ⟨w.heap.size, 0, none⟩ = _ := p0
  have q1 : (W2.drewN nq).cell? ⟨w.heap.size, 1, none⟩ = _ := p1
  have q2 : (W2.drewN nq).cell? ⟨w.heap.size, 2, none⟩ = _ := p2
  have q3 : (W2.drewN nq).cell? ⟨w.heap.size + 1, 0, none⟩ = _ := r0
  have q4 : (W2.drewN nq).cell? ⟨w.heap.size + 1, 1, none⟩ = _ := r1
  have q5 : (W2.drewN nq).cell? ⟨w.heap.size + 1, 2, none⟩ = _ := r2
  clear p0 p1 p2 r0 r1 r2
  have p0 := q0
  have p1 := q1
  have p2 := q2
  have r0 := q3
  have r1 := q4
  have r2 := q5
  clear q0 q1 q2 q3 q4 q5
  generalize W2.drewN nq = W3 at *
  have HC3 := HC4
  have HN1 := HN3
  have HN2 := HN4
  have HB2 := HB4
  have hl32 := hl34
  have hW2 := hWn
  clear HC4 HN3 HN4 HB4 hl34 hWn
  have hWW : W3 = W3 := rfl
  clear hWW
  by_cases hge : B ≤ A
  ·
   have hc := cmpN_ge hge
   generalize cmpN A B = c at *
   have Hge := Lib.hid hge
   clear hge
   go_wp2_with fail
   have hWe : Below w.heap.size w W3.drew := hW2.drew
   go_region_held3 (fun w' => Below w.heap.size w w' ∧ RB w' (w.heap.size + 2) ∧ w'.cell? ⟨w.heap.size, 0, none⟩ = some (.bool sx) ∧ w'.cell? ⟨w.heap.size, 1, none⟩ = some (.slice a1 (dig b64 x.num.natAbs).length c1) ∧ w'.cell? ⟨w.heap.size, 2, none⟩ = some (.slice a2 (dig b64 (dn x.den)).length c2) ∧ w'.cell? ⟨w.heap.size + 1, 0, none⟩ = some (.bool sy) ∧ w'.cell? ⟨w.heap.size + 1, 1, none⟩ = some (.slice a3 (dig b64 y.num.natAbs).length c3) ∧ w'.cell? ⟨w.heap.size + 1, 2, none⟩ = some (.slice a4 (dig b64 (dn y.den)).length c4) ∧ w'.cell? ⟨w.heap.size + 2, 0, none⟩ = some (cellOf w' ⟨w.heap.size + 2, 0, none⟩) ∧ w'.cell? ⟨w.heap.size + 2, 1, none⟩ = some (cellOf w' ⟨w.heap.size + 2, 1, none⟩) ∧ w'.cell? ⟨w.heap.size + 2, 2, none⟩ = some (cellOf w' ⟨w.heap.size + 2, 2, none⟩) ∧ w'.frozen? ⟨w.heap.size + 2, 0, none⟩ = false ∧ w'.frozen? ⟨w.heap.size + 2, 1, none⟩ = false ∧ w'.frozen? ⟨w.heap.size + 2, 2, none⟩ = false)
    (first | exact hold6 hWe p0 p1 p2 r0 r1 r2 HB2.out | exact hold6_call (Nat.le_refl _) hbE (by assumption) | exact hold6_call (Nat.le_refl _) hbD (by assumption) | exact hold6_store _ _ _ _ _ _ _ (by omega) (by omega) (by omega) (by assumption) _ rfl)
    (first
     | (go_at_call 70; (refine (minus_any A B _ _ _ (HN1.out.below (Below.refl _ _).drew) (HN2.out.below (Below.refl _ _).drew) Hge.out (by have := HA.out; omega)).mono ?_); rintro e wD' ⟨vE, rfl, hvE, hbD⟩)
     | (go_at_call 67; (refine (reduced_any _ (A - B) C _ _ _ hvE (HC3.out.below (ext_trans (show Below W3.heap.size W3 W3.drew from (Below.refl _ _).drew) hbD)) HP.out (by have := HA.out; exact Nat.le_trans (dig_length_mono b64_two (Nat.sub_le _ _)) (by omega)) (by have := HC.out; omega)).mono ?_); rintro e wE ⟨vF, rfl, hvF, hbE⟩; obtain ⟨a5, c5, a6, c6, rfl, n5, n6⟩ := IsRat.opened hvF))
   have hE := ext_trans hbD hbE
   have hRB := RB.keep (a := W3.drew) HB2.out hE hl32
   obtain ⟨g0, g1, g2, f0', f1', f2'⟩ := hRB.cell
   have hx := hWe.trans (hE.mono hWe.size)
   have hBl := hRB.lt
   have He' := He.out sx (A - B) (sg_sub Hs.out Hge.out)
   generalize mkQ sx (A - B) C = q at *
   subst He'
   go_wp2_with fail
   refine bodyPost_ret (v := .agg #[.bool (decide ((x + y).num < 0)), .slice a5 (dig b64 (x + y).num.natAbs).length _, .slice a6 (dig b64 (dn (x + y).den)).length _]) (by simp [results, Tryz.results45, go_sem, g0, g1, g2]; first | done | exact ⟨rfl, rfl⟩ | rfl) rfl ⟨_, rfl, ?_, below_store3 hx (by omega)⟩
   exact IsRat.stored hRB n5 n6 rfl rfl
  ·
   have hc := cmpN_nge hge
   generalize cmpN A B = c at *
   have Hge : Hid (A ≤ B) := Nat.le_of_lt (Nat.lt_of_not_le hge)
   clear hge
   go_wp2_with fail
   have hWe : Below w.heap.size w W3.drew := hW2.drew
   go_region_held3 (fun w' => Below w.heap.size w w' ∧ RB w' (w.heap.size + 2) ∧ w'.cell? ⟨w.heap.size, 0, none⟩ = some (.bool sx) ∧ w'.cell? ⟨w.heap.size, 1, none⟩ = some (.slice a1 (dig b64 x.num.natAbs).length c1) ∧ w'.cell? ⟨w.heap.size, 2, none⟩ = some (.slice a2 (dig b64 (dn x.den)).length c2) ∧ w'.cell? ⟨w.heap.size + 1, 0, none⟩ = some (.bool sy) ∧ w'.cell? ⟨w.heap.size + 1, 1, none⟩ = some (.slice a3 (dig b64 y.num.natAbs).length c3) ∧ w'.cell? ⟨w.heap.size + 1, 2, none⟩ = some (.slice a4 (dig b64 (dn y.den)).length c4) ∧ w'.cell? ⟨w.heap.size + 2, 0, none⟩ = some (cellOf w' ⟨w.heap.size + 2, 0, none⟩) ∧ w'.cell? ⟨w.heap.size + 2, 1, none⟩ = some (cellOf w' ⟨w.heap.size + 2, 1, none⟩) ∧ w'.cell? ⟨w.heap.size + 2, 2, none⟩ = some (cellOf w' ⟨w.heap.size + 2, 2, none⟩) ∧ w'.frozen? ⟨w.heap.size + 2, 0, none⟩ = false ∧ w'.frozen? ⟨w.heap.size + 2, 1, none⟩ = false ∧ w'.frozen? ⟨w.heap.size + 2, 2, none⟩ = false)
    (first | exact hold6 hWe p0 p1 p2 r0 r1 r2 HB2.out | exact hold6_call (Nat.le_refl _) hbE (by assumption) | exact hold6_call (Nat.le_refl _) hbD (by assumption) | exact hold6_store _ _ _ _ _ _ _ (by omega) (by omega) (by omega) (by assumption) _ rfl)
    (first
     | (go_at_call 70; (refine (minus_any B A _ _ _ (HN2.out.below (Below.refl _ _).drew) (HN1.out.below (Below.refl _ _).drew) Hge.out (by have := HBB.out; omega)).mono ?_); rintro e wD' ⟨vE, rfl, hvE, hbD⟩)
     | (go_at_call 67; (refine (reduced_any _ (B - A) C _ _ _ hvE (HC3.out.below (ext_trans (show Below W3.heap.size W3 W3.drew from (Below.refl _ _).drew) hbD)) HP.out (by have := HBB.out; exact Nat.le_trans (dig_length_mono b64_two (Nat.sub_le _ _)) (by omega)) (by have := HC.out; omega)).mono ?_); rintro e wE ⟨vF, rfl, hvF, hbE⟩; obtain ⟨a5, c5, a6, c6, rfl, n5, n6⟩ := IsRat.opened hvF))
   have hE := ext_trans hbD hbE
   have hRB := RB.keep (a := W3.drew) HB2.out hE hl32
   obtain ⟨g0, g1, g2, f0', f1', f2'⟩ := hRB.cell
   have hx := hWe.trans (hE.mono hWe.size)
   have hBl := hRB.lt
   have He' := He.out sy (B - A) (by rw [Int.add_comm]; exact sg_sub (by have := Hs.out; cases sx <;> cases sy <;> simp_all) Hge.out)
   generalize mkQ sy (B - A) C = q at *
   subst He'
   go_wp2_with fail
   refine bodyPost_ret (v := .agg #[.bool (decide ((x + y).num < 0)), .slice a5 (dig b64 (x + y).num.natAbs).length _, .slice a6 (dig b64 (dn (x + y).den)).length _]) (by simp [results, Tryz.results45, go_sem, g0, g1, g2]; first | done | exact ⟨rfl, rfl⟩ | rfl) rfl ⟨_, rfl, ?_, below_store3 hx (by omega)⟩
   exact IsRat.stored hRB n5 n6 rfl rfl

end Go.Proofs.YtofijjomfhmbjaaGreat

namespace Go.Proofs.YtofijjomfhmbjaaGreat
open Go.RowKit

set_option maxRecDepth 100000 in
set_option maxHeartbeats 4000000 in
theorem mulRat_any (x y : Rat) (vx vy : Value) (w : World) (hx : IsRat w vx x) (hy : IsRat w vy y) (hlx : szR x 68719476736) (hly : szR y 68719476736) : Calls Tryz.prog 46 #[vx, vy] w (RetRat (x * y) w) := by
 obtain ⟨a1, c1, a2, c2, rfl, n1, n2⟩ := hx.opened
 obtain ⟨a3, c3, a4, c4, rfl, n3, n4⟩ := hy.opened
 have N1 := Lib.hid n1
 have N2 := Lib.hid n2
 have N3 := Lib.hid n3
 have N4 := Lib.hid n4
 have He := Lib.hid (mkQ_mul x y)
 have HLX := Lib.hid hlx
 have HLY := Lib.hid hly
 clear hx hy n1 n2 n3 n4 hlx hly
 go_enter Tryz.func46, Tryz.ntmps46
 go_wp2_with fail
 generalize hsx : decide (x.num < 0) = sx at *
 generalize hsy : decide (y.num < 0) = sy at *
 clear hsx hsy
 generalize hW0 : ((w.alloc (.cells #[.bool sx, .slice a1 (dig b64 x.num.natAbs).length c1, .slice a2 (dig b64 (dn x.den)).length c2] 54)).alloc (.cells #[.bool sy, .slice a3 (dig b64 y.num.natAbs).length c3, .slice a4 (dig b64 (dn y.den)).length c4] 54)).alloc (.cells #[.bool false, .slice none 0 0, .slice none 0 0] 54) = W at *
 obtain ⟨hal, hB1, hB2, hB3⟩ := boxes3 w _ _ _ _ W hW0.symm
 clear hW0
 have hW : Below w.heap.size w W.drew := hal.drew
 have p0 := blk_cell hB1 0 (.bool sx) rfl
 have p1 := blk_cell hB1 1 (.slice a1 (dig b64 x.num.natAbs).length c1) rfl
 have p2 := blk_cell hB1 2 (.slice a2 (dig b64 (dn x.den)).length c2) rfl
 have r0 := blk_cell hB2 0 (.bool sy) rfl
 have r1 := blk_cell hB2 1 (.slice a3 (dig b64 y.num.natAbs).length c3) rfl
 have r2 := blk_cell hB2 2 (.slice a4 (dig b64 (dn y.den)).length c4) rfl
 have HB : Hid (RB W (w.heap.size + 2)) := ⟨false, none, 0, 0, none, 0, 0, _, hB3⟩
 have hl3 := blk_lt hB3
 clear hB1 hB2 hB3
 go_region_held3 (fun w' => Below w.heap.size w w' ∧ RB w' (w.heap.size + 2) ∧ w'.cell? ⟨w.heap.size, 0, none⟩ = some (.bool sx) ∧ w'.cell? ⟨w.heap.size, 1, none⟩ = some (.slice a1 (dig b64 x.num.natAbs).length c1) ∧ w'.cell? ⟨w.heap.size, 2, none⟩ = some (.slice a2 (dig b64 (dn x.den)).length c2) ∧ w'.cell? ⟨w.heap.size + 1, 0, none⟩ = some (.bool sy) ∧ w'.cell? ⟨w.heap.size + 1, 1, none⟩ = some (.slice a3 (dig b64 y.num.natAbs).length c3) ∧ w'.cell? ⟨w.heap.size + 1, 2, none⟩ = some (.slice a4 (dig b64 (dn y.den)).length c4) ∧ w'.cell? ⟨w.heap.size + 2, 0, none⟩ = some (cellOf w' ⟨w.heap.size + 2, 0, none⟩) ∧ w'.cell? ⟨w.heap.size + 2, 1, none⟩ = some (cellOf w' ⟨w.heap.size + 2, 1, none⟩) ∧ w'.cell? ⟨w.heap.size + 2, 2, none⟩ = some (cellOf w' ⟨w.heap.size + 2, 2, none⟩) ∧ w'.frozen? ⟨w.heap.size + 2, 0, none⟩ = false ∧ w'.frozen? ⟨w.heap.size + 2, 1, none⟩ = false ∧ w'.frozen? ⟨w.heap.size + 2, 2, none⟩ = false)
  (first | exact hold6 hW p0 p1 p2 r0 r1 r2 HB.out | exact hold6_call (Nat.le_refl _) hbE (by assumption) | exact hold6_call (Nat.le_refl _) hbD (by assumption) | exact hold6_call (Nat.le_refl _) hbC (by assumption) | exact hold6_call (Nat.le_refl _) hbB (by assumption) | exact hold6_call (Nat.le_refl _) hbA (by assumption) | exact hold6_store _ _ _ _ _ _ _ (by omega) (by omega) (by omega) (by assumption) _ rfl)
  (first
   | (go_at_call_of 66 (Value.slice a1 (dig b64 x.num.natAbs).length c1); refine (times_any x.num.natAbs y.num.natAbs _ _ _ (N1.out.below (And.left (by assumption))) (N3.out.below (And.left (by assumption))) (by have := HLX.out.1; have := HLY.out.1; omega)).mono ?_; rintro e wA ⟨vA, rfl, hvA, hbA⟩)
   | (go_at_call_of 65 (Value.slice a2 (dig b64 (dn x.den)).length c2); (with_reducible refine (under_any x.den _ _ (N2.out.below (And.left (by assumption))) x.den_pos).mono ?_); rintro e wB ⟨vB, rfl, hvB, hbB⟩)
   | (go_at_call_of 65 (Value.slice a4 (dig b64 (dn y.den)).length c4); (with_reducible refine (under_any y.den _ _ (N4.out.below (And.left (by assumption))) y.den_pos).mono ?_); rintro e wC ⟨vC, rfl, hvC, hbC⟩)
   | (go_at_call 66; refine (times_any x.den y.den _ _ _ (hvB.below hbC) hvC (by have := HLX.out.2; have := HLY.out.2; omega)).mono ?_; rintro e wD ⟨vD, rfl, hvD, hbD⟩)
   | (go_at_call 67; refine (reduced_any _ (x.num.natAbs * y.num.natAbs) (x.den * y.den) _ _ _ (hvA.below (ext_trans hbB (ext_trans hbC hbD))) hvD (Nat.mul_pos x.den_pos y.den_pos) (by have := dig_length_mul b64_two x.num.natAbs y.num.natAbs; have := HLX.out.1; have := HLY.out.1; omega) (by have := dig_length_mul b64_two x.den y.den; have := HLX.out.2; have := HLY.out.2; omega)).mono ?_; rintro e wE ⟨vE, rfl, hvE, hbE⟩; obtain ⟨a5, c5, a6, c6, rfl, n5, n6⟩ := IsRat.opened hvE))
 have hE := ext_trans (ext_trans (ext_trans (ext_trans hbA hbB) hbC) hbD) hbE
 have hRB := RB.keep (a := W.drew) HB.out hE hl3
 obtain ⟨g0, g1, g2, f0', f1', f2'⟩ := hRB.cell
 have hx := hW.trans (hE.mono hW.size)
 have hBl := hRB.lt
 have He' := He.out
 generalize mkQ (!sx == sy) (x.num.natAbs * y.num.natAbs) (x.den * y.den) = q at *
 subst He'
 go_wp2_with fail
 refine bodyPost_ret (v := .agg #[.bool (decide ((x * y).num < 0)), .slice a5 (dig b64 (x * y).num.natAbs).length _, .slice a6 (dig b64 (dn (x * y).den)).length _]) (by simp [results, Tryz.results46, go_sem, g0, g1, g2]; first | done | exact ⟨rfl, rfl⟩ | rfl) rfl ⟨_, rfl, ?_, below_store3 hx (by omega)⟩
 exact IsRat.stored hRB n5 n6 rfl rfl

theorem mkQ_div (x y : Rat) (hy : y.num.natAbs ≠ 0) : mkQ (!(decide (x.num < 0) == decide (y.num < 0))) (x.num.natAbs * y.den) (x.den * y.num.natAbs) = x / y := by
 have hxd := x.den_pos
 have hyd := y.den_pos
 have h := new_plain (x.num * y.den) (x.den * y.num) (by
  refine Int.mul_ne_zero ?_ ?_ <;> omega)
 have e1 : (x.num * (y.den : Int)).natAbs = x.num.natAbs * y.den := by rw [Int.natAbs_mul]; rfl
 have e2 : ((x.den : Int) * y.num).natAbs = x.den * y.num.natAbs := by rw [Int.natAbs_mul]; rfl
 have e3 : decide (x.num * (y.den : Int) < 0) = decide (x.num < 0) := by
  rw [decide_eq_decide]
  constructor
  ·
   intro h
   rcases Int.lt_or_le x.num 0 with h1 | h1
   ·
    exact h1
   ·
    have := Int.mul_nonneg h1 (show (0:Int) ≤ y.den by omega); omega
  ·
   intro h; exact Int.mul_neg_of_neg_of_pos h (by omega)
 have e4 : decide ((x.den : Int) * y.num < 0) = decide (y.num < 0) := by
  rw [decide_eq_decide]
  constructor
  ·
   intro h
   rcases Int.lt_or_le y.num 0 with h1 | h1
   ·
    exact h1
   ·
    have := Int.mul_nonneg (show (0:Int) ≤ x.den by omega) h1; omega
  ·
   intro h; exact Int.mul_neg_of_pos_of_neg (by omega) h
 rw [e1, e2, e3, e4] at h
 rw [show (!(decide (x.num < 0) == decide (y.num < 0))) = (decide (x.num < 0) != decide (y.num < 0)) from rfl, h]
 have hx : x = Rat.divInt x.num x.den := (Rat.num_divInt_den x).symm
 have hy2 : y = Rat.divInt y.num y.den := (Rat.num_divInt_den y).symm
 conv => rhs; rw [hx, hy2]
 rw [← Rat.divInt_eq_div, Rat.div_def, Rat.inv_divInt, Rat.divInt_mul_divInt]

set_option maxRecDepth 100000 in
set_option maxHeartbeats 4000000 in
theorem byRat_any (x y : Rat) (vx vy : Value) (w : World) (hx : IsRat w vx x) (hy : IsRat w vy y) (hlx : szR x 68719476736) (hly : szR y 68719476736) (hy0 : y.num.natAbs ≠ 0) : Calls Tryz.prog 97 #[vx, vy] w (RetRat (x / y) w) := by
 obtain ⟨a1, c1, a2, c2, rfl, n1, n2⟩ := hx.opened
 obtain ⟨a3, c3, a4, c4, rfl, n3, n4⟩ := hy.opened
 have N1 := Lib.hid n1
 have N2 := Lib.hid n2
 have N3 := Lib.hid n3
 have N4 := Lib.hid n4
 have He := Lib.hid (mkQ_div x y hy0)
 have HY0 : Hid (0 < y.num.natAbs) := Nat.pos_of_ne_zero hy0
 clear hy0
 have HLX := Lib.hid hlx
 have HLY := Lib.hid hly
 clear hx hy n1 n2 n3 n4 hlx hly
 go_enter Tryz.func97, Tryz.ntmps97
 go_wp2_with fail
 generalize hsx : decide (x.num < 0) = sx at *
 generalize hsy : decide (y.num < 0) = sy at *
 clear hsx hsy
 generalize hW0 : ((w.alloc (.cells #[.bool sx, .slice a1 (dig b64 x.num.natAbs).length c1, .slice a2 (dig b64 (dn x.den)).length c2] 54)).alloc (.cells #[.bool sy, .slice a3 (dig b64 y.num.natAbs).length c3, .slice a4 (dig b64 (dn y.den)).length c4] 54)).alloc (.cells #[.bool false, .slice none 0 0, .slice none 0 0] 54) = W at *
 obtain ⟨hal, hB1, hB2, hB3⟩ := boxes3 w _ _ _ _ W hW0.symm
 clear hW0
 have hW : Below w.heap.size w W.drew := hal.drew
 have p0 := blk_cell hB1 0 (.bool sx) rfl
 have p1 := blk_cell hB1 1 (.slice a1 (dig b64 x.num.natAbs).length c1) rfl
 have p2 := blk_cell hB1 2 (.slice a2 (dig b64 (dn x.den)).length c2) rfl
 have r0 := blk_cell hB2 0 (.bool sy) rfl
 have r1 := blk_cell hB2 1 (.slice a3 (dig b64 y.num.natAbs).length c3) rfl
 have r2 := blk_cell hB2 2 (.slice a4 (dig b64 (dn y.den)).length c4) rfl
 have HB : Hid (RB W (w.heap.size + 2)) := ⟨false, none, 0, 0, none, 0, 0, _, hB3⟩
 have hl3 := blk_lt hB3
 clear hB1 hB2 hB3
 go_region_held3 (fun w' => Below w.heap.size w w' ∧ RB w' (w.heap.size + 2) ∧ w'.cell? ⟨w.heap.size, 0, none⟩ = some (.bool sx) ∧ w'.cell? ⟨w.heap.size, 1, none⟩ = some (.slice a1 (dig b64 x.num.natAbs).length c1) ∧ w'.cell? ⟨w.heap.size, 2, none⟩ = some (.slice a2 (dig b64 (dn x.den)).length c2) ∧ w'.cell? ⟨w.heap.size + 1, 0, none⟩ = some (.bool sy) ∧ w'.cell? ⟨w.heap.size + 1, 1, none⟩ = some (.slice a3 (dig b64 y.num.natAbs).length c3) ∧ w'.cell? ⟨w.heap.size + 1, 2, none⟩ = some (.slice a4 (dig b64 (dn y.den)).length c4) ∧ w'.cell? ⟨w.heap.size + 2, 0, none⟩ = some (cellOf w' ⟨w.heap.size + 2, 0, none⟩) ∧ w'.cell? ⟨w.heap.size + 2, 1, none⟩ = some (cellOf w' ⟨w.heap.size + 2, 1, none⟩) ∧ w'.cell? ⟨w.heap.size + 2, 2, none⟩ = some (cellOf w' ⟨w.heap.size + 2, 2, none⟩) ∧ w'.frozen? ⟨w.heap.size + 2, 0, none⟩ = false ∧ w'.frozen? ⟨w.heap.size + 2, 1, none⟩ = false ∧ w'.frozen? ⟨w.heap.size + 2, 2, none⟩ = false)
  (first | exact hold6 hW p0 p1 p2 r0 r1 r2 HB.out | exact hold6_call (Nat.le_refl _) hbE (by assumption) | exact hold6_call (Nat.le_refl _) hbD (by assumption) | exact hold6_call (Nat.le_refl _) hbC (by assumption) | exact hold6_call (Nat.le_refl _) hbB (by assumption) | exact hold6_call (Nat.le_refl _) hbA (by assumption) | exact hold6_store _ _ _ _ _ _ _ (by omega) (by omega) (by omega) (by assumption) _ rfl)
  (first
   | (go_at_call_of 65 (Value.slice a4 (dig b64 (dn y.den)).length c4); (with_reducible refine (under_any y.den _ _ (N4.out.below (And.left (by assumption))) y.den_pos).mono ?_); rintro e wA ⟨vA, rfl, hvA, hbA⟩)
   | (go_at_call_of 66 (Value.slice a1 (dig b64 x.num.natAbs).length c1); refine (times_any x.num.natAbs y.den _ _ _ (N1.out.below (And.left (by assumption))) hvA (by have := HLX.out.1; have := HLY.out.2; omega)).mono ?_; rintro e wB ⟨vB, rfl, hvB, hbB⟩)
   | (go_at_call_of 65 (Value.slice a2 (dig b64 (dn x.den)).length c2); (with_reducible refine (under_any x.den _ _ (N2.out.below (And.left (by assumption))) x.den_pos).mono ?_); rintro e wC ⟨vC, rfl, hvC, hbC⟩)
   | (go_at_call 66; refine (times_any x.den y.num.natAbs _ _ _ hvC (N3.out.below (And.left (by assumption))) (by have := HLX.out.2; have := HLY.out.1; omega)).mono ?_; rintro e wD ⟨vD, rfl, hvD, hbD⟩)
   | (go_at_call 67; refine (reduced_any _ (x.num.natAbs * y.den) (x.den * y.num.natAbs) _ _ _ (hvB.below (ext_trans hbC hbD)) hvD (Nat.mul_pos x.den_pos HY0.out) (by have := dig_length_mul b64_two x.num.natAbs y.den; have := HLX.out.1; have := HLY.out.2; omega) (by have := dig_length_mul b64_two x.den y.num.natAbs; have := HLX.out.2; have := HLY.out.1; omega)).mono ?_; rintro e wE ⟨vE, rfl, hvE, hbE⟩; obtain ⟨a5, c5, a6, c6, rfl, n5, n6⟩ := IsRat.opened hvE))
 have hE := ext_trans (ext_trans (ext_trans (ext_trans hbA hbB) hbC) hbD) hbE
 have hRB := RB.keep (a := W.drew) HB.out hE hl3
 obtain ⟨g0, g1, g2, f0', f1', f2'⟩ := hRB.cell
 have hx := hW.trans (hE.mono hW.size)
 have hBl := hRB.lt
 have He' := He.out
 generalize mkQ (!sx == sy) (x.num.natAbs * y.den) (x.den * y.num.natAbs) = q at *
 subst He'
 go_wp2_with fail
 refine bodyPost_ret (v := .agg #[.bool (decide ((x / y).num < 0)), .slice a5 (dig b64 (x / y).num.natAbs).length _, .slice a6 (dig b64 (dn (x / y).den)).length _]) (by simp [results, Tryz.results97, go_sem, g0, g1, g2]; first | done | exact ⟨rfl, rfl⟩ | rfl) rfl ⟨_, rfl, ?_, below_store3 hx (by omega)⟩
 exact IsRat.stored hRB n5 n6 rfl rfl


end Go.Proofs.YtofijjomfhmbjaaGreat

namespace Go.Proofs.YtofijjomfhmbjaaGreat
open Go.RowKit

theorem mkQ_szR_sz (s : Bool) (n d k : Nat) (hd : 0 < d) (h1 : (dig b64 n).length ≤ k) (h2 : (dig b64 d).length ≤ k) : szR (mkQ s n d) k := by
 unfold szR
 rw [mkQ_num s n d hd, mkQ_den s n d hd]
 exact ⟨Nat.le_trans (dig_length_mono b64_two (Nat.div_le_self _ _)) h1, Nat.le_trans (dig_length_mono b64_two (Nat.div_le_self _ _)) h2⟩
theorem szR_mul {x y : Rat} {j k : Nat} (hx : szR x j) (hy : szR y k) : szR (x * y) (j + k) := by
 rw [← mkQ_mul]
 have h1 := dig_length_mul b64_two x.num.natAbs y.num.natAbs
 have h2 := dig_length_mul b64_two x.den y.den
 have := hx.1; have := hx.2; have := hy.1; have := hy.2
 exact mkQ_szR_sz _ _ _ _ (Nat.mul_pos x.den_pos y.den_pos) (by omega) (by omega)
theorem szR_neg {x : Rat} {j : Nat} (hx : szR x j) : szR (-x) j := ⟨by rw [natAbs_neg_num]; exact hx.1, hx.2⟩
theorem szR_mono {x : Rat} {j k : Nat} (h : szR x j) (hjk : j ≤ k) : szR x k := ⟨Nat.le_trans h.1 hjk, Nat.le_trans h.2 hjk⟩
theorem szR_add {x y : Rat} {j k : Nat} (hx : szR x j) (hy : szR y k) : szR (x + y) (j + k + 1) := by
 have hz : ∃ (s : Bool) (n : Nat), sg s n = sg (decide (x.num < 0)) (x.num.natAbs * y.den) + sg (decide (y.num < 0)) (y.num.natAbs * x.den) ∧ n ≤ x.num.natAbs * y.den + y.num.natAbs * x.den := by
  generalize hz : sg (decide (x.num < 0)) (x.num.natAbs * y.den) + sg (decide (y.num < 0)) (y.num.natAbs * x.den) = z
  refine ⟨decide (z < 0), z.natAbs, ?_, ?_⟩
  ·
   unfold sg
   by_cases h : z < 0
   ·
    simp [h]; omega
   ·
    simp [h]; omega
  ·
   have e1 := sg_natAbs (decide (x.num < 0)) (x.num.natAbs * y.den)
   have e2 := sg_natAbs (decide (y.num < 0)) (y.num.natAbs * x.den)
   omega
 obtain ⟨s, n, h, hn⟩ := hz
 rw [← mkQ_add x y s n h]
 have h1 := dig_length_mul b64_two x.num.natAbs y.den
 have h2 := dig_length_mul b64_two y.num.natAbs x.den
 have h3 := dig_length_mul b64_two x.den y.den
 have := hx.1; have := hx.2; have := hy.1; have := hy.2
 have h4 := dig_length_add b64_two (x.num.natAbs * y.den) (y.num.natAbs * x.den) (j + k) (by omega) (by omega)
 exact mkQ_szR_sz _ _ _ _ (Nat.mul_pos x.den_pos y.den_pos) (Nat.le_trans (dig_length_mono b64_two hn) h4) (by omega)
theorem szR_sub {x y : Rat} {j k : Nat} (hx : szR x j) (hy : szR y k) : szR (x - y) (j + k + 1) := by
 rw [Rat.sub_eq_add_neg]
 exact szR_add hx (szR_neg hy)
theorem szR_int {n : Int} {k : Nat} (h : n.natAbs < b64 ^ k) (hk : 1 ≤ k) : szR (n : Rat) k := by
 refine ⟨dig_length_le b64_two k _ (by simpa using h), Nat.le_trans (dig_length_le b64_two 1 _ ?_) hk⟩
 simp
 unfold b64
 omega

end Go.Proofs.YtofijjomfhmbjaaGreat

namespace Go.Proofs.YtofijjomfhmbjaaGreat

abbrev Pt := Int × Int
def crossI (a b c : Pt) : Int := (b.1 - a.1) * (c.2 - a.2) - (b.2 - a.2) * (c.1 - a.1)
def turnI (d p : Pt) : Pt := (d.1 * p.1 + d.2 * p.2, d.1 * p.2 - d.2 * p.1)
def inL (n lo hi : Int) : Bool := decide (lo ≤ n) && decide (n ≤ hi)
def far : Int := 4398046511104
def ptOk (p : Pt) : Bool := inL p.1 (-far) far && inL p.2 (-far) far
def ptAt (l : List Pt) (i : Nat) : Pt := l.getD i (0, 0)
def ptsOk (l : List Pt) : Bool := l.all ptOk
theorem ptsOk_take (l : List Pt) (i : Nat) (hi : i < l.length) : ptsOk (l.take (i + 1)) = (ptsOk (l.take i) && ptOk (ptAt l i)) := by
 unfold ptsOk ptAt
 rw [List.take_add_one, List.all_append]
 simp [hi]
theorem ptsOk_get {l : List Pt} (h : ptsOk l = true) (i : Nat) (hi : i < l.length) : ptOk (ptAt l i) = true := by
 unfold ptsOk at h
 rw [List.all_eq_true] at h
 unfold ptAt
 have e : l.getD i (0, 0) = l[i] := by simp [hi]
 rw [e]
 exact h _ (List.getElem_mem hi)
theorem ptOk_range {p : Pt} (h : ptOk p = true) : (-far ≤ p.1 ∧ p.1 ≤ far) ∧ -far ≤ p.2 ∧ p.2 ≤ far := by
 simpa [ptOk, inL] using h
theorem mul_absI {a b A B : Int} (ha : -A ≤ a ∧ a ≤ A) (hb : -B ≤ b ∧ b ≤ B) : -(A * B) ≤ a * b ∧ a * b ≤ A * B := by
 have hA : 0 ≤ A := by omega
 have h1 : (a * b).natAbs ≤ (A * B).natAbs := by
  rw [Int.natAbs_mul, Int.natAbs_mul]
  exact Nat.mul_le_mul (by omega) (by omega)
 have h2 : 0 ≤ A * B := Int.mul_nonneg hA (by omega)
 omega

def Round3 (l : List Pt) : Prop := ∀ k, k < l.length → ∀ j, j < k → ∀ i, i < j → 0 < crossI (ptAt l i) (ptAt l j) (ptAt l k)
open Classical in
noncomputable def outErr (l : List Pt) : Int := if l.length < 3 ∨ 16 < l.length then 4 else if ptsOk l = false then 1 else if Round3 l then 0 else 7

def edgeI (l : List Pt) (i : Nat) : Int := (ptAt l i).1 * (ptAt l ((i + 1) % l.length)).2 - (ptAt l i).2 * (ptAt l ((i + 1) % l.length)).1
def areaTo (l : List Pt) : Nat → Int
 | 0 => 0
 | i + 1 => areaTo l i + edgeI l i
def areaI (l : List Pt) : Int := areaTo l l.length

end Go.Proofs.YtofijjomfhmbjaaGreat

namespace Go.Proofs.YtofijjomfhmbjaaGreat
open Go.RowKit

set_option maxHeartbeats 2000000 in
theorem negRat_any (x : Rat) (vx : Value) (w : World) (hx : IsRat w vx x) : Calls Tryz.prog 133 #[vx] w (RetRat (-x) w) := by
 obtain ⟨a1, c1, a2, c2, rfl, n1, n2⟩ := hx.opened
 have N1 := Lib.hid n1
 have N2 := Lib.hid n2
 have He := Lib.hid (neg_lt_num x)
 clear hx n1 n2
 go_enter Tryz.func133, Tryz.ntmps133
 go_wp2_with fail
 generalize hneg : decide (x.num < 0) = neg at *
 have hal : Below w.heap.size w ((w.alloc (.cells #[.bool neg, .slice a1 (dig b64 x.num.natAbs).length c1, .slice a2 (dig b64 (dn x.den)).length c2] 54)).alloc (.cells #[.bool false, .slice none 0 0, .slice none 0 0] 54)) :=
  ((Below.refl _ _).alloc (Nat.le_refl _) _).alloc (by simp) _
 have hB1 := (blk_keep (blk_new w #[.bool neg, .slice a1 (dig b64 x.num.natAbs).length c1, .slice a2 (dig b64 (dn x.den)).length c2] 54) ((Below.refl _ _).alloc (Nat.le_refl _) (.cells #[.bool false, .slice none 0 0, .slice none 0 0] 54)) (by simp))
 have hB2 := blk_new (w.alloc (.cells #[.bool neg, .slice a1 (dig b64 x.num.natAbs).length c1, .slice a2 (dig b64 (dn x.den)).length c2] 54)) #[.bool false, .slice none 0 0, .slice none 0 0] 54
 rw [World.size_alloc] at hB2
 generalize ((w.alloc (.cells #[.bool neg, .slice a1 (dig b64 x.num.natAbs).length c1, .slice a2 (dig b64 (dn x.den)).length c2] 54)).alloc (.cells #[.bool false, .slice none 0 0, .slice none 0 0] 54)) = W at *
 have p0 := blk_cell hB1 0 (.bool neg) rfl
 have p1 := blk_cell hB1 1 (.slice a1 (dig b64 x.num.natAbs).length c1) rfl
 have p2 := blk_cell hB1 2 (.slice a2 (dig b64 (dn x.den)).length c2) rfl
 have hl1 := blk_lt hB1
 have hl2 := blk_lt hB2
 have e0 := blk_cell hB2 0 (.bool false) rfl
 have e1 := blk_cell hB2 1 (.slice none 0 0) rfl
 have e2 := blk_cell hB2 2 (.slice none 0 0) rfl
 have f0 := blk_frozen hB2 0
 have f1 := blk_frozen hB2 1
 have f2 := blk_frozen hB2 2
 have HB : Hid (RB W (w.heap.size + 1)) := ⟨false, none, 0, 0, none, 0, 0, _, hB2⟩
 clear hB1 hB2
 have hW : Below w.heap.size w W.drew := hal.drew
 cases neg with
 | true =>
  go_region
  go_wp2_with fail
  refine bodyPost_ret (v := .agg #[.bool false, .slice a1 (dig b64 x.num.natAbs).length _, .slice a2 (dig b64 (dn x.den)).length _]) (by simp [results, Tryz.results133, go_sem, e0, e1, e2]; first | done | exact ⟨rfl, rfl⟩ | rfl) rfl ⟨_, rfl, ?_, below_store3 hW (by omega)⟩
  exact IsRat.stored (w := W.drew) HB.out (N1.out.below hW) (N2.out.below hW) He.out (natAbs_neg_num x)
 | false =>
  by_cases h0 : x.num.natAbs = 0
  ·
   have t0 : Hid (decide (x.num.natAbs = 0) = true) := decide_eq_true h0
   clear h0
   go_region_held3 (fun w' => Below w.heap.size w w' ∧ RB w' (w.heap.size + 1) ∧ w'.cell? ⟨w.heap.size, 0, none⟩ = some (.bool false) ∧ w'.cell? ⟨w.heap.size, 1, none⟩ = some (.slice a1 (dig b64 x.num.natAbs).length c1) ∧ w'.cell? ⟨w.heap.size, 2, none⟩ = some (.slice a2 (dig b64 (dn x.den)).length c2) ∧
     w'.cell? ⟨w.heap.size + 1, 0, none⟩ = some (cellOf w' ⟨w.heap.size + 1, 0, none⟩) ∧ w'.cell? ⟨w.heap.size + 1, 1, none⟩ = some (cellOf w' ⟨w.heap.size + 1, 1, none⟩) ∧ w'.cell? ⟨w.heap.size + 1, 2, none⟩ = some (cellOf w' ⟨w.heap.size + 1, 2, none⟩) ∧
     w'.frozen? ⟨w.heap.size + 1, 0, none⟩ = false ∧ w'.frozen? ⟨w.heap.size + 1, 1, none⟩ = false ∧ w'.frozen? ⟨w.heap.size + 1, 2, none⟩ = false)
    (first | exact hold3 hW p0 p1 p2 HB.out | exact hold3_call (Nat.le_refl _) hb' (by assumption) | exact hold3_store _ _ _ _ _ _ _ (Nat.le_succ _) (Nat.ne_of_lt (Nat.lt_succ_self _)) (by assumption) _ rfl)
    (first | (go_at_call 56; refine (zero_any _ _ x.num.natAbs _ _ _ _ _).mono ?_; rw [t0.out]; rintro e w' ⟨rfl, hb'⟩))
   have hRB := RB.keep (a := W.drew) HB.out hb' hl2
   obtain ⟨c0, c1, c2, f0', f1', f2'⟩ := hRB.cell
   have hx := hW.trans (hb'.mono hW.size)
   have hBl := hRB.lt
   go_wp2_with fail
   refine bodyPost_ret (v := .agg #[.bool false, .slice a1 (dig b64 x.num.natAbs).length _, .slice a2 (dig b64 (dn x.den)).length _]) (by simp [results, Tryz.results133, go_sem, c0, c1, c2]; first | done | exact ⟨rfl, rfl⟩ | rfl) rfl ⟨_, rfl, ?_, below_store3 hx (by omega)⟩
   exact IsRat.stored hRB (N1.out.below hx) (N2.out.below hx) (by rw [He.out, t0.out]; rfl) (natAbs_neg_num x)
  ·
   have t0 : Hid (decide (x.num.natAbs = 0) = false) := decide_eq_false h0
   clear h0
   go_region_held3 (fun w' => Below w.heap.size w w' ∧ RB w' (w.heap.size + 1) ∧ w'.cell? ⟨w.heap.size, 0, none⟩ = some (.bool false) ∧ w'.cell? ⟨w.heap.size, 1, none⟩ = some (.slice a1 (dig b64 x.num.natAbs).length c1) ∧ w'.cell? ⟨w.heap.size, 2, none⟩ = some (.slice a2 (dig b64 (dn x.den)).length c2) ∧
     w'.cell? ⟨w.heap.size + 1, 0, none⟩ = some (cellOf w' ⟨w.heap.size + 1, 0, none⟩) ∧ w'.cell? ⟨w.heap.size + 1, 1, none⟩ = some (cellOf w' ⟨w.heap.size + 1, 1, none⟩) ∧ w'.cell? ⟨w.heap.size + 1, 2, none⟩ = some (cellOf w' ⟨w.heap.size + 1, 2, none⟩) ∧
     w'.frozen? ⟨w.heap.size + 1, 0, none⟩ = false ∧ w'.frozen? ⟨w.heap.size + 1, 1, none⟩ = false ∧ w'.frozen? ⟨w.heap.size + 1, 2, none⟩ = false)
    (first | exact hold3 hW p0 p1 p2 HB.out | exact hold3_call (Nat.le_refl _) hb' (by assumption) | exact hold3_store _ _ _ _ _ _ _ (Nat.le_succ _) (Nat.ne_of_lt (Nat.lt_succ_self _)) (by assumption) _ rfl)
    (first | (go_at_call 56; refine (zero_any _ _ x.num.natAbs _ _ _ _ _).mono ?_; rw [t0.out]; rintro e w' ⟨rfl, hb'⟩))
   have hRB := RB.keep (a := W.drew) HB.out hb' hl2
   obtain ⟨c0, c1, c2, f0', f1', f2'⟩ := hRB.cell
   have hx := hW.trans (hb'.mono hW.size)
   have hBl := hRB.lt
   go_wp2_with fail
   refine bodyPost_ret (v := .agg #[.bool true, .slice a1 (dig b64 x.num.natAbs).length _, .slice a2 (dig b64 (dn x.den)).length _]) (by simp [results, Tryz.results133, go_sem, c0, c1, c2]; first | done | exact ⟨rfl, rfl⟩ | rfl) rfl ⟨_, rfl, ?_, below_store3 hx (by omega)⟩
   exact IsRat.stored hRB (N1.out.below hx) (N2.out.below hx) (by rw [He.out, t0.out]; rfl) (natAbs_neg_num x)

set_option maxRecDepth 100000 in
theorem method_neg (b : Bool) (x y : Option Addr) (i j k l : Nat) (w : World) : (method 283 54 (.agg #[.bool b, .slice x i j, .slice y k l]) "Neg").run Tryz.prog w = .ok (133, .agg #[.bool b, .slice x i j, .slice y k l]) w := by kernel_rfl
set_option maxRecDepth 100000 in
theorem method_add (b : Bool) (x y : Option Addr) (i j k l : Nat) (w : World) : (method 283 54 (.agg #[.bool b, .slice x i j, .slice y k l]) "Add").run Tryz.prog w = .ok (45, .agg #[.bool b, .slice x i j, .slice y k l]) w := by kernel_rfl

set_option maxRecDepth 100000 in
set_option maxHeartbeats 4000000 in
theorem lessRat_any (x y : Rat) (vx vy : Value) (w : World) (hx : IsRat w vx x) (hy : IsRat w vy y) (hlx : szR x 68719476736) (hly : szR y 68719476736) : Calls Tryz.prog 71 #[vx, vy] w (RetRat (x - y) w) := by
 have hy0 := hy
 obtain ⟨a1, c1, a2, c2, rfl, n1, n2⟩ := hx.opened
 obtain ⟨a3, c3, a4, c4, rfl, n3, n4⟩ := hy.opened
 have HX := Lib.hid hx
 have HY := Lib.hid hy
 have HLX := Lib.hid hlx
 have hln : szR (-y) 68719476736 := ⟨by rw [natAbs_neg_num]; exact hly.1, hly.2⟩
 have HLY := Lib.hid hln
 have He : Hid (x + -y = x - y) := (Rat.sub_eq_add_neg x y).symm
 clear hx hy n1 n2 n3 n4 hlx hly hln hy0
 have hmn := method_neg
 have hma := method_add
 go_enter Tryz.func71, Tryz.ntmps71
 go_wp2_with fail
 generalize hsx : decide (x.num < 0) = sx at *
 generalize hsy : decide (y.num < 0) = sy at *
 clear hsx hsy
 generalize hW0 : ((w.alloc (.cells #[.bool sx, .slice a1 (dig b64 x.num.natAbs).length c1, .slice a2 (dig b64 (dn x.den)).length c2] 54)).alloc (.cells #[.bool sy, .slice a3 (dig b64 y.num.natAbs).length c3, .slice a4 (dig b64 (dn y.den)).length c4] 54)).alloc (.cells #[.bool false, .slice none 0 0, .slice none 0 0] 54) = W at *
 obtain ⟨hal, hB1, hB2, hB3⟩ := boxes3 w _ _ _ _ W hW0.symm
 clear hW0
 have hW : Below w.heap.size w W.drew := hal.drew
 have p0 := blk_cell hB1 0 (.bool sx) rfl
 have p1 := blk_cell hB1 1 (.slice a1 (dig b64 x.num.natAbs).length c1) rfl
 have p2 := blk_cell hB1 2 (.slice a2 (dig b64 (dn x.den)).length c2) rfl
 have r0 := blk_cell hB2 0 (.bool sy) rfl
 have r1 := blk_cell hB2 1 (.slice a3 (dig b64 y.num.natAbs).length c3) rfl
 have r2 := blk_cell hB2 2 (.slice a4 (dig b64 (dn y.den)).length c4) rfl
 have HB : Hid (RB W (w.heap.size + 2)) := ⟨false, none, 0, 0, none, 0, 0, _, hB3⟩
 have hl3 := blk_lt hB3
 clear hB1 hB2 hB3
 go_region_held3 (fun w' => Below w.heap.size w w' ∧ RB w' (w.heap.size + 2) ∧ w'.cell? ⟨w.heap.size, 0, none⟩ = some (.bool sx) ∧ w'.cell? ⟨w.heap.size, 1, none⟩ = some (.slice a1 (dig b64 x.num.natAbs).length c1) ∧ w'.cell? ⟨w.heap.size, 2, none⟩ = some (.slice a2 (dig b64 (dn x.den)).length c2) ∧ w'.cell? ⟨w.heap.size + 1, 0, none⟩ = some (.bool sy) ∧ w'.cell? ⟨w.heap.size + 1, 1, none⟩ = some (.slice a3 (dig b64 y.num.natAbs).length c3) ∧ w'.cell? ⟨w.heap.size + 1, 2, none⟩ = some (.slice a4 (dig b64 (dn y.den)).length c4) ∧ w'.cell? ⟨w.heap.size + 2, 0, none⟩ = some (cellOf w' ⟨w.heap.size + 2, 0, none⟩) ∧ w'.cell? ⟨w.heap.size + 2, 1, none⟩ = some (cellOf w' ⟨w.heap.size + 2, 1, none⟩) ∧ w'.cell? ⟨w.heap.size + 2, 2, none⟩ = some (cellOf w' ⟨w.heap.size + 2, 2, none⟩) ∧ w'.frozen? ⟨w.heap.size + 2, 0, none⟩ = false ∧ w'.frozen? ⟨w.heap.size + 2, 1, none⟩ = false ∧ w'.frozen? ⟨w.heap.size + 2, 2, none⟩ = false)
  (first | exact hold6 hW p0 p1 p2 r0 r1 r2 HB.out | exact hold6_call (Nat.le_refl _) hbE (by assumption) | exact hold6_call (Nat.le_refl _) hbD (by assumption) | exact hold6_store _ _ _ _ _ _ _ (by omega) (by omega) (by omega) (by assumption) _ rfl)
  (first
   | (go_at_call 133; refine (negRat_any y _ _ (HY.out.below (And.left (by assumption)))).mono ?_; rintro e wD ⟨vD, rfl, hvD, hbD⟩)
   | (go_at_call 45; refine (addRat_any x (-y) _ _ _ (HX.out.below (And.left (by assumption))) hvD HLX.out HLY.out).mono ?_; rw [He.out]; rintro e wE ⟨vE, rfl, hvE, hbE⟩; obtain ⟨a5, c5, a6, c6, rfl, n5, n6⟩ := IsRat.opened hvE))
 have hE := ext_trans hbD hbE
 have hRB := RB.keep (a := W.drew) HB.out hE hl3
 obtain ⟨g0, g1, g2, f0', f1', f2'⟩ := hRB.cell
 have hx := hW.trans (hE.mono hW.size)
 have hBl := hRB.lt
 go_wp2_with fail
 refine bodyPost_ret (v := .agg #[.bool (decide ((x - y).num < 0)), .slice a5 (dig b64 (x - y).num.natAbs).length _, .slice a6 (dig b64 (dn (x - y).den)).length _]) (by simp [results, Tryz.results71, go_sem, g0, g1, g2]; first | done | exact ⟨rfl, rfl⟩ | rfl) rfl ⟨_, rfl, ?_, below_store3 hx (by omega)⟩
 exact IsRat.stored hRB n5 n6 rfl rfl

set_option maxRecDepth 100000 in
set_option maxHeartbeats 2000000 in
theorem subRat_any (x y : Rat) (vx vy : Value) (w : World) (hx : IsRat w vx x) (hy : IsRat w vy y) (hlx : szR x 68719476736) (hly : szR y 68719476736) : Calls Tryz.prog 47 #[vx, vy] w (RetRat (x - y) w) := by
 obtain ⟨a1, c1, a2, c2, rfl, n1, n2⟩ := hx.opened
 obtain ⟨a3, c3, a4, c4, rfl, n3, n4⟩ := hy.opened
 have HX := Lib.hid hx
 have HY := Lib.hid hy
 have HLX := Lib.hid hlx
 have HLY := Lib.hid hly
 clear hx hy n1 n2 n3 n4 hlx hly
 go_enter Tryz.func47, Tryz.ntmps47
 go_wp2_with fail
 generalize hW0 : ((w.alloc (.cells #[.bool (decide (x.num < 0)), .slice a1 (dig b64 x.num.natAbs).length c1, .slice a2 (dig b64 (dn x.den)).length c2] 54)).alloc (.cells #[.bool (decide (y.num < 0)), .slice a3 (dig b64 y.num.natAbs).length c3, .slice a4 (dig b64 (dn y.den)).length c4] 54)).alloc (.cells #[.bool false, .slice none 0 0, .slice none 0 0] 54) = W at *
 obtain ⟨hal, hB1, hB2, hB3⟩ := boxes3 w _ _ _ _ W hW0.symm
 clear hW0
 have HB : Hid (RB W (w.heap.size + 2)) := ⟨false, none, 0, 0, none, 0, 0, _, hB3⟩
 have hl3 := blk_lt hB3
 clear hB1 hB2 hB3
 refine (lessRat_any x y _ _ _ (HX.out.below hal) (HY.out.below hal) HLX.out HLY.out).mono ?_
 rintro e w3 ⟨v, rfl, hv, hb⟩
 have hRB := HB.out.keep hb hl3
 obtain ⟨a5, c5, a6, c6, rfl, n5, n6⟩ := IsRat.opened hv
 have hx := ext_trans hal hb
 obtain ⟨g0, g1, g2, f0', f1', f2'⟩ := hRB.cell
 have hBl := hRB.lt
 generalize x - y = q at *
 clear hv hb hal
 go_wp2_with fail
 refine bodyPost_ret (v := .agg #[.bool (decide (q.num < 0)), .slice a5 (dig b64 q.num.natAbs).length _, .slice a6 (dig b64 (dn q.den)).length _]) (by simp [results, Tryz.results47, go_sem, g0, g1, g2]; first | done | exact ⟨rfl, rfl⟩ | rfl) rfl ⟨_, rfl, ?_, below_store3 hx (by omega)⟩
 exact IsRat.stored hRB n5 n6 rfl rfl

end Go.Proofs.YtofijjomfhmbjaaGreat

namespace Go.Proofs.YtofijjomfhmbjaaGreat
open Go.RowKit

set_option maxHeartbeats 2000000 in
theorem lwhole_any (n : Int) (w : World) (h1 : -9223372036854775808 ≤ n) (h2 : n ≤ 9223372036854775807) : Calls Tryz.prog 49 #[.int .i64 n] w (RetRat (n : Rat) w) := by
 go_enter Tryz.func49, Tryz.ntmps49
 go_wp2_with fail
 refine (int_any n _ h1 h2).mono ?_
 rintro e w1 ⟨v, rfl, hv, hb⟩
 have hB1 := blk_keep (blk_new w #[.bool false, .slice none 0 0, .slice none 0 0] 54) hb (by simp)
 have hRB : RB w1 w.heap.size := ⟨false, none, 0, 0, none, 0, 0, _, hB1⟩
 obtain ⟨a5, c5, a6, c6, rfl, n5, n6⟩ := IsRat.opened hv
 have hx : Below w.heap.size w w1 := ((Below.refl _ _).alloc (Nat.le_refl _) _).trans (hb.mono (by simp))
 obtain ⟨g0, g1, g2, f0', f1', f2'⟩ := hRB.cell
 have hBl := hRB.lt
 generalize (n : Rat) = q at *
 go_wp2_with fail
 refine bodyPost_ret (v := .agg #[.bool (decide (q.num < 0)), .slice a5 (dig b64 q.num.natAbs).length _, .slice a6 (dig b64 (dn q.den)).length _]) (by simp [results, Tryz.results49, go_sem, g0, g1, g2]; first | done | exact ⟨rfl, rfl⟩ | rfl) rfl ⟨_, rfl, ?_, below_store3 hx (by omega)⟩
 exact IsRat.stored hRB n5 n6 rfl rfl

theorem i64_szR (n : Int) (h1 : -9223372036854775808 ≤ n) (h2 : n ≤ 9223372036854775807) (k : Nat) (hk : 1 ≤ k) : szR (n : Rat) k := szR_mono (szR_int (k := 1) (by rw [Nat.pow_one]; unfold b64; omega) (Nat.le_refl _)) hk
set_option maxHeartbeats 2000000 in
theorem lproduct_any (a b : Int) (w : World) (ha : -9223372036854775808 ≤ a ∧ a ≤ 9223372036854775807) (hb : -9223372036854775808 ≤ b ∧ b ≤ 9223372036854775807) : Calls Tryz.prog 55 #[.int .i64 a, .int .i64 b] w (RetRat ((a * b : Int) : Rat) w) := by
 have Hsa := Lib.hid (i64_szR a ha.1 ha.2 68719476736 (by omega))
 have Hsb := Lib.hid (i64_szR b hb.1 hb.2 68719476736 (by omega))
 go_enter Tryz.func55, Tryz.ntmps55
 go_wp2_with fail
 refine (lwhole_any a _ ha.1 ha.2).mono ?_
 rintro e w1 ⟨va, rfl, hva, hb1⟩
 go_wp2_with fail
 refine (lwhole_any b _ hb.1 hb.2).mono ?_
 rintro e w2 ⟨vb, rfl, hvb, hb2⟩
 go_wp2_with fail
 refine (mulRat_any (a : Rat) (b : Rat) _ _ _ (hva.below hb2) hvb Hsa.out Hsb.out).mono ?_
 rw [← Rat.intCast_mul]
 rintro e w3 ⟨v, rfl, hv, hb3⟩
 have hB1 := blk_keep (blk_keep (blk_keep (blk_new w #[.bool false, .slice none 0 0, .slice none 0 0] 54) hb1 (by simp)) hb2 (Nat.lt_of_lt_of_le (by simp) hb1.size)) hb3 (Nat.lt_of_lt_of_le (by simp) (Nat.le_trans hb1.size hb2.size))
 have hRB : RB w3 w.heap.size := ⟨false, none, 0, 0, none, 0, 0, _, hB1⟩
 obtain ⟨a5, c5, a6, c6, rfl, n5, n6⟩ := IsRat.opened hv
 have hx : Below w.heap.size w w3 := ((Below.refl _ _).alloc (Nat.le_refl _) _).trans ((ext_trans hb1 (ext_trans hb2 hb3)).mono (by simp))
 clear hva hvb hv hb1 hb2 hb3 hB1
 obtain ⟨g0, g1, g2, f0', f1', f2'⟩ := hRB.cell
 have hBl := hRB.lt
 generalize ((a * b : Int) : Rat) = q at *
 go_wp2_with fail
 refine bodyPost_ret (v := .agg #[.bool (decide (q.num < 0)), .slice a5 (dig b64 q.num.natAbs).length _, .slice a6 (dig b64 (dn q.den)).length _]) (by simp [results, Tryz.results55, go_sem, g0, g1, g2]; first | done | exact ⟨rfl, rfl⟩ | rfl) rfl ⟨_, rfl, ?_, below_store3 hx (by omega)⟩
 exact IsRat.stored hRB n5 n6 rfl rfl

set_option maxHeartbeats 1000000 in
theorem within_any (n lo hi : Int) (w : World) : Calls Tryz.prog 30 #[.int .i64 n, .int .i64 lo, .int .i64 hi] w (RetBool (inL n lo hi) w) := by
 by_cases h1 : lo ≤ n
 ·
  by_cases h2 : n ≤ hi
  ·
   have Hr : Hid (inL n lo hi = true) := by show _ = _; simp [inL, h1, h2]
   have t1 : decide (n ≥ lo) = true := decide_eq_true h1
   have t2 : decide (n ≤ hi) = true := decide_eq_true h2
   clear h1 h2
   go_enter Tryz.func30, Tryz.ntmps30
   go_wp2_with fail
   go_ret
   exact ⟨by rw [Hr.out]; rfl, Below.refl _ _⟩
  ·
   have Hr : Hid (inL n lo hi = false) := by show _ = _; simp [inL, h1, h2]
   have t1 : decide (n ≥ lo) = true := decide_eq_true h1
   have t2 : decide (n ≤ hi) = false := decide_eq_false h2
   clear h1 h2
   go_enter Tryz.func30, Tryz.ntmps30
   go_wp2_with fail
   go_ret
   exact ⟨by rw [Hr.out]; rfl, Below.refl _ _⟩
 ·
  have Hr : Hid (inL n lo hi = false) := by show _ = _; simp [inL, h1]
  have t1 : decide (n ≥ lo) = false := decide_eq_false h1
  clear h1
  go_enter Tryz.func30, Tryz.ntmps30
  go_wp2_with fail
  go_ret
  exact ⟨by rw [Hr.out]; rfl, Below.refl _ _⟩

set_option maxRecDepth 100000 in
set_option maxHeartbeats 2000000 in
theorem isRight_any (l : List Pt) (v : Value) (w : World) (h : PairsOf w v l) (hl : l.length ≤ 4611686018427387904) : Calls Tryz.prog 36 #[v] w (RetBool (ptsOk l) w) := by
 obtain ⟨ao, cap, rfl, hE⟩ := h
 have HE := Lib.hid hE
 clear hE
 go_enter Tryz.func36, Tryz.ntmps36
 go_wp2_with fail
 go_loopw [7] (fun iv wr => ∃ (i : Nat), i ≤ l.length ∧ iv = .int .i64 i ∧ ptsOk (l.take i) = true ∧ Below w.heap.size w wr) (fun iv _ => l.length - (intOf iv).toNat)
 case atStart => exact ⟨0, Nat.zero_le _, rfl, rfl, Below.refl _ _⟩
 case round =>
  obtain ⟨i, hi, rfl, hok, hbel⟩ := hrel
  have HOK := Lib.hid hok
  clear hok
  by_cases hlt : i < l.length
  ·
   obtain ⟨b, off, rfl, hbl, hLL⟩ := HE.out (by omega)
   obtain ⟨g0, g1⟩ := (hLL i hlt).below hbel hbl
   have hlt' : (i : Int) < l.length := by omega
   have hge' : (0 : Int) ≤ i := by omega
   have hbl2 : b < wr.heap.size := Nat.lt_of_lt_of_le hbl hbel.size
   have Htk := Lib.hid (ptsOk_take l i hlt)
   have Hnot : Hid (ptOk (ptAt l i) = false → ptsOk l = false) := fun h => by
    cases h2 : ptsOk l with
    | false => rfl
    | true => rw [ptsOk_get h2 i hlt] at h; cases h
   have hpo : ptOk (ptAt l i) = (inL (l.getD i (0, 0)).1 (-4398046511104) 4398046511104 && inL (l.getD i (0, 0)).2 (-4398046511104) 4398046511104) := rfl
   generalize ptOk (ptAt l i) = pk at *
   have Hpo := Lib.hid hpo
   clear hpo hLL
   have hN := blk_new wr #[.int .i64 (l.getD i (0, 0)).1, .int .i64 (l.getD i (0, 0)).2] 45
   have hx := (Below.refl wr.heap.size wr).alloc (Nat.le_refl _) (.cells #[.int .i64 (l.getD i (0, 0)).1, .int .i64 (l.getD i (0, 0)).2] 45)
   generalize (l.getD i (0, 0)).1 = x at *
   generalize (l.getD i (0, 0)).2 = y at *
   go_wp2_with fail
   refine (within_any x _ _ _).mono ?_
   rintro e w2 ⟨rfl, hb2⟩
   have hN2 := blk_keep hN hb2 (blk_lt hN)
   have c1 := blk_cell hN2 1 (.int .i64 y) rfl
   have hx2 := ext_trans (ext_trans hbel hx) hb2
   generalize inL x (-4398046511104) 4398046511104 = p at *
   clear g0 g1 hN hN2 hb2 hx
   cases p with
   | false =>
    have Hf := Lib.hid (Hnot.out (by rw [Hpo.out]; rfl))
    go_wp2_with fail
    go_ret
    exact ⟨by rw [Hf.out]; rfl, hx2⟩
   | true =>
    go_wp2_with fail
    refine (within_any y _ _ _).mono ?_
    rintro e w3 ⟨rfl, hb3⟩
    generalize inL y (-4398046511104) 4398046511104 = q at *
    have hx3 := ext_trans hx2 hb3
    cases q with
    | false =>
     have Hf := Lib.hid (Hnot.out (by rw [Hpo.out]; rfl))
     go_wp2_with fail
     go_ret
     exact ⟨by rw [Hf.out]; rfl, hx3⟩
    | true =>
     have Ht : Hid (ptsOk (l.take (i + 1)) = true) := by show _ = _; rw [Htk.out, HOK.out, Hpo.out]; rfl
     go_wp2_with fail
     exact ⟨⟨i + 1, by omega, by go_num, Ht.out, hx3⟩, meas_up hlt⟩
  ·
   obtain rfl : i = l.length := by omega
   rw [List.take_length] at HOK
   go_wp2_with fail
   go_ret
   exact ⟨by rw [HOK.out]; rfl, hbel⟩

theorem boxesP (w : World) (A1 A2 A3 A4 : Array Value) (T T4 : Nat) (W : World) (hW : W = (((w.alloc (.cells A1 T)).alloc (.cells A2 T)).alloc (.cells A3 T)).alloc (.cells A4 T4)) :
  Below w.heap.size w W ∧ W.heap[w.heap.size]? = some (.cells A1 T (0, 0)) ∧ W.heap[w.heap.size + 1]? = some (.cells A2 T (0, 0)) ∧ W.heap[w.heap.size + 2]? = some (.cells A3 T (0, 0)) ∧ W.heap[w.heap.size + 3]? = some (.cells A4 T4 (0, 0)) := by
 obtain ⟨h0, h1, h2, h3⟩ := boxes3 w A1 A2 A3 T _ rfl
 subst hW
 have hs : (((w.alloc (.cells A1 T)).alloc (.cells A2 T)).alloc (.cells A3 T)).heap.size = w.heap.size + 3 := by simp
 generalize ((w.alloc (.cells A1 T)).alloc (.cells A2 T)).alloc (.cells A3 T) = W3 at *
 refine ⟨h0.alloc h0.size _, ?_, ?_, ?_, ?_⟩
 ·
  rw [heap_alloc_old _ _ (by omega)]; exact h1
 ·
  rw [heap_alloc_old _ _ (by omega)]; exact h2
 ·
  rw [heap_alloc_old _ _ (by omega)]; exact h3
 ·
  rw [← hs]; exact blk_new W3 A4 T4
def HP (n : Nat) (w0 : World) (B1 B2 B3 B : Nat) (v0 v1 v2 v3 v4 v5 : Value) (a : World) : Prop :=
 Below n w0 a ∧ RB a B ∧ a.cell? ⟨B1, 0, none⟩ = some v0 ∧ a.cell? ⟨B1, 1, none⟩ = some v1 ∧ a.cell? ⟨B2, 0, none⟩ = some v2 ∧ a.cell? ⟨B2, 1, none⟩ = some v3 ∧ a.cell? ⟨B3, 0, none⟩ = some v4 ∧ a.cell? ⟨B3, 1, none⟩ = some v5 ∧
  a.cell? ⟨B, 0, none⟩ = some (cellOf a ⟨B, 0, none⟩) ∧ a.cell? ⟨B, 1, none⟩ = some (cellOf a ⟨B, 1, none⟩) ∧ a.cell? ⟨B, 2, none⟩ = some (cellOf a ⟨B, 2, none⟩) ∧ a.frozen? ⟨B, 0, none⟩ = false ∧ a.frozen? ⟨B, 1, none⟩ = false ∧ a.frozen? ⟨B, 2, none⟩ = false
theorem holdP {n : Nat} {w0 a : World} {B1 B2 B3 B : Nat} {v0 v1 v2 v3 v4 v5 : Value} (h0 : Below n w0 a) (h1 : a.cell? ⟨B1, 0, none⟩ = some v0) (h2 : a.cell? ⟨B1, 1, none⟩ = some v1) (h3 : a.cell? ⟨B2, 0, none⟩ = some v2)
  (h4 : a.cell? ⟨B2, 1, none⟩ = some v3) (h5 : a.cell? ⟨B3, 0, none⟩ = some v4) (h6 : a.cell? ⟨B3, 1, none⟩ = some v5) (hB : RB a B) : HP n w0 B1 B2 B3 B v0 v1 v2 v3 v4 v5 a := ⟨h0, hB, h1, h2, h3, h4, h5, h6, hB.cell⟩
theorem holdP_call {n : Nat} {w0 a b : World} {B1 B2 B3 B : Nat} {v0 v1 v2 v3 v4 v5 : Value} (hn : n ≤ w0.heap.size) (hb : Below a.heap.size a b) (h : HP n w0 B1 B2 B3 B v0 v1 v2 v3 v4 v5 a) : HP n w0 B1 B2 B3 B v0 v1 v2 v3 v4 v5 b := by
 obtain ⟨h0, hB, h1, h2, h3, h4, h5, h6, _⟩ := h
 have e : ∀ B1 j v, a.cell? ⟨B1, j, none⟩ = some v → b.cell? ⟨B1, j, none⟩ = some v := fun B1 j v h => (hb.cell (p := ⟨B1, j, none⟩) (World.block_lt_of_cell? (h := h))).trans h
 have hs := h0.size
 exact holdP (h0.trans (hb.mono (by omega))) (e _ _ _ h1) (e _ _ _ h2) (e _ _ _ h3) (e _ _ _ h4) (e _ _ _ h5) (e _ _ _ h6) (hB.keep hb hB.lt)
theorem holdP_store {n : Nat} {w0 a : World} {B1 B2 B3 B : Nat} {v0 v1 v2 v3 v4 v5 : Value} (neg : Bool) (x1 y1 : Option Addr) (i1 j1 k1 l1 : Nat) (hn : n ≤ B) (hne : B1 ≠ B) (hne2 : B2 ≠ B) (hne3 : B3 ≠ B)
  (h : HP n w0 B1 B2 B3 B v0 v1 v2 v3 v4 v5 a) (b : World) (hb : b = ((a.setCell ⟨B, 0, none⟩ (.bool neg)).setCell ⟨B, 1, none⟩ (.slice x1 i1 j1)).setCell ⟨B, 2, none⟩ (.slice y1 k1 l1)) : HP n w0 B1 B2 B3 B v0 v1 v2 v3 v4 v5 b := by
 obtain ⟨h0, hB, h1, h2, h3, h4, h5, h6, _⟩ := h
 subst hb
 have e : ∀ B1 j v, B1 ≠ B → a.cell? ⟨B1, j, none⟩ = some v → (((a.setCell ⟨B, 0, none⟩ (.bool neg)).setCell ⟨B, 1, none⟩ (.slice x1 i1 j1)).setCell ⟨B, 2, none⟩ (.slice y1 k1 l1)).cell? ⟨B1, j, none⟩ = some v := fun B1 j v hne h => by
  rw [World.cell?_setCell_other, World.cell?_setCell_other, World.cell?_setCell_other, h]
  all_goals intro e; cases e; exact hne rfl
 exact holdP (below_store3 h0 hn) (e _ _ _ hne h1) (e _ _ _ hne h2) (e _ _ _ hne2 h3) (e _ _ _ hne2 h4) (e _ _ _ hne3 h5) (e _ _ _ hne3 h6) (hB.store ..)
theorem sub_far {a b : Int} (ha : -far ≤ a ∧ a ≤ far) (hb : -far ≤ b ∧ b ≤ far) : IntKind.i64.wrap (a - b) = a - b ∧ (-9223372036854775808 ≤ a - b ∧ a - b ≤ 9223372036854775807) ∧ (-8796093022208 ≤ a - b ∧ a - b ≤ 8796093022208) := by
 unfold far at *
 exact ⟨IntWalk.i64_in _ (by omega), by omega, by omega⟩
theorem prod_szR {a b : Int} (ha : -8796093022208 ≤ a ∧ a ≤ 8796093022208) (hb : -8796093022208 ≤ b ∧ b ≤ 8796093022208) : szR ((a * b : Int) : Rat) 68719476736 := by
 have := mul_absI ha hb
 refine szR_mono (szR_int (k := 2) ?_ (by omega)) (by omega)
 have e : b64 ^ 2 = 340282366920938463463374607431768211456 := by unfold b64; omega
 rw [e]
 omega

set_option maxRecDepth 100000 in
set_option maxHeartbeats 4000000 in
theorem cross_any (a b c : Pt) (w : World) (ha : ptOk a = true) (hb : ptOk b = true) (hc : ptOk c = true) : Calls Tryz.prog 37 #[.agg #[.int .i64 a.1, .int .i64 a.2], .agg #[.int .i64 b.1, .int .i64 b.2], .agg #[.int .i64 c.1, .int .i64 c.2]] w (RetRat ((crossI a b c : Int) : Rat) w) := by
 have ra := ptOk_range ha
 have rb := ptOk_range hb
 have rc := ptOk_range hc
 obtain ⟨e1, r1, s1⟩ := sub_far rb.1 ra.1
 obtain ⟨d1, hd1⟩ : ∃ d, d = b.1 - a.1 := ⟨_, rfl⟩
 rw [← hd1] at r1 s1
 replace e1 : IntKind.i64.wrap (b.1 - a.1) = d1 := by rw [hd1]; exact e1
 obtain ⟨e2, r2, s2⟩ := sub_far rc.2 ra.2
 obtain ⟨d2, hd2⟩ : ∃ d, d = c.2 - a.2 := ⟨_, rfl⟩
 rw [← hd2] at r2 s2
 replace e2 : IntKind.i64.wrap (c.2 - a.2) = d2 := by rw [hd2]; exact e2
 obtain ⟨e3, r3, s3⟩ := sub_far rb.2 ra.2
 obtain ⟨d3, hd3⟩ : ∃ d, d = b.2 - a.2 := ⟨_, rfl⟩
 rw [← hd3] at r3 s3
 replace e3 : IntKind.i64.wrap (b.2 - a.2) = d3 := by rw [hd3]; exact e3
 obtain ⟨e4, r4, s4⟩ := sub_far rc.1 ra.1
 obtain ⟨d4, hd4⟩ : ∃ d, d = c.1 - a.1 := ⟨_, rfl⟩
 rw [← hd4] at r4 s4
 replace e4 : IntKind.i64.wrap (c.1 - a.1) = d4 := by rw [hd4]; exact e4
 have Hs1 := Lib.hid (prod_szR s1 s2)
 have Hs2 := Lib.hid (prod_szR s3 s4)
 have He : Hid ((((d1 * d2 : Int) : Rat)) - (((d3 * d4 : Int) : Rat)) = ((crossI a b c : Int) : Rat)) := by
  show _ = _
  rw [← Rat.intCast_sub, hd1, hd2, hd3, hd4]
  rfl
 have R1 := Lib.hid r1
 have R2 := Lib.hid r2
 have R3 := Lib.hid r3
 have R4 := Lib.hid r4
 generalize hI : ((crossI a b c : Int) : Rat) = Q at *
 clear ha hb hc ra rb rc r1 s1 hd1 r2 s2 hd2 r3 s3 hd3 r4 s4 hd4 hI
 generalize a.1 = ax at *
 generalize a.2 = ay at *
 generalize b.1 = bx at *
 generalize b.2 = by' at *
 generalize c.1 = cx at *
 generalize c.2 = cy at *
 go_enter Tryz.func37, Tryz.ntmps37
 go_wp2_with fail
 generalize hW0 : (((w.alloc (.cells #[.int .i64 ax, .int .i64 ay] 45)).alloc (.cells #[.int .i64 bx, .int .i64 by'] 45)).alloc (.cells #[.int .i64 cx, .int .i64 cy] 45)).alloc (.cells #[.bool false, .slice none 0 0, .slice none 0 0] 54) = W at *
 obtain ⟨hal, hB1, hB2, hB3, hB4⟩ := boxesP w _ _ _ _ _ _ W hW0.symm
 clear hW0
 have hW : Below w.heap.size w W.drew := hal.drew
 have p0 := blk_cell hB1 0 (.int .i64 ax) rfl
 have p1 := blk_cell hB1 1 (.int .i64 ay) rfl
 have p2 := blk_cell hB2 0 (.int .i64 bx) rfl
 have p3 := blk_cell hB2 1 (.int .i64 by') rfl
 have p4 := blk_cell hB3 0 (.int .i64 cx) rfl
 have p5 := blk_cell hB3 1 (.int .i64 cy) rfl
 have HB : Hid (RB W (w.heap.size + 3)) := ⟨false, none, 0, 0, none, 0, 0, _, hB4⟩
 have hl3 := blk_lt hB4
 clear hB1 hB2 hB3 hB4
 go_region_held3 (fun w' => Below w.heap.size w w' ∧ RB w' (w.heap.size + 3) ∧ w'.cell? ⟨w.heap.size, 0, none⟩ = some (.int .i64 ax) ∧ w'.cell? ⟨w.heap.size, 1, none⟩ = some (.int .i64 ay) ∧ w'.cell? ⟨w.heap.size + 1, 0, none⟩ = some (.int .i64 bx) ∧ w'.cell? ⟨w.heap.size + 1, 1, none⟩ = some (.int .i64 by') ∧ w'.cell? ⟨w.heap.size + 2, 0, none⟩ = some (.int .i64 cx) ∧ w'.cell? ⟨w.heap.size + 2, 1, none⟩ = some (.int .i64 cy) ∧ w'.cell? ⟨w.heap.size + 3, 0, none⟩ = some (cellOf w' ⟨w.heap.size + 3, 0, none⟩) ∧ w'.cell? ⟨w.heap.size + 3, 1, none⟩ = some (cellOf w' ⟨w.heap.size + 3, 1, none⟩) ∧ w'.cell? ⟨w.heap.size + 3, 2, none⟩ = some (cellOf w' ⟨w.heap.size + 3, 2, none⟩) ∧ w'.frozen? ⟨w.heap.size + 3, 0, none⟩ = false ∧ w'.frozen? ⟨w.heap.size + 3, 1, none⟩ = false ∧ w'.frozen? ⟨w.heap.size + 3, 2, none⟩ = false)
  (first | exact holdP hW p0 p1 p2 p3 p4 p5 HB.out | exact holdP_call (Nat.le_refl _) hbC (by assumption) | exact holdP_call (Nat.le_refl _) hbB (by assumption) | exact holdP_call (Nat.le_refl _) hbA (by assumption) | exact holdP_store _ _ _ _ _ _ _ (by omega) (by omega) (by omega) (by omega) (by assumption) _ rfl)
  (first
   | (go_at_call_of 55 (Value.int .i64 d1); refine (lproduct_any d1 d2 _ R1.out R2.out).mono ?_; rintro e wA ⟨vA, rfl, hvA, hbA⟩)
   | (go_at_call_of 55 (Value.int .i64 d3); refine (lproduct_any d3 d4 _ R3.out R4.out).mono ?_; rintro e wB ⟨vB, rfl, hvB, hbB⟩)
   | (go_at_call 47; refine (subRat_any _ _ _ _ _ (hvA.below hbB) hvB Hs1.out Hs2.out).mono ?_; rw [He.out]; rintro e wC ⟨vC, rfl, hvC, hbC⟩; obtain ⟨a5, c5, a6, c6, rfl, n5, n6⟩ := IsRat.opened hvC))
 have hE := ext_trans (ext_trans hbA hbB) hbC
 have hRB := RB.keep (a := W.drew) HB.out hE hl3
 have hx := hW.trans (hE.mono hW.size)
 obtain ⟨g0, g1, g2, f0', f1', f2'⟩ := hRB.cell
 have hBl := hRB.lt
 go_wp2_with fail
 refine bodyPost_ret (v := .agg #[.bool (decide (Q.num < 0)), .slice a5 (dig b64 Q.num.natAbs).length _, .slice a6 (dig b64 (dn Q.den)).length _]) (by simp [results, Tryz.results37, go_sem, g0, g1, g2]; first | done | exact ⟨rfl, rfl⟩ | rfl) rfl ⟨_, rfl, ?_, below_store3 hx (by omega)⟩
 exact IsRat.stored hRB n5 n6 rfl rfl

end Go.Proofs.YtofijjomfhmbjaaGreat

namespace Go.Proofs.YtofijjomfhmbjaaGreat
open Go.RowKit

structure KeepCells (B : Nat) (W W' : World) : Prop where
 size : W.heap.size ≤ W'.heap.size
 same : ∀ (k : Nat) (o : Obj), k ≠ B → W.heap[k]? = some o → o.isCells = true → W'.heap[k]? = some o
def KpU (n B : Nat) (W W' : World) : Prop := Below n W W' ∧ KeepCells B W W'
theorem KpU.trans {n B : Nat} {X Y Z : World} (h : KpU n B X Y) (k : KpU n B Y Z) : KpU n B X Z :=
 ⟨h.1.trans k.1, Nat.le_trans h.2.size k.2.size, fun i o hB hi ho => k.2.same i o hB (h.2.same i o hB hi ho) ho⟩
theorem KpU.boxed {n B : Nat} {X Y : World} (h : KpU n B X Y) {b : Nat} {t : TypeId} {v : Value} (hb : Boxed X b t v) (hne : b ≠ B) : Boxed Y b t v := h.2.same b _ hne hb rfl
end Go.Proofs.YtofijjomfhmbjaaGreat

namespace Go.Proofs.YtofijjomfhmbjaaGreat
open Go.RowKit Go.Shelf

attribute [local go_sem] Oper.semAt_some

theorem below_join {w a b : World} (h : Below w.heap.size w a) (k : Below a.heap.size a b) : Below w.heap.size w b := ext_trans h k
end Go.Proofs.YtofijjomfhmbjaaGreat

namespace Go.Proofs.YtofijjomfhmbjaaGreat
open Go.RowKit Go.Shelf

attribute [local go_sem] Oper.semAt_some

theorem KeepCells.alloc (B : Nat) (W : World) (o : Obj) : KeepCells B W (W.alloc o) :=
 ⟨by simp, fun k o2 _ hk _ => (Below.heap_alloc W o k (Array.getElem?_eq_some_iff.1 hk).1).trans hk⟩
theorem KeepCells.set (B : Nat) (W : World) (v : Value) : KeepCells B W (W.setCell ⟨B, 0, none⟩ v) :=
 ⟨by simp, fun k o2 hB hk _ => (Below.heap_setCell W _ v k hB).trans hk⟩
theorem KeepCells.drewN (B : Nat) (W : World) (n : Nat) : KeepCells B W (W.drewN n) := ⟨Nat.le_refl _, fun k o2 _ hk _ => hk⟩
theorem KeepCells.setN (B : Nat) (W : World) (n : Nat) (v : Value) : KeepCells B W ((W.drewN n).setCell ⟨B, 0, none⟩ v) := ⟨(KeepCells.set B (W.drewN n) v).size, fun k o2 hB hk ho => (KeepCells.set B (W.drewN n) v).same k o2 hB hk ho⟩

end Go.Proofs.YtofijjomfhmbjaaGreat

namespace Go.Proofs.YtofijjomfhmbjaaGreat
open Go.RowKit

def esA : List (Rat × Int) := [(((250 : Int) : Rat), 1), (((290 : Int) : Rat), 10)]
end Go.Proofs.YtofijjomfhmbjaaGreat

namespace Go.Proofs.YtofijjomfhmbjaaGreat
open Go.RowKit

def rdCells : List (Int × Nat) → List Value
 | [] => []
 | r :: l => .int .i64 r.1 :: .float .f32 r.2 :: rdCells l
theorem rdCells_get (ls : List (Int × Nat)) : ∀ i, i < ls.length → (rdCells ls)[i * 2]? = some (.int .i64 (ls.getD i (0, 0)).1) ∧ (rdCells ls)[i * 2 + 1]? = some (.float .f32 (ls.getD i (0, 0)).2) := by
 induction ls with
 | nil => intro i hi; simp at hi
 | cons r l ih =>
  intro i hi
  cases i with
  | zero => simp [rdCells]
  | succ i =>
   have := ih i (by simpa using hi)
   simpa [rdCells, Nat.succ_mul] using this
theorem LogOf.ofRow {w : World} {base : Nat} {e : TypeId} {v : Value} {ls : List (Int × Nat)} (h : LRow w base e 2 v ls.length (rdCells ls)) : LogOf w v ls := by
 rcases Nat.eq_zero_or_pos ls.length with h0 | hp
 ·
  rcases h.1.2 with ⟨rfl, _⟩ | ⟨g, cap, cur, rfl, _⟩
  ·
   exact ⟨none, 0, by rw [h0], fun h => absurd h (by omega)⟩
  ·
   exact ⟨_, _, rfl, fun h => absurd h (by omega)⟩
 ·
  obtain ⟨g, cap, rfl⟩ := ownsRow_some h.1 hp
  have hc : ∀ j u, (rdCells ls)[j]? = some u → w.cell? ((⟨g, 0, none⟩ : Addr).add j) = some u := h.1.cells (g := g) rfl
  have hlt : g < w.heap.size := (h.lt rfl).1
  refine ⟨_, _, rfl, fun _ => ⟨g, 0, rfl, hlt, fun i hi => ?_⟩⟩
  obtain ⟨h0, h1⟩ := rdCells_get ls i hi
  have ea : ∀ j, (⟨g, 0, none⟩ : Addr).add j = ⟨g, 0 + j, none⟩ := fun j => by unfold Addr.add; split <;> simp_all
  refine ⟨?_, ?_⟩
  ·
   rw [← ea]; exact hc _ _ h0
  ·
   rw [show 0 + i * 2 + 1 = 0 + (i * 2 + 1) by omega, ← ea]; exact hc _ _ h1
theorem cell_new2 (w : World) (a b : Value) (t : TypeId) : ∀ j u, [a, b][j]? = some u → (w.alloc (.cells #[a, b] t)).cell? ((⟨w.heap.size, 0, none⟩ : Addr).add j) = some u := by
 intro j u hj
 match j, hj with
 | 0, hj => simp at hj; subst hj; simp [Addr.add]
 | 1, hj => simp at hj; subst hj; simp [Addr.add]
 | j + 2, hj => simp at hj
end Go.Proofs.YtofijjomfhmbjaaGreat

namespace Go.Proofs.YtofijjomfhmbjaaGreat
open Go.RowKit

def pairCells : List (Int × Int) → List Value
 | [] => []
 | r :: l => .int .i64 r.1 :: .int .i64 r.2 :: pairCells l
theorem pairCells_append (a b : List (Int × Int)) : pairCells (a ++ b) = pairCells a ++ pairCells b := by
 induction a with
 | nil => rfl
 | cons r a ih => simp [pairCells, ih]
theorem pairCells_take (ls : List (Int × Int)) (i : Nat) (hi : i < ls.length) : pairCells (ls.take (i + 1)) = pairCells (ls.take i) ++ [.int .i64 (ls.getD i (0, 0)).1, .int .i64 (ls.getD i (0, 0)).2] := by
 rw [List.take_add_one, pairCells_append]
 simp [hi, pairCells]
theorem pairCells_get (ls : List (Int × Int)) : ∀ i, i < ls.length → (pairCells ls)[i * 2]? = some (.int .i64 (ls.getD i (0, 0)).1) ∧ (pairCells ls)[i * 2 + 1]? = some (.int .i64 (ls.getD i (0, 0)).2) := by
 induction ls with
 | nil => intro i hi; simp at hi
 | cons r l ih =>
  intro i hi
  cases i with
  | zero => simp [pairCells]
  | succ i =>
   have := ih i (by simpa using hi)
   simpa [pairCells, Nat.succ_mul] using this
theorem PairsOf.ofRow {w : World} {base : Nat} {e : TypeId} {v : Value} {ls : List (Int × Int)} (h : LRow w base e 2 v ls.length (pairCells ls)) : PairsOf w v ls := by
 rcases Nat.eq_zero_or_pos ls.length with h0 | hp
 ·
  rcases h.1.2 with ⟨rfl, _⟩ | ⟨g, cap, cur, rfl, _⟩
  ·
   exact ⟨none, 0, by rw [h0], fun h => absurd h (by omega)⟩
  ·
   exact ⟨_, _, rfl, fun h => absurd h (by omega)⟩
 ·
  obtain ⟨g, cap, rfl⟩ := ownsRow_some h.1 hp
  have hc : ∀ j u, (pairCells ls)[j]? = some u → w.cell? ((⟨g, 0, none⟩ : Addr).add j) = some u := h.1.cells (g := g) rfl
  have hlt : g < w.heap.size := (h.lt rfl).1
  refine ⟨_, _, rfl, fun _ => ⟨g, 0, rfl, hlt, fun i hi => ?_⟩⟩
  obtain ⟨h0, h1⟩ := pairCells_get ls i hi
  have ea : ∀ j, (⟨g, 0, none⟩ : Addr).add j = ⟨g, 0 + j, none⟩ := fun j => by unfold Addr.add; split <;> simp_all
  refine ⟨?_, ?_⟩
  ·
   rw [← ea]; exact hc _ _ h0
  ·
   rw [show 0 + i * 2 + 1 = 0 + (i * 2 + 1) by omega, ← ea]; exact hc _ _ h1
theorem zd2 : ∀ u ∈ (Value.agg #[.int .i64 0, .int .i64 0]).cells.toList, noDig u := by
 intro u hu
 simp [Value.cells] at hu
 rw [hu]
 exact noDig_i64 _
theorem nd2 (a b : Int) : ∀ u ∈ [Value.int .i64 a, Value.int .i64 b], noDig u := by
 intro u hu
 simp at hu
 rcases hu with rfl | rfl <;> exact noDig_i64 _
theorem one2 (a b : Int) : ∀ u ∈ [Value.int .i64 a, Value.int .i64 b], u.oneCell' = true := by simp [Value.oneCell']
end Go.Proofs.YtofijjomfhmbjaaGreat

namespace Go.Proofs.YtofijjomfhmbjaaGreat
open Go.RowKit

theorem PairsOf.nil (w : World) : PairsOf w (.slice none 0 0) [] := ⟨none, 0, rfl, fun h => absurd h (by simp)⟩

end Go.Proofs.YtofijjomfhmbjaaGreat

namespace Go.Proofs.YtofijjomfhmbjaaGreat
open Go.RowKit

structure GoodPcs (l : List (Int × Int)) (w : Int) : Prop where
 pcs : Pieces l w
 big : ∀ i, i < l.length → (gP l i).1 ≤ 1000 ∧ (gP l i).2 ≤ 1000
 len : l.length ≤ 10
 w1 : w ≤ 1000
theorem GoodPcs.at {l : List (Int × Int)} {w : Int} (h : GoodPcs l w) {i : Nat} (hi : i < l.length) : (1 ≤ (l.getD i (0, 0)).1 ∧ (l.getD i (0, 0)).1 ≤ 1000) ∧ 1 ≤ (l.getD i (0, 0)).2 ∧ (l.getD i (0, 0)).2 ≤ w := by
 have a := h.pcs.2 i hi
 have b := h.big i hi
 unfold gP at a b
 omega
theorem inL_yes {n lo hi : Int} (h1 : lo ≤ n) (h2 : n ≤ hi) : inL n lo hi = true := by simp [inL, h1, h2]

theorem run_max_ints3 {P : Program} (w : World) (ts : Array TypeId) (t : TypeId) (k k' k'' : IntKind) (x y z : Int) :
  (Builtin.max_ ts t #[.int k x, .int k' y, .int k'' z]).run P w = .ok (.int k (max (max x y) z)) w := by
 have e : ∀ x y : Int, (if y > x then y else x) = max x y := fun x y => by
  rw [Int.max_def]
  split <;> split <;> omega
 simp [Builtin.max_, Builtin.max2, e]
def RetTwoN (a b : Int) (w : World) (e : Ending) (w' : World) : Prop := e = .returned (.tuple #[.int .i64 a, .int .i64 b]) ∧ Below w.heap.size w w'
end Go.Proofs.YtofijjomfhmbjaaGreat

namespace Go.Proofs.YtofijjomfhmbjaaGreat
open Go.RowKit

def ordL (f : Nat → Nat) (n : Nat) : List Nat := (List.range n).map f
theorem ordL_length (f : Nat → Nat) (n : Nat) : (ordL f n).length = n := by simp [ordL]
theorem ordL_get (f : Nat → Nat) {n j : Nat} (hj : j < n) : (ordL f n).getD j 0 = f j := by simp [ordL, List.getD, hj]
theorem ordL_sw (f : Nat → Nat) {n j : Nat} (hj0 : 0 < j) (hj : j < n) : ((ordL f n).set j (f (j - 1))).set (j - 1) (f j) = ordL (swO f j) n := by
 refine List.ext_getElem (by simp [ordL]) fun k h1 h2 => ?_
 have hk : k < n := by simpa [ordL] using h2
 simp only [ordL, List.getElem_set, List.getElem_map, List.getElem_range]
 rcases swO_ways f hj0 k with ⟨c, e⟩ | ⟨c, e⟩ | ⟨c, d, e⟩
 ·
  rw [e, if_neg (by omega), if_pos (by omega)]
 ·
  rw [e, if_pos (by omega)]
 ·
  rw [e, if_neg (by omega), if_neg (by omega)]
theorem ordL_id (n : Nat) : ordL (fun j => j) n = List.range n := by simp [ordL]

theorem pairCells_len2 (ps : List (Int × Int)) : (pairCells ps).length = ps.length * 2 := by
 induction ps with
 | nil => rfl
 | cons p ps ih => simp only [pairCells, List.length_cons, ih]; omega
theorem pairCells_setA (ps : List (Int × Int)) (x : Int) : ∀ k, k < ps.length → (pairCells ps).set (k * 2) (.int .i64 x) = pairCells (ps.set k (x, (ps.getD k (0, 0)).2)) := by
 induction ps with
 | nil => intro k hk; simp at hk
 | cons p ps ih =>
  intro k hk
  cases k with
  | zero => simp [pairCells]
  | succ k =>
   have := ih k (by simpa using hk)
   rw [show (k + 1) * 2 = k * 2 + 2 by omega]
   simp only [pairCells, List.set_cons_succ, List.getD_cons_succ, this]
theorem pairCells_setB (ps : List (Int × Int)) (y : Int) : ∀ k, k < ps.length → (pairCells ps).set (k * 2 + 1) (.int .i64 y) = pairCells (ps.set k ((ps.getD k (0, 0)).1, y)) := by
 induction ps with
 | nil => intro k hk; simp at hk
 | cons p ps ih =>
  intro k hk
  cases k with
  | zero => simp [pairCells]
  | succ k =>
   have := ih k (by simpa using hk)
   rw [show (k + 1) * 2 + 1 = (k * 2 + 1) + 2 by omega]
   simp only [pairCells, List.set_cons_succ, List.getD_cons_succ, this]
theorem pairCells_set12 (ps : List (Int × Int)) (x y : Int) (k : Nat) (hk : k < ps.length) : ((pairCells ps).set (k * 2) (.int .i64 x)).set (k * 2 + 1) (.int .i64 y) = pairCells (ps.set k (x, y)) := by
 rw [pairCells_setA ps x k hk, pairCells_setB _ y k (by simpa using hk)]
 simp [List.getD, hk]

theorem heap_setN {w : World} {g : Nat} {e : TypeId} {cur : Array Value} (hh : w.heap[g]? = some (.cells cur e (0, 0))) (j : Nat) (v : Value) : (w.setCell ⟨g, j, none⟩ v).heap[g]? = some (.cells (cur.setIfInBounds j v) e (0, 0)) := by
 have hlt := (Array.getElem?_eq_some_iff.1 hh).1
 show (w.heap.modify g _)[g]? = _
 rw [Array.getElem?_modify, if_pos rfl, hh]
 rfl
theorem LRow.setN {w : World} {base : Nat} {e : TypeId} {size g n cap : Nat} {xs : List Value} (h : LRow w base e size (.slice (some ⟨g, 0, none⟩) n cap) n xs) (j : Nat) {v : Value} (hv : noDig v) :
  LRow (w.setCell ⟨g, j, none⟩ v) base e size (.slice (some ⟨g, 0, none⟩) n cap) n (xs.set j v) := by
 obtain ⟨⟨hl, h1⟩, hd⟩ := h
 rcases h1 with ⟨h1, _⟩ | ⟨g', cap', cur, hq, hb, hh, h2, h3, h4, h5⟩
 ·
  cases h1
 ·
  injection hq with hq1 hq2 hq3
  injection hq1 with hq1
  injection hq1 with hq1
  subst hq1
  subst hq3
  have hh' := heap_setN hh j v
  refine ⟨⟨by simpa using hl, .inr ⟨g, cap, _, rfl, hb, hh', h2, h3, by simpa using h4, ?_⟩⟩, fun g' hg' => ?_⟩
  ·
   rw [Array.toList_setIfInBounds, List.take_set, h5]
  ·
   simp [Value.ownBlock] at hg'
   subst hg'
   refine NoDig.of_block hh' fun u hu => ?_
   rw [Array.toList_setIfInBounds] at hu
   rcases List.mem_or_eq_of_mem_set hu with hu | rfl
   ·
    obtain ⟨k, hk⟩ := List.mem_iff_getElem?.1 hu
    refine hd g rfl k u ?_
    rw [cell_of_row w g k cur e (0, 0) hh]
    simpa using hk
   ·
    exact hv
theorem LRow.cellP {w : World} {base : Nat} {e : TypeId} {g cap : Nat} {ps : List (Int × Int)} {n : Nat} (h : LRow w base e 2 (.slice (some ⟨g, 0, none⟩) n cap) n (pairCells ps)) (hn : ps.length = n) {i : Nat} (hi : i < n) : PairAt w g (0 + i * 2) (ps.getD i (0, 0)) := by
 subst hn
 obtain ⟨ao, c, hv, hp⟩ := PairsOf.ofRow h
 obtain ⟨b, off, hb, _, hp⟩ := hp (by omega)
 simp only [Value.slice.injEq] at hv
 obtain ⟨rfl, _, rfl⟩ := hv
 simp only [Option.some.injEq, Addr.mk.injEq] at hb
 obtain ⟨rfl, rfl, _⟩ := hb
 exact hp i hi
theorem LRow.frozenP {w : World} {base : Nat} {e : TypeId} {size g n cap : Nat} {xs : List Value} (h : LRow w base e size (.slice (some ⟨g, 0, none⟩) n cap) n xs) (j : Nat) : w.frozen? ⟨g, j, none⟩ = false := by
 rcases h.1.2 with ⟨h1, _⟩ | ⟨g', cap', cur, hq, hb, hh, _⟩
 ·
  cases h1
 ·
  injection hq with hq1 hq2 hq3
  injection hq1 with hq1
  injection hq1 with hq1
  subst hq1
  exact frozen_of_row w g j _ e hh
theorem LRow.madeP {w : World} {base : Nat} {e : TypeId} {g n : Nat} (h : w.ownsRow base e 2 (.slice (some ⟨g, 0, none⟩) n n) n (madeCells #[Value.int .i64 0, Value.int .i64 0] (n * 2)).toList) : LRow w base e 2 (.slice (some ⟨g, 0, none⟩) n n) n (pairCells (List.replicate n (0, 0))) := by
 have e1 : ∀ n : Nat, pairCells (List.replicate n (0, 0)) = List.replicate (n * 2) (Value.int .i64 0) := fun n => by
  induction n with
  | zero => rfl
  | succ n ih => rw [List.replicate_succ, show (n + 1) * 2 = n * 2 + 1 + 1 by omega, List.replicate_succ, List.replicate_succ, ← ih]; rfl
 have e2 : (madeCells #[Value.int .i64 0, Value.int .i64 0] (n * 2)).toList = List.replicate (n * 2) (Value.int .i64 0) := by
  refine List.ext_getElem (by simp [madeCells]) fun k h1 h2 => ?_
  have : k % 2 = 0 ∨ k % 2 = 1 := by omega
  rcases this with c | c <;> simp [madeCells, c]
 rw [e2] at h
 rw [e1]
 refine ⟨h, fun g' hg' => ?_⟩
 rcases h.2 with ⟨h1, _⟩ | ⟨g1, cap', cur, hq, hb, hh, h2, h3, h4, h5⟩
 ·
  cases h1
 ·
  injection hq with hq1 hq2 hq3
  injection hq1 with hq1
  injection hq1 with hq1
  subst hq1
  subst hq3
  simp [Value.ownBlock] at hg'
  subst hg'
  refine NoDig.of_block hh fun u hu => ?_
  have e3 : cur.toList = List.replicate (n * 2) (Value.int .i64 0) := by
   rw [← h5, List.take_of_length_le (by simp; omega)]
  rw [e3] at hu
  rw [List.eq_of_mem_replicate hu]
  exact noDig_i64 0

end Go.Proofs.YtofijjomfhmbjaaGreat

namespace Go.Proofs.YtofijjomfhmbjaaGreat
open Go.RowKit

def swp2 (f : Nat → Nat) (p q : Nat) : Nat → Nat := fun k => if k = q then f p else if k = p then f q else f k
theorem ordL_swp (f : Nat → Nat) {n p q : Nat} (hp : p < n) (hq : q < n) : ((ordL f n).set p (f q)).set q (f p) = ordL (swp2 f p q) n := by
 refine List.ext_getElem (by simp [ordL]) fun k h1 h2 => ?_
 have hk : k < n := by simpa [ordL] using h2
 simp only [ordL, List.getElem_set, List.getElem_map, List.getElem_range, swp2]
 repeat' split
 all_goals first | rfl | omega
theorem swN_swp (f : Nat → Nat) {a b n : Nat} (h : a + n < b) : swp2 (swN f a b n) (a + n) (b + n) = swN f a b (n + 1) := by
 funext k
 rw [swN_step f h k]
 unfold swp2
 have e1 : swN f a b n (a + n) = f (a + n) := by unfold swN; rw [if_neg (by omega), if_neg (by omega)]
 have e2 : swN f a b n (b + n) = f (b + n) := by unfold swN; rw [if_neg (by omega), if_neg (by omega)]
 rw [e1, e2]
 repeat' split
 all_goals first | rfl | omega
def RetPerm (f : Nat → Nat) (N g : Nat) (w : World) (e : Ending) (w' : World) : Prop := e = .returned (.tuple #[]) ∧ Own w' g .i64 3 (ordL f N) ∧ Below g w w'

set_option maxRecDepth 100000 in
set_option maxHeartbeats 8000000 in
theorem swapRange_any (N a b n : Nat) (f : Nat → Nat) (g cap : Nat) (F : Value) (w : World) (hab : a + n ≤ b) (hb : b + n ≤ N) (hN : N ≤ 24) (hO : Own w g .i64 3 (ordL f N)) :
  Calls Tryz.prog 108 #[.slice (some ⟨g, 0, none⟩) N cap, .int .i64 a, .int .i64 b, .int .i64 n, F] w (RetPerm (swN f a b n) N g w) := by
 go_enter Tryz.func108, Tryz.ntmps108
 go_wp2_with fail
 go_loopw [10] (fun iv wr => ∃ i : Nat, i ≤ n ∧ iv = .int .i64 i ∧ Own wr g .i64 3 (ordL (swN f a b i) N) ∧ Below g w wr)
  (fun iv _ => n - (intOf iv).toNat)
 case atStart => exact ⟨0, Nat.zero_le _, rfl, by rw [swN_zero]; exact hO, Below.refl _ _⟩
 case round =>
  clear hO
  obtain ⟨i, hi, rfl, hO, hbel⟩ := hrel
  by_cases hlt : i < n
  ·
   have hlt' : (i : Int) < n := by omega
   have hp : a + i < N := by omega
   have hq : b + i < N := by omega
   have c1 := hO.cell (a + i) (by rw [ordL_length]; exact hp)
   have c2 := hO.cell (b + i) (by rw [ordL_length]; exact hq)
   rw [ordL_get _ hp] at c1
   rw [ordL_get _ hq] at c2
   have f1 := hO.frozen (a + i)
   have f2 := hO.frozen (b + i)
   have hgl := hO.lt
   have hw1 : IntKind.i64.wrap ((a : Int) + i) = ((a + i : Nat) : Int) := by rw [IntWalk.i64_in _ (by omega)]; omega
   have hw2 : IntKind.i64.wrap ((b : Int) + i) = ((b + i : Nat) : Int) := by rw [IntWalk.i64_in _ (by omega)]; omega
   have HSW : Hid (((ordL (swN f a b i) N).set (a + i) (swN f a b i (b + i))).set (b + i) (swN f a b i (a + i)) = ordL (swN f a b (i + 1)) N) := by
    show _ = _
    rw [ordL_swp _ hp hq, swN_swp f (by omega)]
   have HO := Lib.hid hO
   have HBL := Lib.hid hbel
   have hpN : ((a + i : Nat) : Int) < N := by omega
   have hqN : ((b + i : Nat) : Int) < N := by omega
   have hp0 : (0 : Int) ≤ ((a + i : Nat) : Int) := by omega
   have hq0 : (0 : Int) ≤ ((b + i : Nat) : Int) := by omega
   generalize swN f a b i (a + i) = u at *
   generalize swN f a b i (b + i) = v at *
   generalize hpe : a + i = p at *
   generalize hqe : b + i = q at *
   go_wp2_with fail
   go_region
   go_wp2_with fail
   exact ⟨⟨i + 1, by omega, by go_num, by rw [← HSW.out]; exact ((HO.out.store p v).store q u).drew, ((HBL.out.setCell (p := ⟨g, p, none⟩) (Nat.le_refl _) _).setCell (p := ⟨g, q, none⟩) (Nat.le_refl _) _).drew⟩, meas_up hlt⟩
  ·
   obtain rfl : i = n := by omega
   go_wp2_with fail
   go_end0
   exact ⟨rfl, hO, hbel⟩

set_option maxRecDepth 100000 in
set_option maxHeartbeats 8000000 in
theorem rotate_any (N a m b : Nat) (f : Nat → Nat) (g cap : Nat) (F : Value) (w : World) (ham : a < m) (hmb : m < b) (hb : b ≤ N) (hN : N ≤ 24) (hO : Own w g .i64 3 (ordL f N)) :
  Calls Tryz.prog 89 #[.slice (some ⟨g, 0, none⟩) N cap, .int .i64 a, .int .i64 m, .int .i64 b, F] w (RetPerm (rotF f a m b) N g w) := by
 have hwi : IntKind.i64.wrap ((m : Int) - a) = ((m - a : Nat) : Int) := by rw [IntWalk.i64_in _ (by omega)]; omega
 have hwj : IntKind.i64.wrap ((b : Int) - m) = ((b - m : Nat) : Int) := by rw [IntWalk.i64_in _ (by omega)]; omega
 have h0 : Hid (rotF f (m - (m - a)) m (m + (b - m)) = rotF f a m b) := by
  show _ = _
  rw [show m - (m - a) = a by omega, show m + (b - m) = b by omega]
 have hi0 : 0 < m - a := by omega
 have hj0 : 0 < b - m := by omega
 have hi1 : m - a ≤ m := by omega
 have hj1 : m + (b - m) ≤ N := by omega
 generalize m - a = i0 at *
 generalize b - m = j0 at *
 go_enter Tryz.func89, Tryz.ntmps89
 go_wp2_with fail
 go_loopw [10, 11] (fun iv jv wr => ∃ (i j : Nat) (h : Nat → Nat), 0 < i ∧ 0 < j ∧ i ≤ m ∧ m + j ≤ N ∧ iv = .int .i64 i ∧ jv = .int .i64 j ∧ Hid (rotF h (m - i) m (m + j) = rotF f a m b) ∧ Own wr g .i64 3 (ordL h N) ∧ Below g w wr)
  (fun iv jv _ => (intOf iv).toNat + (intOf jv).toNat)
 case atStart => exact ⟨i0, j0, f, hi0, hj0, hi1, hj1, rfl, rfl, h0, hO, Below.refl _ _⟩
 case round =>
  clear hO h0 hwi hwj hi0 hj0 hi1 hj1
  obtain ⟨i, j, h, hi, hj, him, hjN, rfl, rfl, HR, hO, hbel⟩ := hrel
  have hw1 : IntKind.i64.wrap ((m : Int) - i) = ((m - i : Nat) : Int) := by rw [IntWalk.i64_in _ (by omega)]; omega
  by_cases c1 : i = j
  ·
   subst c1
   have HE := Lib.hid ((rot_eq h him).trans HR.out)
   have t1 : ((i : Int) != (i : Int)) = false := by simp
   go_wp2_with fail
   refine (swapRange_any N (m - i) m i h g cap F _ (by omega) (by omega) hN hO).mono ?_
   rintro e w1 ⟨rfl, hO1, hb1⟩
   rw [HE.out] at hO1
   go_wp2_with fail
   go_end0
   exact ⟨rfl, hO1, hbel.trans hb1⟩
  ·
   have t1 : ((i : Int) != (j : Int)) = true := by simp; omega
   by_cases c2 : j < i
   ·
    have t2 : decide ((i : Int) > j) = true := decide_eq_true (by omega)
    have HE : Hid (rotF (swN h (m - i) m j) (m - (i - j)) m (m + j) = rotF f a m b) := (rot_gt h him c2).trans HR.out
    have hw2 : IntKind.i64.wrap ((i : Int) - j) = ((i - j : Nat) : Int) := by rw [IntWalk.i64_in _ (by omega)]; omega
    clear HR
    go_wp2_with fail
    refine (swapRange_any N (m - i) m j h g cap F _ (by omega) (by omega) hN hO).mono ?_
    rintro e w1 ⟨rfl, hO1, hb1⟩
    go_wp2_with fail
    exact ⟨⟨i - j, j, swN h (m - i) m j, by omega, hj, by omega, hjN, rfl, rfl, HE, hO1, hbel.trans hb1⟩, by simp [intOf]; omega⟩
   ·
    have t2 : decide ((i : Int) > j) = false := decide_eq_false (by omega)
    have HE : Hid (rotF (swN h (m - i) (m + j - i) i) (m - i) m (m + (j - i)) = rotF f a m b) := (rot_lt h him (by omega)).trans HR.out
    have hw2 : IntKind.i64.wrap ((j : Int) - i) = ((j - i : Nat) : Int) := by rw [IntWalk.i64_in _ (by omega)]; omega
    have hw3 : IntKind.i64.wrap ((m : Int) + j) = ((m + j : Nat) : Int) := by rw [IntWalk.i64_in _ (by omega)]; omega
    have hw4 : IntKind.i64.wrap (((m + j : Nat) : Int) - i) = ((m + j - i : Nat) : Int) := by rw [IntWalk.i64_in _ (by omega)]; omega
    have hw5 : IntKind.i64.wrap ((m : Int) + j - i) = ((m + j - i : Nat) : Int) := by rw [IntWalk.i64_in _ (by omega)]; omega
    clear HR
    go_wp2_with fail
    refine (swapRange_any N (m - i) (m + j - i) i h g cap F _ (by omega) (by omega) hN hO).mono ?_
    rintro e w1 ⟨rfl, hO1, hb1⟩
    go_wp2_with fail
    exact ⟨⟨i, j - i, swN h (m - i) (m + j - i) i, hi, by omega, him, by omega, rfl, rfl, HE, hO1, hbel.trans hb1⟩, by simp [intOf]; omega⟩

end Go.Proofs.YtofijjomfhmbjaaGreat
