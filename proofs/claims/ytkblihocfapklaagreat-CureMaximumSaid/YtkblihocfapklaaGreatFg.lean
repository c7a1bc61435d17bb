/- Part g of the lemmas and walks. -/
import Derived.Test.YtkblihocfapklaaGreatFf
set_option maxRecDepth 100000
set_option maxHeartbeats 30000000
namespace Go.Proofs.YtkblihocfapklaaGreat
open Go.RowKit
def qY (l : List (List Nat)) (i j : Nat) : Nat := (l.getD i []).getD j 0
def bdP (l : List (List Nat)) (i : Nat) : Rat := nM (qY l i 0 % 51) 100
def O3 (l : List (List Nat)) (i : Nat) : Rat := nM (qY l i 1) 1
def BQ (l : List (List Nat)) (i : Nat) : Rat := nM (qY l i 2) 4
def CP (l : List (List Nat)) (i : Nat) : Rat := ((4 * (qY l i 3 : Int) - 500 : Int) : Rat)
def uq (l : List (List Nat)) (i : Nat) : Rat := nM (qY l i 4) 4
def Jj (l : List (List Nat)) (i : Nat) : Rat := nM (qY l i 5 % 101) 100
def yA (l : List (List Nat)) (i : Nat) : Rat := nM (qY l i 6 % (101 - qY l i 5 % 101)) 100
def D_ (l : List (List Nat)) (i : Nat) : List Rat := [bdP l i, O3 l i, O3 l i + BQ l i, CP l i, CP l i + uq l i, Jj l i, Jj l i + yA l i]
def O6 (l : List (List Nat)) (r0 r1 r2 i : Nat) : List Rat := [O3 l i + BQ l i * nM r0 250, CP l i + uq l i * nM r1 250, Jj l i + yA l i * nM r2 250]
def uN (l : List (List Nat)) (n : Nat) : List (List Rat) := (List.range n).map (D_ l)
def Uf (l : List (List Nat)) (r0 r1 r2 n : Nat) : List (List Rat) := (List.range n).map (O6 l r0 r1 r2)
theorem Yx (l : List (List Nat)) (n : Nat) : uN l (n + 1) = uN l n ++ [D_ l n] := by unfold uN; rw [List.range_succ, List.map_append]; rfl
theorem Yz (l : List (List Nat)) (r0 r1 r2 n : Nat) : Uf l r0 r1 r2 (n + 1) = Uf l r0 r1 r2 n ++ [O6 l r0 r1 r2 n] := by unfold Uf; rw [List.range_succ, List.map_append]; rfl
theorem xK (l : List (List Nat)) (n : Nat) : (uN l n).length = n := by simp [uN]
theorem adP (l : List (List Nat)) (r0 r1 r2 n : Nat) : (Uf l r0 r1 r2 n).length = n := by simp [Uf]
theorem Yw (l : List (List Nat)) {n i : Nat} (h : i < n) : (uN l n).getD i [] = D_ l i := by unfold uN; simp [List.getD, h]
def qg (w : World) (v : Value) (l : List (List Nat)) : Prop :=
 ∃ ao cap, v = .slice ao l.length cap ∧ (0 < l.length → ∃ b off, ao = some ⟨b, off, none⟩ ∧ b < w.heap.size ∧ ∀ i, i < l.length → ∀ j, j < 7 → w.cell? ⟨b, off + i * 7 + j, none⟩ = some (.int .u8 ((qY l i j : Nat) : Int)))
theorem rU : (Tryz.prog.info? 46).map (fun i => (i.zero, i.size, i.bytes)) = some (some (.agg #[.bool false, .slice none 0 0, .slice none 0 0, .bool false, .slice none 0 0, .slice none 0 0, .bool false, .slice none 0 0, .slice none 0 0, .bool false, .slice none 0 0, .slice none 0 0, .bool false, .slice none 0 0, .slice none 0 0, .bool false, .slice none 0 0, .slice none 0 0, .bool false, .slice none 0 0, .slice none 0 0]), 21, 392) := by kernel_rfl
theorem rV : (Tryz.prog.info? 78).map (fun i => (i.zero, i.size, i.bytes)) = some (some (.agg #[.bool false, .slice none 0 0, .slice none 0 0, .bool false, .slice none 0 0, .slice none 0 0, .bool false, .slice none 0 0, .slice none 0 0]), 9, 168) := by kernel_rfl
theorem IB (z : Int) (w : World) (h0 : -1000 ≤ z) (h1 : z ≤ 1000) : Calls Tryz.prog 7 #[.int .i64 z, .int .i64 1] w (dW (z : Rat) w) := by
 have HS := ae (Sx.init w)
 have HQ : Hid (zJ z 1 = (z : Rat)) := by
  show _ = _
  unfold zJ
  rw [if_neg (by omega)]
  have e : (((1 : Int)) : Rat) = 1 := rfl
  rw [e]
  grind
 go_enter Tryz.func7, Tryz.ntmps7
 go_wp2_with fail
 generalize hW1 : (w).alloc (.cells _ _) = W1 at *
 replace HS := ae (((HS.out).alloc (B := w.heap.size) rfl (by rfl)).to hW1 (by (try simp only [ig, ik]); rfl))
 clear hW1
 refine (new_any _ _ _ (by omega) (by omega) (by omega) (by omega) (by omega)).mono ?_
 rintro e w2 ⟨v2, rfl, hv2, hb2⟩
 obtain ⟨z2, rfl⟩ := hv2.bn
 replace HS := ae (HS.out.below hb2)
 clear hb2
 replace HS := ae (HS.out.az hv2)
 clear hv2
 have bg := (HS.out.at 0 _ _ _ rfl)
 have iy := af bg 0 (.bool false) rfl
 have iL := af bg 1 (.slice none 0 0) rfl
 have jD := af bg 2 (.slice none 0 0) rfl
 have jI := ah bg 0
 have jU := ah bg 1
 have kz := ah bg 2
 have rG := ai bg
 clear bg
 go_wp2_with fail
 clear iy iL jD jI jU kz rG
 generalize hW3 : ((((w2).setCell _ _).setCell _ _).setCell _ _).alloc (.cells _ _) = W3 at *
 replace HS := ae ((((HS.out).oz 0 dQ z2 rfl).alloc (B := w2.heap.size) (by simp) (by rfl)).to hW3 (by (try simp only [ig, ik]); rfl))
 clear hW3
 obtain ⟨iy, iL, jD, _⟩ := eu (x := z2) (HS.out.at 1 _ _ _ rfl)
 refine bodyPost_ret (v := z2.val) (by simp [results, Tryz.results7, go_sem, iy, iL, jD]) rfl ⟨_, rfl, by rw [← HQ.out]; exact (HS.out.p 0 _ _ rfl), HS.out.bel⟩
def H7 (l : List (List Nat)) (r0 r1 r2 : Nat) (w : World) (e : Ending) (w' : World) : Prop :=
 ∃ va vb xs ys, e = .returned (.tuple #[va, vb]) ∧ jF w w' [] [⟨78, true, 3, vb, ys, Uf l r0 r1 r2 l.length⟩, ⟨46, true, 7, va, xs, uN l l.length⟩] ∧ Below w.heap.size w w'
theorem O8 (l_ : List (List Nat)) (n0 n1 n2 r0 r1 r2 : Nat) (vl : Value) (w : World) (h : qg w vl l_) (hlb : ∀ i, i < l_.length → ∀ j, j < 7 → qY l_ i j ≤ 255) (hl : l_.length ≤ 16) (h0 : n0 ≤ 255) (h1 : n1 ≤ 255) (h2 : n2 ≤ 255) (hr0 : r0 = n0 % 251) (hr1 : r1 = n1 % 251) (hr2 : r2 = n2 % 251) :
  Calls Tryz.prog 6 #[vl, .agg #[.int .u8 (n0 : Int), .int .u8 (n1 : Int), .int .u8 (n2 : Int)]] w (H7 l_ r0 r1 r2 w) := by
 have HS := ae (Sx.init w)
 have Dt := ae hlb
 have HL := ae hl
 have HN0 := ae h0
 have OD := ae h1
 have Hu := ae h2
 have HR0 := ae hr0
 have HR1 := ae hr1
 have HR2 := ae hr2
 obtain ⟨al, cl, rfl, hEB⟩ := h
 have HEB := ae hEB
 clear hEB hlb hl h0 h1 h2 hr0 hr1 hr2
 go_enter Tryz.func6, Tryz.ntmps6
 go_wp2_with fail
 generalize hW1 : (w).alloc (.cells _ _) = W1 at *
 replace HS := ae (((HS.out).alloc (B := w.heap.size) rfl (by rfl)).to hW1 (by (try simp only [ig, ik]); rfl))
 clear hW1
 have HG := ae (((jF.nil w W1 [(w.heap.size, #[.int .u8 (n0 : Int), .int .u8 (n1 : Int), .int .u8 (n2 : Int)], 35)]).add 46 true 7).add 78 true 3)
 go_wp2_with fail
 go_loopw [19, 6, 7] (fun u19 u6 u7 wr => ∃ (i : Nat) (rv : Value) (rx : List Value) (sv : Value) (sx : List Value), i ≤ l_.length ∧ u19 = .int .i64 i ∧ rv = u6 ∧ sv = u7 ∧ Hid (Sx w wr [(w.heap.size, #[.int .u8 (n0 : Int), .int .u8 (n1 : Int), .int .u8 (n2 : Int)], 35)] []) ∧ Hid (jF w wr [(w.heap.size, #[.int .u8 (n0 : Int), .int .u8 (n1 : Int), .int .u8 (n2 : Int)], 35)] [⟨78, true, 3, sv, sx, (Uf l_ r0 r1 r2 i)⟩, ⟨46, true, 7, rv, rx, (uN l_ i)⟩]))
  (fun u _ _ _ => l_.length - (intOf u).toNat)
 case atStart => exact ⟨0, .slice none 0 0, [], .slice none 0 0, [], Nat.zero_le _, rfl, rfl, rfl, ae (HS.out.bare), HG⟩
 case round =>
  obtain ⟨wr2, hwr2⟩ : ∃ z, z = wr := ⟨_, rfl⟩
  subst hwr2
  clear HS HG
  obtain ⟨i, rv, rx, sv, sx, hi, rfl, rfl, rfl, HS, HG⟩ := hrel
  by_cases hlt : i < l_.length
  ·
   have hlt' : (i : Int) < l_.length := by omega
   have hge' : (0 : Int) ≤ i := by omega
   have gq := ae hlt
   have h16 : l_.length ≤ 16 := HL.out
   obtain ⟨bb, ob, hae, hbb, hEB⟩ := HEB.out (by omega)
   subst hae
   have IX := ae hbb
   have aqu := xK l_ i
   have amP := adP l_ r0 r1 r2 i
   have HTC := ae (Yx l_ i)
   have HTR := ae (Yz l_ r0 r1 r2 i)
   have HCE : Hid (D_ l_ i = [bdP l_ i, O3 l_ i, O3 l_ i + BQ l_ i, CP l_ i, CP l_ i + uq l_ i, Jj l_ i, Jj l_ i + yA l_ i]) := rfl
   have HTE : Hid (O6 l_ r0 r1 r2 i = [O3 l_ i + BQ l_ i * nM r0 250, CP l_ i + uq l_ i * nM r1 250, Jj l_ i + yA l_ i * nM r2 250]) := rfl
   have hq0 : ∀ m, m = qY l_ i 0 % 51 → ∀ W, Calls Tryz.prog 7 #[.int .i64 (m : Int), .int .i64 100] W (dW (bdP l_ i) W) := fun m hm W => by subst hm; exact j_ _ 100 100 rfl W (by omega) (by omega) (by omega)
   have hq1 : ∀ W, Calls Tryz.prog 7 #[.int .i64 ((qY l_ i 1 : Nat) : Int), .int .i64 1] W (dW (O3 l_ i) W) := fun W => j_ _ 1 1 rfl W (by have := Dt.out i hlt 1 (by omega); omega) (by omega) (by omega)
   have hq2 : ∀ W, Calls Tryz.prog 7 #[.int .i64 ((qY l_ i 2 : Nat) : Int), .int .i64 4] W (dW (BQ l_ i) W) := fun W => j_ _ 4 4 rfl W (by have := Dt.out i hlt 2 (by omega); omega) (by omega) (by omega)
   have hq3 : ∀ z : Int, z = 4 * (qY l_ i 3 : Int) - 500 → ∀ W, Calls Tryz.prog 7 #[.int .i64 z, .int .i64 1] W (dW (CP l_ i) W) := fun z hz W => by subst hz; exact IB _ W (by omega) (by have := Dt.out i hlt 3 (by omega); omega)
   have hq4 : ∀ W, Calls Tryz.prog 7 #[.int .i64 ((qY l_ i 4 : Nat) : Int), .int .i64 4] W (dW (uq l_ i) W) := fun W => j_ _ 4 4 rfl W (by have := Dt.out i hlt 4 (by omega); omega) (by omega) (by omega)
   have hq5 : ∀ m, m = qY l_ i 5 % 101 → ∀ W, Calls Tryz.prog 7 #[.int .i64 (m : Int), .int .i64 100] W (dW (Jj l_ i) W) := fun m hm W => by subst hm; exact j_ _ 100 100 rfl W (by omega) (by omega) (by omega)
   have hq6 : ∀ m, m = qY l_ i 6 % (101 - qY l_ i 5 % 101) → ∀ W, Calls Tryz.prog 7 #[.int .i64 (m : Int), .int .i64 100] W (dW (yA l_ i) W) := fun m hm W => by
    subst hm
    have := Nat.mod_le (qY l_ i 6) (101 - qY l_ i 5 % 101)
    have := Dt.out i hlt 6 (by omega)
    exact j_ _ 100 100 rfl W (by omega) (by omega) (by omega)
   have szQ : ∀ m d, m ≤ 1000 → d ≤ 1000 → d ≠ 0 → bQ (nM m d) 1000 := fun m d h1 h2 h3 => aj (xq h1 h2 h3) (by omega)
   have szT : bQ (CP l_ i) 1000 := aj (uK (n := 4 * (qY l_ i 3 : Int) - 500) (k := 1) (by have := Dt.out i hlt 3 (by omega); unfold ak; omega) (by omega)) (by omega)
   have aoO : Hid (∀ W va vw, aA W va (O3 l_ i) → aA W vw (BQ l_ i) → Calls Tryz.prog 18 #[va, vw, .int .u8 (n0 : Int)] W (Dw (O3 l_ i) (O3 l_ i + BQ l_ i) (O3 l_ i + BQ l_ i * nM r0 250) W)) := fun W va vw h1 h2 => uJ _ _ n0 r0 HN0.out HR0.out va vw W h1 h2 (rq _ _ (by omega)) (szQ _ _ (by have := Dt.out i hlt 1 (by omega); omega) (by omega) (by omega)) (szQ _ _ (by have := Dt.out i hlt 2 (by omega); omega) (by omega) (by omega))
   have aoP : Hid (∀ W va vw, aA W va (CP l_ i) → aA W vw (uq l_ i) → Calls Tryz.prog 18 #[va, vw, .int .u8 (n1 : Int)] W (Dw (CP l_ i) (CP l_ i + uq l_ i) (CP l_ i + uq l_ i * nM r1 250) W)) := fun W va vw h1 h2 => uJ _ _ n1 r1 OD.out HR1.out va vw W h1 h2 (rq _ _ (by omega)) szT (szQ _ _ (by have := Dt.out i hlt 4 (by omega); omega) (by omega) (by omega))
   have aoQ : Hid (∀ W va vw, aA W va (Jj l_ i) → aA W vw (yA l_ i) → Calls Tryz.prog 18 #[va, vw, .int .u8 (n2 : Int)] W (Dw (Jj l_ i) (Jj l_ i + yA l_ i) (Jj l_ i + yA l_ i * nM r2 250) W)) := fun W va vw h1 h2 => uJ _ _ n2 r2 Hu.out HR2.out va vw W h1 h2 (rq _ _ (by omega)) (szQ _ _ (by omega) (by omega) (by omega)) (szQ _ _ (by have := Nat.mod_le (qY l_ i 6) (101 - qY l_ i 5 % 101); have := Dt.out i hlt 6 (by omega); omega) (by omega) (by omega))
   have hz0 := Dt.out i hlt 0 (by omega)
   have he0 := hEB i hlt 0 (by omega)
   generalize qY l_ i 0 = b0 at *
   have Oz := ae he0
   have at1 : IntKind.i64.wrap (b0 : Int) = (b0 : Int) := IntWalk.i64_in _ (by omega)
   have hz1 := Dt.out i hlt 1 (by omega)
   have he1 := hEB i hlt 1 (by omega)
   generalize qY l_ i 1 = b1 at *
   have HE1 := ae he1
   have at6 : IntKind.i64.wrap (b1 : Int) = (b1 : Int) := IntWalk.i64_in _ (by omega)
   have hz2 := Dt.out i hlt 2 (by omega)
   have he2 := hEB i hlt 2 (by omega)
   generalize qY l_ i 2 = b2 at *
   have HE2 := ae he2
   have at7 : IntKind.i64.wrap (b2 : Int) = (b2 : Int) := IntWalk.i64_in _ (by omega)
   have hz3 := Dt.out i hlt 3 (by omega)
   have he3 := hEB i hlt 3 (by omega)
   generalize qY l_ i 3 = b3 at *
   have HE3 := ae he3
   have aua : IntKind.i64.wrap (b3 : Int) = (b3 : Int) := IntWalk.i64_in _ (by omega)
   have UX := Dt.out i hlt 4 (by omega)
   have he4 := hEB i hlt 4 (by omega)
   generalize qY l_ i 4 = b4 at *
   have HE4 := ae he4
   have aub : IntKind.i64.wrap (b4 : Int) = (b4 : Int) := IntWalk.i64_in _ (by omega)
   have hz5 := Dt.out i hlt 5 (by omega)
   have he5 := hEB i hlt 5 (by omega)
   generalize qY l_ i 5 = b5 at *
   have HE5 := ae he5
   have auc : IntKind.i64.wrap (b5 : Int) = (b5 : Int) := IntWalk.i64_in _ (by omega)
   have hz6 := Dt.out i hlt 6 (by omega)
   have he6 := hEB i hlt 6 (by omega)
   generalize qY l_ i 6 = b6 at *
   have HE6 := ae he6
   have aud : IntKind.i64.wrap (b6 : Int) = (b6 : Int) := IntWalk.i64_in _ (by omega)
   obtain ⟨d3, hd3⟩ : ∃ z : Int, z = 4 * (b3 : Int) := ⟨_, rfl⟩
   obtain ⟨z3, aqS⟩ : ∃ z : Int, z = d3 - 500 := ⟨_, rfl⟩
   obtain ⟨l, hl⟩ : ∃ z, z = b5 % 101 := ⟨_, rfl⟩
   obtain ⟨dl, hdl⟩ : ∃ z, z = 101 - l := ⟨_, rfl⟩
   obtain ⟨uc, huc⟩ : ∃ z, z = b6 % dl := ⟨_, rfl⟩
   obtain ⟨pm, hpm⟩ : ∃ z, z = b0 % 51 := ⟨_, rfl⟩
   have HP0 := ae (hq0 pm hpm)
   have HP1 := ae hq1
   have HP2 := ae hq2
   have HP3 := ae (hq3 z3 (by omega))
   have HP4 := ae hq4
   have HP5 := ae (hq5 l hl)
   have HP6 := ae (hq6 uc (by rw [huc, hdl, hl]))
   have hll : l ≤ 100 := by omega
   have hud : uc ≤ b6 := by rw [huc]; exact Nat.mod_le _ _
   have hm1 : IntKind.i64.wrap (4 * (b3 : Int)) = d3 := (IntWalk.i64_in _ (by omega)).trans (by omega)
   have hm2 : IntKind.i64.wrap (d3 - 500) = z3 := (IntWalk.i64_in _ (by omega)).trans (by omega)
   have hm3 : Int.tmod (b5 : Int) 101 = (l : Int) := by rw [Int.tmod_eq_emod_of_nonneg (by omega)]; omega
   have hm4 : (b5 : Int) % 101 = (l : Int) := by omega
   have hm5 : IntKind.i64.wrap (l : Int) = (l : Int) := IntWalk.i64_in _ (by omega)
   have hm6 : IntKind.i64.wrap (101 - (l : Int)) = (dl : Int) := (IntWalk.i64_in _ (by omega)).trans (by omega)
   have hm7 : Int.tmod (b6 : Int) (dl : Int) = (uc : Int) := by rw [Int.tmod_eq_emod_of_nonneg (by omega), huc]; exact (Int.natCast_emod b6 dl).symm
   have hm8 : (b6 : Int) % (dl : Int) = (uc : Int) := by rw [huc]; exact (Int.natCast_emod b6 dl).symm
   have hm9 : IntKind.i64.wrap (uc : Int) = (uc : Int) := IntWalk.i64_in _ (by omega)
   have aqw : ¬ dl = 0 := by omega
   have aqx : ((dl : Int) == 0) = false := beq_eq_false_iff_ne.2 (by omega)
   have aqy : Int.tmod (b0 : Int) 51 = (pm : Int) := by rw [Int.tmod_eq_emod_of_nonneg (by omega)]; omega
   have aqz : (b0 : Int) % 51 = (pm : Int) := by omega
   have aqA : IntKind.i64.wrap (pm : Int) = (pm : Int) := IntWalk.i64_in _ (by omega)
   clear hbb hEB he0 he1 he2 he3 he4 he5 he6 hq0 hq1 hq2 hq3 hq4 hq5 hq6 szQ szT hlt hl hdl huc hpm hd3 aqS
   generalize bdP l_ i = p0 at *
   generalize O3 l_ i + BQ l_ i * nM r0 250 = xh at *
   generalize O3 l_ i + BQ l_ i = h1 at *
   generalize CP l_ i + uq l_ i * nM r1 250 = xt at *
   generalize CP l_ i + uq l_ i = t1 at *
   generalize Jj l_ i + yA l_ i * nM r2 250 = xc at *
   generalize Jj l_ i + yA l_ i = c1 at *
   generalize O3 l_ i = h0 at *
   generalize BQ l_ i = hw at *
   generalize CP l_ i = t0 at *
   generalize uq l_ i = tw at *
   generalize Jj l_ i = c0 at *
   generalize yA l_ i = cw at *
   have Ec0 := (HS.out.bel.cell (p := ⟨bb, ob + i * 7, none⟩) IX.out).trans Oz.out
   have Ec1 := (HS.out.bel.cell (p := ⟨bb, ob + i * 7 + 1, none⟩) IX.out).trans HE1.out
   have Ec2 := (HS.out.bel.cell (p := ⟨bb, ob + i * 7 + 2, none⟩) IX.out).trans HE2.out
   have Ec3 := (HS.out.bel.cell (p := ⟨bb, ob + i * 7 + 3, none⟩) IX.out).trans HE3.out
   have Ec4 := (HS.out.bel.cell (p := ⟨bb, ob + i * 7 + 4, none⟩) IX.out).trans HE4.out
   have Ec5 := (HS.out.bel.cell (p := ⟨bb, ob + i * 7 + 5, none⟩) IX.out).trans HE5.out
   have Ec6 := (HS.out.bel.cell (p := ⟨bb, ob + i * 7 + 6, none⟩) IX.out).trans HE6.out
   go_wp2_with fail
   clear Ec0 Ec1 Ec2 Ec3 Ec4 Ec5 Ec6
   generalize hW3 : (wr2).alloc (.cells _ _) = W3 at *
   replace HG := ae (((HG.out).alloc (B := wr2.heap.size) rfl).to hW3 (by (try simp only [ig, ik]); rfl))
   replace HS := ae (((HS.out).alloc (B := wr2.heap.size) rfl (by rfl)).to hW3 (by (try simp only [ig, ik]); rfl))
   clear hW3
   refine wp_region_held_drew (S := (fun w' => Sx w w' [(wr2.heap.size, #[.int .u8 (b0 : Int), .int .u8 (b1 : Int), .int .u8 (b2 : Int), .int .u8 (b3 : Int), .int .u8 (b4 : Int), .int .u8 (b5 : Int), .int .u8 (b6 : Int)], 76), (w.heap.size, #[.int .u8 (n0 : Int), .int .u8 (n1 : Int), .int .u8 (n2 : Int)], 35)] [])) (by kernel_rfl) ((HS.out.drew).bare) (fun hh => ?_)
   replace HS := ae HS.out.drew
   replace HG := ae (HG.out.below (Below.refl _ _).drew)
   have BM := ae HS.out.bel.size
   refine dF (i := 0) (v := ?vk5) rfl ?hk5 ?rk5
   case hk5 => intro u aH; go_simp <;> with_reducible rfl
   try simp only [ag]
   refine dF (i := 1) (v := ?vk6) rfl ?hk6 ?rk6
   case hk6 => intro u aH; go_simp <;> with_reducible rfl
   try simp only [ag]
   refine dF (i := 2) (v := ?vk7) rfl ?hk7 ?rk7
   case hk7 => intro u aH; (try dsimp only at aH); have gU := (aH.at 0 _ _ _ rfl); have rC := af gU 0 (.int .u8 (b0 : Int)) rfl; have rD := af gU 1 (.int .u8 (b1 : Int)) rfl; have rE := af gU 2 (.int .u8 (b2 : Int)) rfl; have xw := af gU 3 (.int .u8 (b3 : Int)) rfl; have xx := af gU 4 (.int .u8 (b4 : Int)) rfl; have xy := af gU 5 (.int .u8 (b5 : Int)) rfl; have NR := af gU 6 (.int .u8 (b6 : Int)) rfl; clear gU; clear aH; go_simp <;> with_reducible rfl
   try simp only [ag]
   refine dF (i := 3) (v := ?vk8) rfl ?hk8 ?rk8
   case hk8 => intro u aH; go_simp <;> with_reducible rfl
   try simp only [ag]
   refine dF (i := 5) (v := ?vk9) rfl ?hk9 ?rk9
   case hk9 => intro u aH; go_simp <;> with_reducible rfl
   try simp only [ag]
   refine dF (i := 6) (v := ?aol) rfl ?hk10 ?an6
   case hk10 => intro u aH; go_simp <;> with_reducible rfl
   try simp only [ag]
   refine dF (i := 7) (v := ?arY) rfl ?aiW ?arl
   case aiW => intro u aH; (try dsimp only at aH); have gU := (aH.at 0 _ _ _ rfl); have rC := af gU 0 (.int .u8 (b0 : Int)) rfl; have rD := af gU 1 (.int .u8 (b1 : Int)) rfl; have rE := af gU 2 (.int .u8 (b2 : Int)) rfl; have xw := af gU 3 (.int .u8 (b3 : Int)) rfl; have xx := af gU 4 (.int .u8 (b4 : Int)) rfl; have xy := af gU 5 (.int .u8 (b5 : Int)) rfl; have NR := af gU 6 (.int .u8 (b6 : Int)) rfl; clear gU; clear aH; go_simp <;> with_reducible rfl
   try simp only [ag]
   refine dF (i := 8) (v := ?aon) rfl ?hk12 ?an8
   case hk12 => intro u aH; go_simp <;> with_reducible rfl
   try simp only [ag]
   refine dF (i := 10) (v := ?afI) rfl ?Jz ?afx
   case Jz => intro u aH; go_simp <;> with_reducible rfl
   try simp only [ag]
   refine dF (i := 11) (v := ?akA) rfl ?PU ?akr
   case PU => intro u aH; (try dsimp only at aH); have fH := (aH.at 1 _ _ _ rfl); have kH := af fH 0 (.int .u8 (n0 : Int)) rfl; have kJ := af fH 1 (.int .u8 (n1 : Int)) rfl; have kK := af fH 2 (.int .u8 (n2 : Int)) rfl; clear fH; clear aH; go_simp <;> with_reducible rfl
   try simp only [ag]
   refine dY [4, 9, 12, 13, 14, 15, 16, 17] [4, 9, 12, 16, 17] [13, 14, 15] [28, 33, 36, 23, 37, 38, 10, 11] #[true, true, true, true, true, true, true, true, true, true, true, true, true, true, true, true, true, true, false, false] 2 [(4, 28), (9, 33), (12, 36), (13, 23), (14, 37), (15, 38), (16, 10), (17, 11)] [(4, []), (9, [4]), (12, [4, 9]), (13, [12]), (14, [13]), (15, [13]), (16, []), (17, [])] [16, 17] [(4, fun v w => ∃ zn : R3, v = zn.val ∧ Fr true w zn.val h0), (9, fun v w => ∃ yG : R3, v = yG.val ∧ Fr true w yG.val hw), (12, fun v w => ∃ iQ iR xG : R3, v = .tuple #[.agg #[.bool iQ.b, .slice iQ.a iQ.n iQ.c, .slice iQ.d iQ.m iQ.e, .bool iR.b, .slice iR.a iR.n iR.c, .slice iR.d iR.m iR.e], xG.val] ∧ Fr true w iQ.val h0 ∧ Fr true w iR.val h1 ∧ Fr true w xG.val xh), (13, fun v w => ∃ bF bG jc : R3, v = .tuple #[.agg #[.bool bF.b, .slice bF.a bF.n bF.c, .slice bF.d bF.m bF.e, .bool bG.b, .slice bG.a bG.n bG.c, .slice bG.d bG.m bG.e], jc.val] ∧ Fr true w bF.val h0 ∧ Fr true w bG.val h1 ∧ Fr true w jc.val xh), (14, fun v w => ∃ aB aC : R3, v = .agg #[.bool aB.b, .slice aB.a aB.n aB.c, .slice aB.d aB.m aB.e, .bool aC.b, .slice aC.a aC.n aC.c, .slice aC.d aC.m aC.e] ∧ Fr true w aB.val h0 ∧ Fr true w aC.val h1), (15, fun v w => ∃ aI : R3, v = aI.val ∧ Fr true w aI.val xh), (16, fun v w => ∃ iw : Nat, v = .pointer (some ⟨iw, 0, none⟩) ∧ W3.drew.heap.size ≤ iw ∧ w.heap[iw]? = some (.cells #[.bool false, .slice none 0 0, .slice none 0 0, .bool false, .slice none 0 0, .slice none 0 0] 43 (0, 0))), (17, fun v w => ∃ iJ : Nat, v = .pointer (some ⟨iJ, 0, none⟩) ∧ W3.drew.heap.size ≤ iJ ∧ w.heap[iJ]? = some (.cells #[.bool false, .slice none 0 0, .slice none 0 0] 40 (0, 0)))]
    rfl (by kernel_rfl) (by decide) rfl ⟨(fun v w w' hb ⟨z0, e, h0⟩ => ⟨z0, e, Fr.below h0 hb⟩), ⟨(fun v w w' hb ⟨z0, e, h0⟩ => ⟨z0, e, Fr.below h0 hb⟩), ⟨(fun v w w' hb ⟨z0, z1, z2, e, h0, h1, h2⟩ => ⟨z0, z1, z2, e, Fr.below h0 hb, Fr.below h1 hb, Fr.below h2 hb⟩), ⟨(fun v w w' hb ⟨z0, z1, z2, e, h0, h1, h2⟩ => ⟨z0, z1, z2, e, Fr.below h0 hb, Fr.below h1 hb, Fr.below h2 hb⟩), ⟨(fun v w w' hb ⟨z0, z1, e, h0, h1⟩ => ⟨z0, z1, e, Fr.below h0 hb, Fr.below h1 hb⟩), ⟨(fun v w w' hb ⟨z0, e, h0⟩ => ⟨z0, e, Fr.below h0 hb⟩), ⟨(fun v w w' hb ⟨B, e, g, k⟩ => ⟨B, e, g, ay k hb (ai k)⟩), ⟨(fun v w w' hb ⟨B, e, g, k⟩ => ⟨B, e, g, ay k hb (ai k)⟩), trivial⟩⟩⟩⟩⟩⟩⟩⟩ ⟨fun v w ⟨B, e, g, k⟩ => ⟨B, e, ai k⟩, ⟨fun v w ⟨B, e, g, k⟩ => ⟨B, e, ai k⟩, trivial⟩⟩ (fun w' hb => Sx.below hh hb) ⟨?_, ?_, ?_, ?_, ?_, trivial⟩ ⟨?_, ?_, ?_, trivial⟩ (by decide) ?_
   ·
    refine dI.of rfl (fun f w' hb hp K hK => ?_)
    have pJ := HS
    replace HS := ae (HS.out.below hb)
    simp only [aQ, aT, List.foldl_cons, List.foldl_nil, ag]
    go_simp
    go_wp2_with (go_at_call 7; (with_reducible refine (HP1.out _).mono ?_); rintro e w15 ⟨v15, rfl, ZT, aiC⟩; obtain ⟨zn, rfl⟩ := ZT.bn)
    exact hK.out _ _ (zn.val) (by simp only [aQ, aT, List.foldl_cons, List.foldl_nil, ag]) ⟨zn, rfl, ZT⟩ (fun h => absurd h (by decide)) aiC
   ·
    refine dI.of rfl (fun f w' hb hp K hK => ?_)
    have pJ := HS
    replace HS := ae (HS.out.below hb)
    simp only [aQ, aT, List.foldl_cons, List.foldl_nil, ag]
    go_simp
    go_wp2_with (go_at_call 7; (with_reducible refine (HP2.out _).mono ?_); rintro e w16 ⟨v16, rfl, JB, hb16⟩; obtain ⟨yG, rfl⟩ := JB.bn)
    exact hK.out _ _ (yG.val) (by simp only [aQ, aT, List.foldl_cons, List.foldl_nil, ag]) ⟨yG, rfl, JB⟩ (fun h => absurd h (by decide)) hb16
   ·
    refine dI.of rfl (fun f w' hb hp K hK => ?_)
    obtain ⟨zn, e4, Ez⟩ : ∃ zn : R3, f 28 = zn.val ∧ Fr true w' zn.val h0 := hp 4 (by decide)
    obtain ⟨yG, e9, Ar⟩ : ∃ yG : R3, f 33 = yG.val ∧ Fr true w' yG.val hw := hp 9 (by decide)
    have pJ := HS
    replace HS := ae (HS.out.below hb)
    replace HS := ae (HS.out.az Ez)
    replace HS := ae (HS.out.az Ar)
    simp only [aQ, aT, List.foldl_cons, List.foldl_nil, ag, e4, e9]
    have a18 := HS.out.p 1 _ _ rfl
    have a19 := HS.out.p 0 _ _ rfl
    go_simp
    go_wp2_with (go_at_call 18; (with_reducible refine (aoO.out _ _ _ a18 a19).mono ?_); rintro e w17 ⟨iQ, iR, xG, rfl, am4, am5, am6, aiD⟩)
    exact hK.out _ _ (.tuple #[.agg #[.bool iQ.b, .slice iQ.a iQ.n iQ.c, .slice iQ.d iQ.m iQ.e, .bool iR.b, .slice iR.a iR.n iR.c, .slice iR.d iR.m iR.e], xG.val]) (by simp only [aQ, aT, List.foldl_cons, List.foldl_nil, ag, e4, e9]) ⟨iQ, iR, xG, rfl, am4, am5, am6⟩ (fun h => absurd h (by decide)) aiD
   ·
    refine dI.of rfl (fun f w' hb hp K hK => ?_)
    have pJ := HS
    replace HS := ae (HS.out.below hb)
    simp only [aQ, aT, List.foldl_cons, List.foldl_nil, ag]
    go_simp
    exact hK.out _ _ (.pointer (some ⟨w'.heap.size, 0, none⟩)) (by simp only [aQ, aT, List.foldl_cons, List.foldl_nil, ag]) ⟨_, rfl, hb.size, aV _ _ _⟩ (fun _ => rfl) (gJ w' _)
   ·
    refine dI.of rfl (fun f w' hb hp K hK => ?_)
    have pJ := HS
    replace HS := ae (HS.out.below hb)
    simp only [aQ, aT, List.foldl_cons, List.foldl_nil, ag]
    go_simp
    exact hK.out _ _ (.pointer (some ⟨w'.heap.size, 0, none⟩)) (by simp only [aQ, aT, List.foldl_cons, List.foldl_nil, ag]) ⟨_, rfl, hb.size, aV _ _ _⟩ (fun _ => rfl) (gJ w' _)
   ·
    refine mY.of rfl (fun f w' hb hp => ?_)
    obtain ⟨iQ, iR, xG, e12, Ep, Es, Et⟩ : ∃ iQ iR xG : R3, f 36 = .tuple #[.agg #[.bool iQ.b, .slice iQ.a iQ.n iQ.c, .slice iQ.d iQ.m iQ.e, .bool iR.b, .slice iR.a iR.n iR.c, .slice iR.d iR.m iR.e], xG.val] ∧ Fr true w' iQ.val h0 ∧ Fr true w' iR.val h1 ∧ Fr true w' xG.val xh := hp 12 (by decide)
    refine ⟨.tuple #[.agg #[.bool iQ.b, .slice iQ.a iQ.n iQ.c, .slice iQ.d iQ.m iQ.e, .bool iR.b, .slice iR.a iR.n iR.c, .slice iR.d iR.m iR.e], xG.val], ⟨iQ, iR, xG, rfl, Ep, Es, Et⟩, by first | rfl | kernel_rfl, fun u => ?_⟩
    simp only [aQ, aT, List.foldl_cons, List.foldl_nil, ag, e12]
    go_simp <;> with_reducible rfl
   ·
    refine mY.of rfl (fun f w' hb hp => ?_)
    obtain ⟨bF, bG, jc, e13, sK, zL, zM⟩ : ∃ bF bG jc : R3, f 23 = .tuple #[.agg #[.bool bF.b, .slice bF.a bF.n bF.c, .slice bF.d bF.m bF.e, .bool bG.b, .slice bG.a bG.n bG.c, .slice bG.d bG.m bG.e], jc.val] ∧ Fr true w' bF.val h0 ∧ Fr true w' bG.val h1 ∧ Fr true w' jc.val xh := hp 13 (by decide)
    refine ⟨.agg #[.bool bF.b, .slice bF.a bF.n bF.c, .slice bF.d bF.m bF.e, .bool bG.b, .slice bG.a bG.n bG.c, .slice bG.d bG.m bG.e], ⟨bF, bG, rfl, sK, zL⟩, by first | rfl | kernel_rfl, fun u => ?_⟩
    simp only [aQ, aT, List.foldl_cons, List.foldl_nil, ag, e13]
    go_simp <;> with_reducible rfl
   ·
    refine mY.of rfl (fun f w' hb hp => ?_)
    obtain ⟨bF, bG, jc, e13, sK, zL, zM⟩ : ∃ bF bG jc : R3, f 23 = .tuple #[.agg #[.bool bF.b, .slice bF.a bF.n bF.c, .slice bF.d bF.m bF.e, .bool bG.b, .slice bG.a bG.n bG.c, .slice bG.d bG.m bG.e], jc.val] ∧ Fr true w' bF.val h0 ∧ Fr true w' bG.val h1 ∧ Fr true w' jc.val xh := hp 13 (by decide)
    refine ⟨jc.val, ⟨jc, rfl, zM⟩, by first | rfl | kernel_rfl, fun u => ?_⟩
    simp only [aQ, aT, List.foldl_cons, List.foldl_nil, ag, e13]
    go_simp <;> with_reducible rfl
   ·
    intro f wr4 hb hp hd
    obtain ⟨zn, e4, Ez⟩ : ∃ zn : R3, f 28 = zn.val ∧ Fr true wr4 zn.val h0 := hp 4 (by decide)
    obtain ⟨yG, e9, Ar⟩ : ∃ yG : R3, f 33 = yG.val ∧ Fr true wr4 yG.val hw := hp 9 (by decide)
    obtain ⟨iQ, iR, xG, e12, Ep, Es, Et⟩ : ∃ iQ iR xG : R3, f 36 = .tuple #[.agg #[.bool iQ.b, .slice iQ.a iQ.n iQ.c, .slice iQ.d iQ.m iQ.e, .bool iR.b, .slice iR.a iR.n iR.c, .slice iR.d iR.m iR.e], xG.val] ∧ Fr true wr4 iQ.val h0 ∧ Fr true wr4 iR.val h1 ∧ Fr true wr4 xG.val xh := hp 12 (by decide)
    obtain ⟨bF, bG, jc, e13, sK, zL, zM⟩ : ∃ bF bG jc : R3, f 23 = .tuple #[.agg #[.bool bF.b, .slice bF.a bF.n bF.c, .slice bF.d bF.m bF.e, .bool bG.b, .slice bG.a bG.n bG.c, .slice bG.d bG.m bG.e], jc.val] ∧ Fr true wr4 bF.val h0 ∧ Fr true wr4 bG.val h1 ∧ Fr true wr4 jc.val xh := hp 13 (by decide)
    obtain ⟨aB, aC, e14, wH, Eu⟩ : ∃ aB aC : R3, f 37 = .agg #[.bool aB.b, .slice aB.a aB.n aB.c, .slice aB.d aB.m aB.e, .bool aC.b, .slice aC.a aC.n aC.c, .slice aC.d aC.m aC.e] ∧ Fr true wr4 aB.val h0 ∧ Fr true wr4 aC.val h1 := hp 14 (by decide)
    obtain ⟨aI, e15, uO⟩ : ∃ aI : R3, f 38 = aI.val ∧ Fr true wr4 aI.val xh := hp 15 (by decide)
    obtain ⟨iw, e16, g16, k16⟩ : ∃ iw : Nat, f 10 = .pointer (some ⟨iw, 0, none⟩) ∧ W3.drew.heap.size ≤ iw ∧ wr4.heap[iw]? = some (.cells #[.bool false, .slice none 0 0, .slice none 0 0, .bool false, .slice none 0 0, .slice none 0 0] 43 (0, 0)) := hp 16 (by decide)
    obtain ⟨iJ, e17, g17, k17⟩ : ∃ iJ : Nat, f 11 = .pointer (some ⟨iJ, 0, none⟩) ∧ W3.drew.heap.size ≤ iJ ∧ wr4.heap[iJ]? = some (.cells #[.bool false, .slice none 0 0, .slice none 0 0] 40 (0, 0)) := hp 17 (by decide)
    have Jw : iw ≠ iJ := fun h => hd 16 17 (by decide) (by decide) (by decide) (by decide) (by decide) (by show f 10 = f 11; rw [e16, e17, h])
    replace hh := Sx.below hh hb
    have hlt := HS.out.lt
    replace HS := ae (HS.out.below hb)
    have nJ := HG.out.row
    replace HG := ae (HG.out.below hb)
    replace HS := ae (HS.out.az Ez)
    replace HS := ae (HS.out.az Ar)
    replace HS := ae (HS.out.az Ep)
    replace HS := ae (HS.out.az Es)
    replace HS := ae (HS.out.az Et)
    replace HS := ae (HS.out.az sK)
    replace HS := ae (HS.out.az zL)
    replace HS := ae (HS.out.az zM)
    replace HS := ae (HS.out.az wH)
    replace HS := ae (HS.out.az Eu)
    replace HS := ae (HS.out.az uO)
    have Zw : w.heap.size ≤ iw := Nat.le_trans BM.out g16
    have hne16 : ∀ b, b ∈ ([(wr2.heap.size, #[.int .u8 (b0 : Int), .int .u8 (b1 : Int), .int .u8 (b2 : Int), .int .u8 (b3 : Int), .int .u8 (b4 : Int), .int .u8 (b5 : Int), .int .u8 (b6 : Int)], 76), (w.heap.size, #[.int .u8 (n0 : Int), .int .u8 (n1 : Int), .int .u8 (n2 : Int)], 35)] : List Bx) → b.1 ≠ iw := by
     intro b hb
     simp only [List.mem_cons, List.not_mem_nil, or_false] at hb
     rcases hb with rfl | rfl
     · have := hlt _ (List.mem_iff_getElem?.2 ⟨0, rfl⟩); dsimp only at this ⊢; omega
     · have := hlt _ (List.mem_iff_getElem?.2 ⟨1, rfl⟩); dsimp only at this ⊢; omega
    replace HS := ae (HS.out.ku k16 Zw (by rfl) hne16)
    replace HG := ae (HG.out.box (B := iw) (T := 43) (cs := #[.bool false, .slice none 0 0, .slice none 0 0, .bool false, .slice none 0 0, .slice none 0 0]) (fun g hg hc => by obtain ⟨n, hn⟩ := List.mem_iff_getElem?.1 hg; have := ((nJ n g hn).lt hc).1; have := g16; omega))
    have MO : w.heap.size ≤ iJ := Nat.le_trans BM.out g17
    have MQ : ∀ b, b ∈ ([(iw, #[.bool false, .slice none 0 0, .slice none 0 0, .bool false, .slice none 0 0, .slice none 0 0], 43), (wr2.heap.size, #[.int .u8 (b0 : Int), .int .u8 (b1 : Int), .int .u8 (b2 : Int), .int .u8 (b3 : Int), .int .u8 (b4 : Int), .int .u8 (b5 : Int), .int .u8 (b6 : Int)], 76), (w.heap.size, #[.int .u8 (n0 : Int), .int .u8 (n1 : Int), .int .u8 (n2 : Int)], 35)] : List Bx) → b.1 ≠ iJ := by
     intro b hb
     simp only [List.mem_cons, List.not_mem_nil, or_false] at hb
     rcases hb with rfl | rfl | rfl
     · exact Jw
     · have := hlt _ (List.mem_iff_getElem?.2 ⟨0, rfl⟩); dsimp only at this ⊢; omega
     · have := hlt _ (List.mem_iff_getElem?.2 ⟨1, rfl⟩); dsimp only at this ⊢; omega
    replace HS := ae (HS.out.ku k17 MO (by rfl) MQ)
    replace HG := ae (HG.out.box (B := iJ) (T := 40) (cs := #[.bool false, .slice none 0 0, .slice none 0 0]) (fun g hg hc => by obtain ⟨n, hn⟩ := List.mem_iff_getElem?.1 hg; have := ((nJ n g hn).lt hc).1; have := g17; omega))
    simp only [aQ, aT, List.foldl_cons, List.foldl_nil, ag, e4, e9, e12, e13, e14, e15, e16, e17]
    clear hp hd hb hlt e4 e9 e12 e13 e14 e15 e16 e17 nJ
    refine rdA (i := 18) rfl (fun K hK => ?_)
    have jf := (HS.out.at 1 _ _ _ rfl)
    have jJ := af jf 0 (.bool false) rfl
    have lV := af jf 1 (.slice none 0 0) rfl
    have lW := af jf 2 (.slice none 0 0) rfl
    have qC := af jf 3 (.bool false) rfl
    have qE := af jf 4 (.slice none 0 0) rfl
    have qF := af jf 5 (.slice none 0 0) rfl
    have kP := ah jf 0
    have pz := ah jf 1
    have pF := ah jf 2
    have vM := ah jf 3
    have vN := ah jf 4
    have vO := ah jf 5
    have vS := ai jf
    clear jf
    go_simp
    refine hK.out _ _ ((((((HS.out).gp 1 dQ dQ aB aC rfl)).erase 1)).erase 0) (fun hh => ?_)
    clear hK K jJ lV lW qC qE qF kP pz pF vM vN vO vS
    try simp only [ag]
    generalize Uy : ((((((wr4).setCell _ _).setCell _ _).setCell _ _).setCell _ _).setCell _ _).setCell _ _ = W20 at *
    replace HG := ae (((HG.out).gp (HS.out) 1 dQ dQ aB aC rfl).to Uy (by (try simp only [ig, ik]); rfl))
    replace HS := ae (((HS.out).gp 1 dQ dQ aB aC rfl).to Uy (by (try simp only [ig, ik]); rfl))
    clear Uy
    refine rdA (i := 19) rfl (fun K hK => ?_)
    have mX := (HS.out.at 0 _ _ _ rfl)
    have rH := af mX 0 (.bool false) rfl
    have rJ := af mX 1 (.slice none 0 0) rfl
    have rM := af mX 2 (.slice none 0 0) rfl
    have ui := ah mX 0
    have uj := ah mX 1
    have uk := ah mX 2
    have Ji := ai mX
    clear mX
    go_simp
    refine hK.out _ _ ((((((HS.out).oz 0 dQ aI rfl)).erase 1)).erase 0) (fun hh => ?_)
    clear hK K rH rJ rM ui uj uk Ji
    try simp only [ag]
    generalize ais : (((W20).setCell _ _).setCell _ _).setCell _ _ = W21 at *
    replace HG := ae (((HG.out).oz (HS.out) 0 dQ aI rfl).to ais (by (try simp only [ig, ik]); rfl))
    replace HS := ae (((HS.out).oz 0 dQ aI rfl).to ais (by (try simp only [ig, ik]); rfl))
    clear ais
    refine wpAnyH_done (by kernel_rfl) ?_ _
    go_wp2_with fail
    refine wp_region_held_drew (S := (fun w' => Sx w w' [(iJ, aI.arr, 40), (iw, aY aB aC, 43), (wr2.heap.size, #[.int .u8 (b0 : Int), .int .u8 (b1 : Int), .int .u8 (b2 : Int), .int .u8 (b3 : Int), .int .u8 (b4 : Int), .int .u8 (b5 : Int), .int .u8 (b6 : Int)], 76), (w.heap.size, #[.int .u8 (n0 : Int), .int .u8 (n1 : Int), .int .u8 (n2 : Int)], 35)] [])) (by kernel_rfl) ((HS.out.drew).bare) (fun hh => ?_)
    replace HS := ae HS.out.drew
    replace HG := ae (HG.out.below (Below.refl _ _).drew)
    have BM := ae HS.out.bel.size
    refine dF (i := 0) (v := ?aoq) rfl ?ZF ?an_
    case ZF => intro u aH; go_simp <;> with_reducible rfl
    try simp only [ag]
    refine dF (i := 1) (v := ?aor) rfl ?ZG ?aoa
    case ZG => intro u aH; go_simp <;> with_reducible rfl
    try simp only [ag]
    refine dF (i := 2) (v := ?aos) rfl ?ZH ?aob
    case ZH => intro u aH; (try dsimp only at aH); have gU := (aH.at 2 _ _ _ rfl); have rC := af gU 0 (.int .u8 (b0 : Int)) rfl; have rD := af gU 1 (.int .u8 (b1 : Int)) rfl; have rE := af gU 2 (.int .u8 (b2 : Int)) rfl; have xw := af gU 3 (.int .u8 (b3 : Int)) rfl; have xx := af gU 4 (.int .u8 (b4 : Int)) rfl; have xy := af gU 5 (.int .u8 (b5 : Int)) rfl; have NR := af gU 6 (.int .u8 (b6 : Int)) rfl; clear gU; clear aH; go_simp <;> with_reducible rfl
    try simp only [ag]
    refine dF (i := 3) (v := ?auN) rfl ?apY ?aue
    case apY => intro u aH; go_simp <;> with_reducible rfl
    try simp only [ag]
    refine dF (i := 4) (v := ?auO) rfl ?apZ ?auf
    case apZ => intro u aH; go_simp <;> with_reducible rfl
    try simp only [ag]
    refine dF (i := 5) (v := ?ar6) rfl ?ai3 ?aru
    case ai3 => intro u aH; go_simp <;> with_reducible rfl
    try simp only [ag]
    refine dF (i := 7) (v := ?ar7) rfl ?ai4 ?arv
    case ai4 => intro u aH; go_simp <;> with_reducible rfl
    try simp only [ag]
    refine dF (i := 8) (v := ?ar8) rfl ?ai5 ?arw
    case ai5 => intro u aH; go_simp <;> with_reducible rfl
    try simp only [ag]
    refine dF (i := 9) (v := ?ar9) rfl ?hk31 ?arx
    case hk31 => intro u aH; (try dsimp only at aH); have gU := (aH.at 2 _ _ _ rfl); have rC := af gU 0 (.int .u8 (b0 : Int)) rfl; have rD := af gU 1 (.int .u8 (b1 : Int)) rfl; have rE := af gU 2 (.int .u8 (b2 : Int)) rfl; have xw := af gU 3 (.int .u8 (b3 : Int)) rfl; have xx := af gU 4 (.int .u8 (b4 : Int)) rfl; have xy := af gU 5 (.int .u8 (b5 : Int)) rfl; have NR := af gU 6 (.int .u8 (b6 : Int)) rfl; clear gU; clear aH; go_simp <;> with_reducible rfl
    try simp only [ag]
    refine dF (i := 10) (v := ?aot) rfl ?ZI ?aoc
    case ZI => intro u aH; go_simp <;> with_reducible rfl
    try simp only [ag]
    refine dF (i := 12) (v := ?aou) rfl ?ZJ ?aod
    case ZJ => intro u aH; go_simp <;> with_reducible rfl
    try simp only [ag]
    refine dF (i := 13) (v := ?aov) rfl ?ZK ?aoe
    case ZK => intro u aH; (try dsimp only at aH); have fH := (aH.at 3 _ _ _ rfl); have kH := af fH 0 (.int .u8 (n0 : Int)) rfl; have kJ := af fH 1 (.int .u8 (n1 : Int)) rfl; have kK := af fH 2 (.int .u8 (n2 : Int)) rfl; clear fH; clear aH; go_simp <;> with_reducible rfl
    try simp only [ag]
    refine dY [6, 11, 14, 15, 16, 17, 18, 19] [6, 11, 14, 18, 19] [15, 16, 17] [46, 51, 54, 39, 55, 56, 12, 13] #[true, true, true, true, true, true, true, true, true, true, true, true, true, true, true, true, true, true, true, true, false, false] 2 [(6, 46), (11, 51), (14, 54), (15, 39), (16, 55), (17, 56), (18, 12), (19, 13)] [(6, []), (11, [6]), (14, [6, 11]), (15, [14]), (16, [15]), (17, [15]), (18, []), (19, [])] [18, 19] [(6, fun v w => ∃ z35 : R3, v = z35.val ∧ Fr true w z35.val t0), (11, fun v w => ∃ z36 : R3, v = z36.val ∧ Fr true w z36.val tw), (14, fun v w => ∃ iT iU xH : R3, v = .tuple #[.agg #[.bool iT.b, .slice iT.a iT.n iT.c, .slice iT.d iT.m iT.e, .bool iU.b, .slice iU.a iU.n iU.c, .slice iU.d iU.m iU.e], xH.val] ∧ Fr true w iT.val t0 ∧ Fr true w iU.val t1 ∧ Fr true w xH.val xt), (15, fun v w => ∃ bH bI jd : R3, v = .tuple #[.agg #[.bool bH.b, .slice bH.a bH.n bH.c, .slice bH.d bH.m bH.e, .bool bI.b, .slice bI.a bI.n bI.c, .slice bI.d bI.m bI.e], jd.val] ∧ Fr true w bH.val t0 ∧ Fr true w bI.val t1 ∧ Fr true w jd.val xt), (16, fun v w => ∃ aF aG : R3, v = .agg #[.bool aF.b, .slice aF.a aF.n aF.c, .slice aF.d aF.m aF.e, .bool aG.b, .slice aG.a aG.n aG.c, .slice aG.d aG.m aG.e] ∧ Fr true w aF.val t0 ∧ Fr true w aG.val t1), (17, fun v w => ∃ aN : R3, v = aN.val ∧ Fr true w aN.val xt), (18, fun v w => ∃ gu : Nat, v = .pointer (some ⟨gu, 0, none⟩) ∧ W21.drew.heap.size ≤ gu ∧ w.heap[gu]? = some (.cells #[.bool false, .slice none 0 0, .slice none 0 0, .bool false, .slice none 0 0, .slice none 0 0] 43 (0, 0))), (19, fun v w => ∃ gV : Nat, v = .pointer (some ⟨gV, 0, none⟩) ∧ W21.drew.heap.size ≤ gV ∧ w.heap[gV]? = some (.cells #[.bool false, .slice none 0 0, .slice none 0 0] 40 (0, 0)))]
     rfl (by kernel_rfl) (by decide) rfl ⟨(fun v w w' hb ⟨z0, e, h0⟩ => ⟨z0, e, Fr.below h0 hb⟩), ⟨(fun v w w' hb ⟨z0, e, h0⟩ => ⟨z0, e, Fr.below h0 hb⟩), ⟨(fun v w w' hb ⟨z0, z1, z2, e, h0, h1, h2⟩ => ⟨z0, z1, z2, e, Fr.below h0 hb, Fr.below h1 hb, Fr.below h2 hb⟩), ⟨(fun v w w' hb ⟨z0, z1, z2, e, h0, h1, h2⟩ => ⟨z0, z1, z2, e, Fr.below h0 hb, Fr.below h1 hb, Fr.below h2 hb⟩), ⟨(fun v w w' hb ⟨z0, z1, e, h0, h1⟩ => ⟨z0, z1, e, Fr.below h0 hb, Fr.below h1 hb⟩), ⟨(fun v w w' hb ⟨z0, e, h0⟩ => ⟨z0, e, Fr.below h0 hb⟩), ⟨(fun v w w' hb ⟨B, e, g, k⟩ => ⟨B, e, g, ay k hb (ai k)⟩), ⟨(fun v w w' hb ⟨B, e, g, k⟩ => ⟨B, e, g, ay k hb (ai k)⟩), trivial⟩⟩⟩⟩⟩⟩⟩⟩ ⟨fun v w ⟨B, e, g, k⟩ => ⟨B, e, ai k⟩, ⟨fun v w ⟨B, e, g, k⟩ => ⟨B, e, ai k⟩, trivial⟩⟩ (fun w' hb => Sx.below hh hb) ⟨?_, ?_, ?_, ?_, ?_, trivial⟩ ⟨?_, ?_, ?_, trivial⟩ (by decide) ?_
    ·
     refine dI.of rfl (fun f w' hb hp K hK => ?_)
     have pJ := HS
     replace HS := ae (HS.out.below hb)
     simp only [aQ, aT, List.foldl_cons, List.foldl_nil, ag]
     go_simp
     go_wp2_with (go_at_call 7; (with_reducible refine (HP3.out _).mono ?_); rintro e w35 ⟨v35, rfl, UO, Zn⟩; obtain ⟨z35, rfl⟩ := UO.bn)
     exact hK.out _ _ (z35.val) (by simp only [aQ, aT, List.foldl_cons, List.foldl_nil, ag]) ⟨z35, rfl, UO⟩ (fun h => absurd h (by decide)) Zn
    ·
     refine dI.of rfl (fun f w' hb hp K hK => ?_)
     have pJ := HS
     replace HS := ae (HS.out.below hb)
     simp only [aQ, aT, List.foldl_cons, List.foldl_nil, ag]
     go_simp
     go_wp2_with (go_at_call 7; (with_reducible refine (HP4.out _).mono ?_); rintro e w36 ⟨v36, rfl, aep, aiI⟩; obtain ⟨z36, rfl⟩ := aep.bn)
     exact hK.out _ _ (z36.val) (by simp only [aQ, aT, List.foldl_cons, List.foldl_nil, ag]) ⟨z36, rfl, aep⟩ (fun h => absurd h (by decide)) aiI
    ·
     refine dI.of rfl (fun f w' hb hp K hK => ?_)
     obtain ⟨z35, e6, wK⟩ : ∃ z35 : R3, f 46 = z35.val ∧ Fr true w' z35.val t0 := hp 6 (by decide)
     obtain ⟨z36, e11, Y3⟩ : ∃ z36 : R3, f 51 = z36.val ∧ Fr true w' z36.val tw := hp 11 (by decide)
     have pJ := HS
     replace HS := ae (HS.out.below hb)
     replace HS := ae (HS.out.az wK)
     replace HS := ae (HS.out.az Y3)
     simp only [aQ, aT, List.foldl_cons, List.foldl_nil, ag, e6, e11]
     have a38 := HS.out.p 1 _ _ rfl
     have a39 := HS.out.p 0 _ _ rfl
     go_simp
     go_wp2_with (go_at_call 18; (with_reducible refine (aoP.out _ _ _ a38 a39).mono ?_); rintro e w37 ⟨iT, iU, xH, rfl, am9, am', am_, apI⟩)
     exact hK.out _ _ (.tuple #[.agg #[.bool iT.b, .slice iT.a iT.n iT.c, .slice iT.d iT.m iT.e, .bool iU.b, .slice iU.a iU.n iU.c, .slice iU.d iU.m iU.e], xH.val]) (by simp only [aQ, aT, List.foldl_cons, List.foldl_nil, ag, e6, e11]) ⟨iT, iU, xH, rfl, am9, am', am_⟩ (fun h => absurd h (by decide)) apI
    ·
     refine dI.of rfl (fun f w' hb hp K hK => ?_)
     have pJ := HS
     replace HS := ae (HS.out.below hb)
     simp only [aQ, aT, List.foldl_cons, List.foldl_nil, ag]
     go_simp
     exact hK.out _ _ (.pointer (some ⟨w'.heap.size, 0, none⟩)) (by simp only [aQ, aT, List.foldl_cons, List.foldl_nil, ag]) ⟨_, rfl, hb.size, aV _ _ _⟩ (fun _ => rfl) (gJ w' _)
    ·
     refine dI.of rfl (fun f w' hb hp K hK => ?_)
     have pJ := HS
     replace HS := ae (HS.out.below hb)
     simp only [aQ, aT, List.foldl_cons, List.foldl_nil, ag]
     go_simp
     exact hK.out _ _ (.pointer (some ⟨w'.heap.size, 0, none⟩)) (by simp only [aQ, aT, List.foldl_cons, List.foldl_nil, ag]) ⟨_, rfl, hb.size, aV _ _ _⟩ (fun _ => rfl) (gJ w' _)
    ·
     refine mY.of rfl (fun f w' hb hp => ?_)
     obtain ⟨iT, iU, xH, e14, wH, Eu, Y4⟩ : ∃ iT iU xH : R3, f 54 = .tuple #[.agg #[.bool iT.b, .slice iT.a iT.n iT.c, .slice iT.d iT.m iT.e, .bool iU.b, .slice iU.a iU.n iU.c, .slice iU.d iU.m iU.e], xH.val] ∧ Fr true w' iT.val t0 ∧ Fr true w' iU.val t1 ∧ Fr true w' xH.val xt := hp 14 (by decide)
     refine ⟨.tuple #[.agg #[.bool iT.b, .slice iT.a iT.n iT.c, .slice iT.d iT.m iT.e, .bool iU.b, .slice iU.a iU.n iU.c, .slice iU.d iU.m iU.e], xH.val], ⟨iT, iU, xH, rfl, wH, Eu, Y4⟩, by first | rfl | kernel_rfl, fun u => ?_⟩
     simp only [aQ, aT, List.foldl_cons, List.foldl_nil, ag, e14]
     go_simp <;> with_reducible rfl
    ·
     refine mY.of rfl (fun f w' hb hp => ?_)
     obtain ⟨bH, bI, jd, e15, uO, SB, SC⟩ : ∃ bH bI jd : R3, f 39 = .tuple #[.agg #[.bool bH.b, .slice bH.a bH.n bH.c, .slice bH.d bH.m bH.e, .bool bI.b, .slice bI.a bI.n bI.c, .slice bI.d bI.m bI.e], jd.val] ∧ Fr true w' bH.val t0 ∧ Fr true w' bI.val t1 ∧ Fr true w' jd.val xt := hp 15 (by decide)
     refine ⟨.agg #[.bool bH.b, .slice bH.a bH.n bH.c, .slice bH.d bH.m bH.e, .bool bI.b, .slice bI.a bI.n bI.c, .slice bI.d bI.m bI.e], ⟨bH, bI, rfl, uO, SB⟩, by first | rfl | kernel_rfl, fun u => ?_⟩
     simp only [aQ, aT, List.foldl_cons, List.foldl_nil, ag, e15]
     go_simp <;> with_reducible rfl
    ·
     refine mY.of rfl (fun f w' hb hp => ?_)
     obtain ⟨bH, bI, jd, e15, uO, SB, SC⟩ : ∃ bH bI jd : R3, f 39 = .tuple #[.agg #[.bool bH.b, .slice bH.a bH.n bH.c, .slice bH.d bH.m bH.e, .bool bI.b, .slice bI.a bI.n bI.c, .slice bI.d bI.m bI.e], jd.val] ∧ Fr true w' bH.val t0 ∧ Fr true w' bI.val t1 ∧ Fr true w' jd.val xt := hp 15 (by decide)
     refine ⟨jd.val, ⟨jd, rfl, SC⟩, by first | rfl | kernel_rfl, fun u => ?_⟩
     simp only [aQ, aT, List.foldl_cons, List.foldl_nil, ag, e15]
     go_simp <;> with_reducible rfl
    ·
     intro f zZ hb hp hd
     obtain ⟨z35, e6, wK⟩ : ∃ z35 : R3, f 46 = z35.val ∧ Fr true zZ z35.val t0 := hp 6 (by decide)
     obtain ⟨z36, e11, Y3⟩ : ∃ z36 : R3, f 51 = z36.val ∧ Fr true zZ z36.val tw := hp 11 (by decide)
     obtain ⟨iT, iU, xH, e14, wH, Eu, Y4⟩ : ∃ iT iU xH : R3, f 54 = .tuple #[.agg #[.bool iT.b, .slice iT.a iT.n iT.c, .slice iT.d iT.m iT.e, .bool iU.b, .slice iU.a iU.n iU.c, .slice iU.d iU.m iU.e], xH.val] ∧ Fr true zZ iT.val t0 ∧ Fr true zZ iU.val t1 ∧ Fr true zZ xH.val xt := hp 14 (by decide)
     obtain ⟨bH, bI, jd, e15, uO, SB, SC⟩ : ∃ bH bI jd : R3, f 39 = .tuple #[.agg #[.bool bH.b, .slice bH.a bH.n bH.c, .slice bH.d bH.m bH.e, .bool bI.b, .slice bI.a bI.n bI.c, .slice bI.d bI.m bI.e], jd.val] ∧ Fr true zZ bH.val t0 ∧ Fr true zZ bI.val t1 ∧ Fr true zZ jd.val xt := hp 15 (by decide)
     obtain ⟨aF, aG, e16, Y5, Y6⟩ : ∃ aF aG : R3, f 55 = .agg #[.bool aF.b, .slice aF.a aF.n aF.c, .slice aF.d aF.m aF.e, .bool aG.b, .slice aG.a aG.n aG.c, .slice aG.d aG.m aG.e] ∧ Fr true zZ aF.val t0 ∧ Fr true zZ aG.val t1 := hp 16 (by decide)
     obtain ⟨aN, e17, alZ⟩ : ∃ aN : R3, f 56 = aN.val ∧ Fr true zZ aN.val xt := hp 17 (by decide)
     obtain ⟨gu, e18, g18, k18⟩ : ∃ gu : Nat, f 12 = .pointer (some ⟨gu, 0, none⟩) ∧ W21.drew.heap.size ≤ gu ∧ zZ.heap[gu]? = some (.cells #[.bool false, .slice none 0 0, .slice none 0 0, .bool false, .slice none 0 0, .slice none 0 0] 43 (0, 0)) := hp 18 (by decide)
     obtain ⟨gV, e19, g19, k19⟩ : ∃ gV : Nat, f 13 = .pointer (some ⟨gV, 0, none⟩) ∧ W21.drew.heap.size ≤ gV ∧ zZ.heap[gV]? = some (.cells #[.bool false, .slice none 0 0, .slice none 0 0] 40 (0, 0)) := hp 19 (by decide)
     have aek : gu ≠ gV := fun h => hd 18 19 (by decide) (by decide) (by decide) (by decide) (by decide) (by show f 12 = f 13; rw [e18, e19, h])
     replace hh := Sx.below hh hb
     have hlt := HS.out.lt
     replace HS := ae (HS.out.below hb)
     have nJ := HG.out.row
     replace HG := ae (HG.out.below hb)
     replace HS := ae (HS.out.az wK)
     replace HS := ae (HS.out.az Y3)
     replace HS := ae (HS.out.az wH)
     replace HS := ae (HS.out.az Eu)
     replace HS := ae (HS.out.az Y4)
     replace HS := ae (HS.out.az uO)
     replace HS := ae (HS.out.az SB)
     replace HS := ae (HS.out.az SC)
     replace HS := ae (HS.out.az Y5)
     replace HS := ae (HS.out.az Y6)
     replace HS := ae (HS.out.az alZ)
     have amr : w.heap.size ≤ gu := Nat.le_trans BM.out g18
     have amU : ∀ b, b ∈ ([(iJ, aI.arr, 40), (iw, aY aB aC, 43), (wr2.heap.size, #[.int .u8 (b0 : Int), .int .u8 (b1 : Int), .int .u8 (b2 : Int), .int .u8 (b3 : Int), .int .u8 (b4 : Int), .int .u8 (b5 : Int), .int .u8 (b6 : Int)], 76), (w.heap.size, #[.int .u8 (n0 : Int), .int .u8 (n1 : Int), .int .u8 (n2 : Int)], 35)] : List Bx) → b.1 ≠ gu := by
      intro b hb
      simp only [List.mem_cons, List.not_mem_nil, or_false] at hb
      rcases hb with rfl | rfl | rfl | rfl
      · have := hlt _ (List.mem_iff_getElem?.2 ⟨0, rfl⟩); dsimp only at this ⊢; omega
      · have := hlt _ (List.mem_iff_getElem?.2 ⟨1, rfl⟩); dsimp only at this ⊢; omega
      · have := hlt _ (List.mem_iff_getElem?.2 ⟨2, rfl⟩); dsimp only at this ⊢; omega
      · have := hlt _ (List.mem_iff_getElem?.2 ⟨3, rfl⟩); dsimp only at this ⊢; omega
     replace HS := ae (HS.out.ku k18 amr (by rfl) amU)
     replace HG := ae (HG.out.box (B := gu) (T := 43) (cs := #[.bool false, .slice none 0 0, .slice none 0 0, .bool false, .slice none 0 0, .slice none 0 0]) (fun g hg hc => by obtain ⟨n, hn⟩ := List.mem_iff_getElem?.1 hg; have := ((nJ n g hn).lt hc).1; have := g18; omega))
     have ams : w.heap.size ≤ gV := Nat.le_trans BM.out g19
     have amV : ∀ b, b ∈ ([(gu, #[.bool false, .slice none 0 0, .slice none 0 0, .bool false, .slice none 0 0, .slice none 0 0], 43), (iJ, aI.arr, 40), (iw, aY aB aC, 43), (wr2.heap.size, #[.int .u8 (b0 : Int), .int .u8 (b1 : Int), .int .u8 (b2 : Int), .int .u8 (b3 : Int), .int .u8 (b4 : Int), .int .u8 (b5 : Int), .int .u8 (b6 : Int)], 76), (w.heap.size, #[.int .u8 (n0 : Int), .int .u8 (n1 : Int), .int .u8 (n2 : Int)], 35)] : List Bx) → b.1 ≠ gV := by
      intro b hb
      simp only [List.mem_cons, List.not_mem_nil, or_false] at hb
      rcases hb with rfl | rfl | rfl | rfl | rfl
      · exact aek
      · have := hlt _ (List.mem_iff_getElem?.2 ⟨0, rfl⟩); dsimp only at this ⊢; omega
      · have := hlt _ (List.mem_iff_getElem?.2 ⟨1, rfl⟩); dsimp only at this ⊢; omega
      · have := hlt _ (List.mem_iff_getElem?.2 ⟨2, rfl⟩); dsimp only at this ⊢; omega
      · have := hlt _ (List.mem_iff_getElem?.2 ⟨3, rfl⟩); dsimp only at this ⊢; omega
     replace HS := ae (HS.out.ku k19 ams (by rfl) amV)
     replace HG := ae (HG.out.box (B := gV) (T := 40) (cs := #[.bool false, .slice none 0 0, .slice none 0 0]) (fun g hg hc => by obtain ⟨n, hn⟩ := List.mem_iff_getElem?.1 hg; have := ((nJ n g hn).lt hc).1; have := g19; omega))
     simp only [aQ, aT, List.foldl_cons, List.foldl_nil, ag, e6, e11, e14, e15, e16, e17, e18, e19]
     clear hp hd hb hlt e6 e11 e14 e15 e16 e17 e18 e19 nJ
     refine rdA (i := 20) rfl (fun K hK => ?_)
     have um := (HS.out.at 1 _ _ _ rfl)
     have BP := af um 0 (.bool false) rfl
     have LH := af um 1 (.slice none 0 0) rfl
     have LJ := af um 2 (.slice none 0 0) rfl
     have Uc := af um 3 (.bool false) rfl
     have Ud := af um 4 (.slice none 0 0) rfl
     have Ue := af um 5 (.slice none 0 0) rfl
     have DN := ah um 0
     have OM := ah um 1
     have OO := ah um 2
     have Yg := ah um 3
     have Yh := ah um 4
     have Yi := ah um 5
     have Yj := ai um
     clear um
     go_simp
     refine hK.out _ _ ((((((HS.out).gp 1 dQ dQ aF aG rfl)).erase 1)).erase 0) (fun hh => ?_)
     clear hK K BP LH LJ Uc Ud Ue DN OM OO Yg Yh Yi Yj
     try simp only [ag]
     generalize aiu : ((((((zZ).setCell _ _).setCell _ _).setCell _ _).setCell _ _).setCell _ _).setCell _ _ = W40 at *
     replace HG := ae (((HG.out).gp (HS.out) 1 dQ dQ aF aG rfl).to aiu (by (try simp only [ig, ik]); rfl))
     replace HS := ae (((HS.out).gp 1 dQ dQ aF aG rfl).to aiu (by (try simp only [ig, ik]); rfl))
     clear aiu
     refine rdA (i := 21) rfl (fun K hK => ?_)
     have b5e := (HS.out.at 0 _ _ _ rfl)
     have ahP := af b5e 0 (.bool false) rfl
     have ahQ := af b5e 1 (.slice none 0 0) rfl
     have ahR := af b5e 2 (.slice none 0 0) rfl
     have ahS := ah b5e 0
     have ahT := ah b5e 1
     have ahU := ah b5e 2
     have b5l := ai b5e
     clear b5e
     go_simp
     refine hK.out _ _ ((((((HS.out).oz 0 dQ aN rfl)).erase 1)).erase 0) (fun hh => ?_)
     clear hK K ahP ahQ ahR ahS ahT ahU b5l
     try simp only [ag]
     generalize MH : (((W40).setCell _ _).setCell _ _).setCell _ _ = W41 at *
     replace HG := ae (((HG.out).oz (HS.out) 0 dQ aN rfl).to MH (by (try simp only [ig, ik]); rfl))
     replace HS := ae (((HS.out).oz 0 dQ aN rfl).to MH (by (try simp only [ig, ik]); rfl))
     clear MH
     refine wpAnyH_done (by kernel_rfl) ?_ _
     have gW := (HS.out.at 4 _ _ _ rfl)
     have kC := af gW 0 (.int .u8 (b0 : Int)) rfl
     have kD := af gW 1 (.int .u8 (b1 : Int)) rfl
     have qB := af gW 2 (.int .u8 (b2 : Int)) rfl
     have Am := af gW 3 (.int .u8 (b3 : Int)) rfl
     have Ap := af gW 4 (.int .u8 (b4 : Int)) rfl
     have Aq := af gW 5 (.int .u8 (b5 : Int)) rfl
     have ao_ := af gW 6 (.int .u8 (b6 : Int)) rfl
     have lT := ah gW 0
     have lU := ah gW 1
     have vK := ah gW 2
     have Jf := ah gW 3
     have Jg := ah gW 4
     have Jh := ah gW 5
     have apa := ah gW 6
     have yO := ai gW
     clear gW
     go_wp2_with fail
     clear kC kD qB Am Ap Aq ao_ lT lU vK Jf Jg Jh apa yO
     refine wp_region_held_drew (S := (fun w' => Sx w w' [(gV, aN.arr, 40), (gu, aY aF aG, 43), (iJ, aI.arr, 40), (iw, aY aB aC, 43), (wr2.heap.size, #[.int .u8 (b0 : Int), .int .u8 (b1 : Int), .int .u8 (b2 : Int), .int .u8 (b3 : Int), .int .u8 (b4 : Int), .int .u8 (b5 : Int), .int .u8 (b6 : Int)], 76), (w.heap.size, #[.int .u8 (n0 : Int), .int .u8 (n1 : Int), .int .u8 (n2 : Int)], 35)] [])) (by kernel_rfl) ((HS.out.drew).bare) (fun hh => ?_)
     replace HS := ae HS.out.drew
     replace HG := ae (HG.out.below (Below.refl _ _).drew)
     have BM := ae HS.out.bel.size
     refine dF (i := 0) (v := ?aow) rfl ?ZL ?aof
     case ZL => intro u aH; go_simp <;> with_reducible rfl
     try simp only [ag]
     refine dF (i := 2) (v := ?ar_) rfl ?ai7 ?arz
     case ai7 => intro u aH; go_simp <;> with_reducible rfl
     try simp only [ag]
     refine dF (i := 3) (v := ?asa) rfl ?ai8 ?arA
     case ai8 => intro u aH; go_simp <;> with_reducible rfl
     try simp only [ag]
     refine dF (i := 4) (v := ?asb) rfl ?ai9 ?arB
     case ai9 => intro u aH; (try dsimp only at aH); have gU := (aH.at 4 _ _ _ rfl); have rC := af gU 0 (.int .u8 (b0 : Int)) rfl; have rD := af gU 1 (.int .u8 (b1 : Int)) rfl; have rE := af gU 2 (.int .u8 (b2 : Int)) rfl; have xw := af gU 3 (.int .u8 (b3 : Int)) rfl; have xx := af gU 4 (.int .u8 (b4 : Int)) rfl; have xy := af gU 5 (.int .u8 (b5 : Int)) rfl; have NR := af gU 6 (.int .u8 (b6 : Int)) rfl; clear gU; clear aH; go_simp <;> with_reducible rfl
     try simp only [ag]
     refine dF (i := 5) (v := ?asc) rfl ?ai' ?arC
     case ai' => intro u aH; go_simp <;> with_reducible rfl
     try simp only [ag]
     refine dF (i := 6) (v := ?ase) rfl ?ai_ ?arD
     case ai_ => intro u aH; go_simp <;> with_reducible rfl
     try simp only [ag]
     refine dF (i := 7) (v := ?asf) rfl ?aja ?arE
     case aja => intro u aH; go_simp <;> with_reducible rfl
     try simp only [ag]
     refine dF (i := 8) (v := ?ash) rfl ?ajb ?arF
     case ajb => intro u aH; go_simp <;> with_reducible rfl
     try simp only [ag]
     refine dF (i := 10) (v := ?asi) rfl ?ajc ?arG
     case ajc => intro u aH; go_simp <;> with_reducible rfl
     try simp only [ag]
     refine dF (i := 11) (v := ?asj) rfl ?ajd ?arH
     case ajd => intro u aH; (try dsimp only at aH); have fH := (aH.at 5 _ _ _ rfl); have kH := af fH 0 (.int .u8 (n0 : Int)) rfl; have kJ := af fH 1 (.int .u8 (n1 : Int)) rfl; have kK := af fH 2 (.int .u8 (n2 : Int)) rfl; clear fH; clear aH; go_simp <;> with_reducible rfl
     try simp only [ag]
     refine dY [1, 9, 12, 13, 14, 15, 16, 17] [1, 9, 12, 16, 17] [13, 14, 15] [64, 72, 75, 62, 76, 77, 15, 16] #[true, true, true, true, true, true, true, true, true, true, true, true, true, true, true, true, true, true, false, false] 2 [(1, 64), (9, 72), (12, 75), (13, 62), (14, 76), (15, 77), (16, 15), (17, 16)] [(1, []), (9, [1]), (12, [1, 9]), (13, [12]), (14, [13]), (15, [13]), (16, []), (17, [])] [16, 17] [(1, fun v w => ∃ z53 : R3, v = z53.val ∧ Fr true w z53.val c0), (9, fun v w => ∃ z54 : R3, v = z54.val ∧ Fr true w z54.val cw), (12, fun v w => ∃ iV iW xI : R3, v = .tuple #[.agg #[.bool iV.b, .slice iV.a iV.n iV.c, .slice iV.d iV.m iV.e, .bool iW.b, .slice iW.a iW.n iW.c, .slice iW.d iW.m iW.e], xI.val] ∧ Fr true w iV.val c0 ∧ Fr true w iW.val c1 ∧ Fr true w xI.val xc), (13, fun v w => ∃ bJ bK je : R3, v = .tuple #[.agg #[.bool bJ.b, .slice bJ.a bJ.n bJ.c, .slice bJ.d bJ.m bJ.e, .bool bK.b, .slice bK.a bK.n bK.c, .slice bK.d bK.m bK.e], je.val] ∧ Fr true w bJ.val c0 ∧ Fr true w bK.val c1 ∧ Fr true w je.val xc), (14, fun v w => ∃ aJ aK : R3, v = .agg #[.bool aJ.b, .slice aJ.a aJ.n aJ.c, .slice aJ.d aJ.m aJ.e, .bool aK.b, .slice aK.a aK.n aK.c, .slice aK.d aK.m aK.e] ∧ Fr true w aJ.val c0 ∧ Fr true w aK.val c1), (15, fun v w => ∃ aP : R3, v = aP.val ∧ Fr true w aP.val xc), (16, fun v w => ∃ i_ : Nat, v = .pointer (some ⟨i_, 0, none⟩) ∧ W41.drew.heap.size ≤ i_ ∧ w.heap[i_]? = some (.cells #[.bool false, .slice none 0 0, .slice none 0 0, .bool false, .slice none 0 0, .slice none 0 0] 43 (0, 0))), (17, fun v w => ∃ jr : Nat, v = .pointer (some ⟨jr, 0, none⟩) ∧ W41.drew.heap.size ≤ jr ∧ w.heap[jr]? = some (.cells #[.bool false, .slice none 0 0, .slice none 0 0] 40 (0, 0)))]
      rfl (by kernel_rfl) (by decide) rfl ⟨(fun v w w' hb ⟨z0, e, h0⟩ => ⟨z0, e, Fr.below h0 hb⟩), ⟨(fun v w w' hb ⟨z0, e, h0⟩ => ⟨z0, e, Fr.below h0 hb⟩), ⟨(fun v w w' hb ⟨z0, z1, z2, e, h0, h1, h2⟩ => ⟨z0, z1, z2, e, Fr.below h0 hb, Fr.below h1 hb, Fr.below h2 hb⟩), ⟨(fun v w w' hb ⟨z0, z1, z2, e, h0, h1, h2⟩ => ⟨z0, z1, z2, e, Fr.below h0 hb, Fr.below h1 hb, Fr.below h2 hb⟩), ⟨(fun v w w' hb ⟨z0, z1, e, h0, h1⟩ => ⟨z0, z1, e, Fr.below h0 hb, Fr.below h1 hb⟩), ⟨(fun v w w' hb ⟨z0, e, h0⟩ => ⟨z0, e, Fr.below h0 hb⟩), ⟨(fun v w w' hb ⟨B, e, g, k⟩ => ⟨B, e, g, ay k hb (ai k)⟩), ⟨(fun v w w' hb ⟨B, e, g, k⟩ => ⟨B, e, g, ay k hb (ai k)⟩), trivial⟩⟩⟩⟩⟩⟩⟩⟩ ⟨fun v w ⟨B, e, g, k⟩ => ⟨B, e, ai k⟩, ⟨fun v w ⟨B, e, g, k⟩ => ⟨B, e, ai k⟩, trivial⟩⟩ (fun w' hb => Sx.below hh hb) ⟨?_, ?_, ?_, ?_, ?_, trivial⟩ ⟨?_, ?_, ?_, trivial⟩ (by decide) ?_
     ·
      refine dI.of rfl (fun f w' hb hp K hK => ?_)
      have pJ := HS
      replace HS := ae (HS.out.below hb)
      simp only [aQ, aT, List.foldl_cons, List.foldl_nil, ag]
      go_simp
      go_wp2_with (go_at_call 7; (with_reducible refine (HP5.out _).mono ?_); rintro e w53 ⟨v53, rfl, UR, MK⟩; obtain ⟨z53, rfl⟩ := UR.bn)
      exact hK.out _ _ (z53.val) (by simp only [aQ, aT, List.foldl_cons, List.foldl_nil, ag]) ⟨z53, rfl, UR⟩ (fun h => absurd h (by decide)) MK
     ·
      refine dI.of rfl (fun f w' hb hp K hK => ?_)
      have pJ := HS
      replace HS := ae (HS.out.below hb)
      simp only [aQ, aT, List.foldl_cons, List.foldl_nil, ag]
      go_simp
      go_wp2_with (go_at_call 7; (with_reducible refine (HP6.out _).mono ?_); rintro e w54 ⟨v54, rfl, anb, ML⟩; obtain ⟨z54, rfl⟩ := anb.bn)
      exact hK.out _ _ (z54.val) (by simp only [aQ, aT, List.foldl_cons, List.foldl_nil, ag]) ⟨z54, rfl, anb⟩ (fun h => absurd h (by decide)) ML
     ·
      refine dI.of rfl (fun f w' hb hp K hK => ?_)
      obtain ⟨z53, e1, Ew⟩ : ∃ z53 : R3, f 64 = z53.val ∧ Fr true w' z53.val c0 := hp 1 (by decide)
      obtain ⟨z54, e9, Ar⟩ : ∃ z54 : R3, f 72 = z54.val ∧ Fr true w' z54.val cw := hp 9 (by decide)
      have pJ := HS
      replace HS := ae (HS.out.below hb)
      replace HS := ae (HS.out.az Ew)
      replace HS := ae (HS.out.az Ar)
      simp only [aQ, aT, List.foldl_cons, List.foldl_nil, ag, e1, e9]
      have a56 := HS.out.p 1 _ _ rfl
      have a57 := HS.out.p 0 _ _ rfl
      go_simp
      go_wp2_with (go_at_call 18; (with_reducible refine (aoQ.out _ _ _ a56 a57).mono ?_); rintro e WW ⟨iV, iW, xI, rfl, anc, ane, anf, Au⟩)
      exact hK.out _ _ (.tuple #[.agg #[.bool iV.b, .slice iV.a iV.n iV.c, .slice iV.d iV.m iV.e, .bool iW.b, .slice iW.a iW.n iW.c, .slice iW.d iW.m iW.e], xI.val]) (by simp only [aQ, aT, List.foldl_cons, List.foldl_nil, ag, e1, e9]) ⟨iV, iW, xI, rfl, anc, ane, anf⟩ (fun h => absurd h (by decide)) Au
     ·
      refine dI.of rfl (fun f w' hb hp K hK => ?_)
      have pJ := HS
      replace HS := ae (HS.out.below hb)
      simp only [aQ, aT, List.foldl_cons, List.foldl_nil, ag]
      go_simp
      exact hK.out _ _ (.pointer (some ⟨w'.heap.size, 0, none⟩)) (by simp only [aQ, aT, List.foldl_cons, List.foldl_nil, ag]) ⟨_, rfl, hb.size, aV _ _ _⟩ (fun _ => rfl) (gJ w' _)
     ·
      refine dI.of rfl (fun f w' hb hp K hK => ?_)
      have pJ := HS
      replace HS := ae (HS.out.below hb)
      simp only [aQ, aT, List.foldl_cons, List.foldl_nil, ag]
      go_simp
      exact hK.out _ _ (.pointer (some ⟨w'.heap.size, 0, none⟩)) (by simp only [aQ, aT, List.foldl_cons, List.foldl_nil, ag]) ⟨_, rfl, hb.size, aV _ _ _⟩ (fun _ => rfl) (gJ w' _)
     ·
      refine mY.of rfl (fun f w' hb hp => ?_)
      obtain ⟨iV, iW, xI, e12, Ep, Es, Et⟩ : ∃ iV iW xI : R3, f 75 = .tuple #[.agg #[.bool iV.b, .slice iV.a iV.n iV.c, .slice iV.d iV.m iV.e, .bool iW.b, .slice iW.a iW.n iW.c, .slice iW.d iW.m iW.e], xI.val] ∧ Fr true w' iV.val c0 ∧ Fr true w' iW.val c1 ∧ Fr true w' xI.val xc := hp 12 (by decide)
      refine ⟨.tuple #[.agg #[.bool iV.b, .slice iV.a iV.n iV.c, .slice iV.d iV.m iV.e, .bool iW.b, .slice iW.a iW.n iW.c, .slice iW.d iW.m iW.e], xI.val], ⟨iV, iW, xI, rfl, Ep, Es, Et⟩, by first | rfl | kernel_rfl, fun u => ?_⟩
      simp only [aQ, aT, List.foldl_cons, List.foldl_nil, ag, e12]
      go_simp <;> with_reducible rfl
     ·
      refine mY.of rfl (fun f w' hb hp => ?_)
      obtain ⟨bJ, bK, je, e13, sK, zL, zM⟩ : ∃ bJ bK je : R3, f 62 = .tuple #[.agg #[.bool bJ.b, .slice bJ.a bJ.n bJ.c, .slice bJ.d bJ.m bJ.e, .bool bK.b, .slice bK.a bK.n bK.c, .slice bK.d bK.m bK.e], je.val] ∧ Fr true w' bJ.val c0 ∧ Fr true w' bK.val c1 ∧ Fr true w' je.val xc := hp 13 (by decide)
      refine ⟨.agg #[.bool bJ.b, .slice bJ.a bJ.n bJ.c, .slice bJ.d bJ.m bJ.e, .bool bK.b, .slice bK.a bK.n bK.c, .slice bK.d bK.m bK.e], ⟨bJ, bK, rfl, sK, zL⟩, by first | rfl | kernel_rfl, fun u => ?_⟩
      simp only [aQ, aT, List.foldl_cons, List.foldl_nil, ag, e13]
      go_simp <;> with_reducible rfl
     ·
      refine mY.of rfl (fun f w' hb hp => ?_)
      obtain ⟨bJ, bK, je, e13, sK, zL, zM⟩ : ∃ bJ bK je : R3, f 62 = .tuple #[.agg #[.bool bJ.b, .slice bJ.a bJ.n bJ.c, .slice bJ.d bJ.m bJ.e, .bool bK.b, .slice bK.a bK.n bK.c, .slice bK.d bK.m bK.e], je.val] ∧ Fr true w' bJ.val c0 ∧ Fr true w' bK.val c1 ∧ Fr true w' je.val xc := hp 13 (by decide)
      refine ⟨je.val, ⟨je, rfl, zM⟩, by first | rfl | kernel_rfl, fun u => ?_⟩
      simp only [aQ, aT, List.foldl_cons, List.foldl_nil, ag, e13]
      go_simp <;> with_reducible rfl
     ·
      intro f kX hb hp hd
      obtain ⟨z53, e1, Ew⟩ : ∃ z53 : R3, f 64 = z53.val ∧ Fr true kX z53.val c0 := hp 1 (by decide)
      obtain ⟨z54, e9, Ar⟩ : ∃ z54 : R3, f 72 = z54.val ∧ Fr true kX z54.val cw := hp 9 (by decide)
      obtain ⟨iV, iW, xI, e12, Ep, Es, Et⟩ : ∃ iV iW xI : R3, f 75 = .tuple #[.agg #[.bool iV.b, .slice iV.a iV.n iV.c, .slice iV.d iV.m iV.e, .bool iW.b, .slice iW.a iW.n iW.c, .slice iW.d iW.m iW.e], xI.val] ∧ Fr true kX iV.val c0 ∧ Fr true kX iW.val c1 ∧ Fr true kX xI.val xc := hp 12 (by decide)
      obtain ⟨bJ, bK, je, e13, sK, zL, zM⟩ : ∃ bJ bK je : R3, f 62 = .tuple #[.agg #[.bool bJ.b, .slice bJ.a bJ.n bJ.c, .slice bJ.d bJ.m bJ.e, .bool bK.b, .slice bK.a bK.n bK.c, .slice bK.d bK.m bK.e], je.val] ∧ Fr true kX bJ.val c0 ∧ Fr true kX bK.val c1 ∧ Fr true kX je.val xc := hp 13 (by decide)
      obtain ⟨aJ, aK, e14, wH, Eu⟩ : ∃ aJ aK : R3, f 76 = .agg #[.bool aJ.b, .slice aJ.a aJ.n aJ.c, .slice aJ.d aJ.m aJ.e, .bool aK.b, .slice aK.a aK.n aK.c, .slice aK.d aK.m aK.e] ∧ Fr true kX aJ.val c0 ∧ Fr true kX aK.val c1 := hp 14 (by decide)
      obtain ⟨aP, e15, uO⟩ : ∃ aP : R3, f 77 = aP.val ∧ Fr true kX aP.val xc := hp 15 (by decide)
      obtain ⟨i_, e16, g16, k16⟩ : ∃ i_ : Nat, f 15 = .pointer (some ⟨i_, 0, none⟩) ∧ W41.drew.heap.size ≤ i_ ∧ kX.heap[i_]? = some (.cells #[.bool false, .slice none 0 0, .slice none 0 0, .bool false, .slice none 0 0, .slice none 0 0] 43 (0, 0)) := hp 16 (by decide)
      obtain ⟨jr, e17, g17, k17⟩ : ∃ jr : Nat, f 16 = .pointer (some ⟨jr, 0, none⟩) ∧ W41.drew.heap.size ≤ jr ∧ kX.heap[jr]? = some (.cells #[.bool false, .slice none 0 0, .slice none 0 0] 40 (0, 0)) := hp 17 (by decide)
      have Jw : i_ ≠ jr := fun h => hd 16 17 (by decide) (by decide) (by decide) (by decide) (by decide) (by show f 15 = f 16; rw [e16, e17, h])
      replace hh := Sx.below hh hb
      have hlt := HS.out.lt
      replace HS := ae (HS.out.below hb)
      have nJ := HG.out.row
      replace HG := ae (HG.out.below hb)
      replace HS := ae (HS.out.az Ew)
      replace HS := ae (HS.out.az Ar)
      replace HS := ae (HS.out.az Ep)
      replace HS := ae (HS.out.az Es)
      replace HS := ae (HS.out.az Et)
      replace HS := ae (HS.out.az sK)
      replace HS := ae (HS.out.az zL)
      replace HS := ae (HS.out.az zM)
      replace HS := ae (HS.out.az wH)
      replace HS := ae (HS.out.az Eu)
      replace HS := ae (HS.out.az uO)
      have Zw : w.heap.size ≤ i_ := Nat.le_trans BM.out g16
      have hne16 : ∀ b, b ∈ ([(gV, aN.arr, 40), (gu, aY aF aG, 43), (iJ, aI.arr, 40), (iw, aY aB aC, 43), (wr2.heap.size, #[.int .u8 (b0 : Int), .int .u8 (b1 : Int), .int .u8 (b2 : Int), .int .u8 (b3 : Int), .int .u8 (b4 : Int), .int .u8 (b5 : Int), .int .u8 (b6 : Int)], 76), (w.heap.size, #[.int .u8 (n0 : Int), .int .u8 (n1 : Int), .int .u8 (n2 : Int)], 35)] : List Bx) → b.1 ≠ i_ := by
       intro b hb
       simp only [List.mem_cons, List.not_mem_nil, or_false] at hb
       rcases hb with rfl | rfl | rfl | rfl | rfl | rfl
       · have := hlt _ (List.mem_iff_getElem?.2 ⟨0, rfl⟩); dsimp only at this ⊢; omega
       · have := hlt _ (List.mem_iff_getElem?.2 ⟨1, rfl⟩); dsimp only at this ⊢; omega
       · have := hlt _ (List.mem_iff_getElem?.2 ⟨2, rfl⟩); dsimp only at this ⊢; omega
       · have := hlt _ (List.mem_iff_getElem?.2 ⟨3, rfl⟩); dsimp only at this ⊢; omega
       · have := hlt _ (List.mem_iff_getElem?.2 ⟨4, rfl⟩); dsimp only at this ⊢; omega
       · have := hlt _ (List.mem_iff_getElem?.2 ⟨5, rfl⟩); dsimp only at this ⊢; omega
      replace HS := ae (HS.out.ku k16 Zw (by rfl) hne16)
      replace HG := ae (HG.out.box (B := i_) (T := 43) (cs := #[.bool false, .slice none 0 0, .slice none 0 0, .bool false, .slice none 0 0, .slice none 0 0]) (fun g hg hc => by obtain ⟨n, hn⟩ := List.mem_iff_getElem?.1 hg; have := ((nJ n g hn).lt hc).1; have := g16; omega))
      have MO : w.heap.size ≤ jr := Nat.le_trans BM.out g17
      have MQ : ∀ b, b ∈ ([(i_, #[.bool false, .slice none 0 0, .slice none 0 0, .bool false, .slice none 0 0, .slice none 0 0], 43), (gV, aN.arr, 40), (gu, aY aF aG, 43), (iJ, aI.arr, 40), (iw, aY aB aC, 43), (wr2.heap.size, #[.int .u8 (b0 : Int), .int .u8 (b1 : Int), .int .u8 (b2 : Int), .int .u8 (b3 : Int), .int .u8 (b4 : Int), .int .u8 (b5 : Int), .int .u8 (b6 : Int)], 76), (w.heap.size, #[.int .u8 (n0 : Int), .int .u8 (n1 : Int), .int .u8 (n2 : Int)], 35)] : List Bx) → b.1 ≠ jr := by
       intro b hb
       simp only [List.mem_cons, List.not_mem_nil, or_false] at hb
       rcases hb with rfl | rfl | rfl | rfl | rfl | rfl | rfl
       · exact Jw
       · have := hlt _ (List.mem_iff_getElem?.2 ⟨0, rfl⟩); dsimp only at this ⊢; omega
       · have := hlt _ (List.mem_iff_getElem?.2 ⟨1, rfl⟩); dsimp only at this ⊢; omega
       · have := hlt _ (List.mem_iff_getElem?.2 ⟨2, rfl⟩); dsimp only at this ⊢; omega
       · have := hlt _ (List.mem_iff_getElem?.2 ⟨3, rfl⟩); dsimp only at this ⊢; omega
       · have := hlt _ (List.mem_iff_getElem?.2 ⟨4, rfl⟩); dsimp only at this ⊢; omega
       · have := hlt _ (List.mem_iff_getElem?.2 ⟨5, rfl⟩); dsimp only at this ⊢; omega
      replace HS := ae (HS.out.ku k17 MO (by rfl) MQ)
      replace HG := ae (HG.out.box (B := jr) (T := 40) (cs := #[.bool false, .slice none 0 0, .slice none 0 0]) (fun g hg hc => by obtain ⟨n, hn⟩ := List.mem_iff_getElem?.1 hg; have := ((nJ n g hn).lt hc).1; have := g17; omega))
      simp only [aQ, aT, List.foldl_cons, List.foldl_nil, ag, e1, e9, e12, e13, e14, e15, e16, e17]
      clear hp hd hb hlt e1 e9 e12 e13 e14 e15 e16 e17 nJ
      refine rdA (i := 18) rfl (fun K hK => ?_)
      have RV := (HS.out.at 1 _ _ _ rfl)
      have apc := af RV 0 (.bool false) rfl
      have apd := af RV 1 (.slice none 0 0) rfl
      have ape := af RV 2 (.slice none 0 0) rfl
      have apf := af RV 3 (.bool false) rfl
      have apg := af RV 4 (.slice none 0 0) rfl
      have aph := af RV 5 (.slice none 0 0) rfl
      have api := ah RV 0
      have apj := ah RV 1
      have apk := ah RV 2
      have apl := ah RV 3
      have apm := ah RV 4
      have apn := ah RV 5
      have b6l := ai RV
      clear RV
      go_simp
      refine hK.out _ _ ((((((HS.out).gp 1 dQ dQ aJ aK rfl)).erase 1)).erase 0) (fun hh => ?_)
      clear hK K apc apd ape apf apg aph api apj apk apl apm apn b6l
      try simp only [ag]
      generalize PG : ((((((kX).setCell _ _).setCell _ _).setCell _ _).setCell _ _).setCell _ _).setCell _ _ = W58 at *
      replace HG := ae (((HG.out).gp (HS.out) 1 dQ dQ aJ aK rfl).to PG (by (try simp only [ig, ik]); rfl))
      replace HS := ae (((HS.out).gp 1 dQ dQ aJ aK rfl).to PG (by (try simp only [ig, ik]); rfl))
      clear PG
      refine rdA (i := 19) rfl (fun K hK => ?_)
      have b7e := (HS.out.at 0 _ _ _ rfl)
      have ahW := af b7e 0 (.bool false) rfl
      have ahX := af b7e 1 (.slice none 0 0) rfl
      have ahY := af b7e 2 (.slice none 0 0) rfl
      have ahZ := ah b7e 0
      have ah0 := ah b7e 1
      have ah1 := ah b7e 2
      have b7l := ai b7e
      clear b7e
      go_simp
      refine hK.out _ _ ((((((HS.out).oz 0 dQ aP rfl)).erase 1)).erase 0) (fun hh => ?_)
      clear hK K ahW ahX ahY ahZ ah0 ah1 b7l
      try simp only [ag]
      generalize aiw : (((W58).setCell _ _).setCell _ _).setCell _ _ = W59 at *
      replace HG := ae (((HG.out).oz (HS.out) 0 dQ aP rfl).to aiw (by (try simp only [ig, ik]); rfl))
      replace HS := ae (((HS.out).oz 0 dQ aP rfl).to aiw (by (try simp only [ig, ik]); rfl))
      clear aiw
      refine wpAnyH_done (by kernel_rfl) ?_ _
      go_wp2_with fail
      refine wp_region_held_drew (S := (fun w' => Sx w w' [(jr, aP.arr, 40), (i_, aY aJ aK, 43), (gV, aN.arr, 40), (gu, aY aF aG, 43), (iJ, aI.arr, 40), (iw, aY aB aC, 43), (wr2.heap.size, #[.int .u8 (b0 : Int), .int .u8 (b1 : Int), .int .u8 (b2 : Int), .int .u8 (b3 : Int), .int .u8 (b4 : Int), .int .u8 (b5 : Int), .int .u8 (b6 : Int)], 76), (w.heap.size, #[.int .u8 (n0 : Int), .int .u8 (n1 : Int), .int .u8 (n2 : Int)], 35)] [])) (by kernel_rfl) ((HS.out.drew).bare) (fun hh => ?_)
      replace HS := ae HS.out.drew
      replace HG := ae (HG.out.below (Below.refl _ _).drew)
      refine dF (i := 0) (v := ?asl) rfl ?aje ?arI
      case aje => intro u aH; go_simp <;> with_reducible rfl
      try simp only [ag]
      refine dF (i := 1) (v := ?asn) rfl ?ajf ?arJ
      case ajf => intro u aH; go_simp <;> with_reducible rfl
      try simp only [ag]
      refine dF (i := 2) (v := ?aso) rfl ?ajg ?arK
      case ajg => intro u aH; (try dsimp only at aH); have gU := (aH.at 6 _ _ _ rfl); have rC := af gU 0 (.int .u8 (b0 : Int)) rfl; have rD := af gU 1 (.int .u8 (b1 : Int)) rfl; have rE := af gU 2 (.int .u8 (b2 : Int)) rfl; have xw := af gU 3 (.int .u8 (b3 : Int)) rfl; have xx := af gU 4 (.int .u8 (b4 : Int)) rfl; have xy := af gU 5 (.int .u8 (b5 : Int)) rfl; have NR := af gU 6 (.int .u8 (b6 : Int)) rfl; clear gU; clear aH; go_simp <;> with_reducible rfl
      try simp only [ag]
      refine dF (i := 3) (v := ?asq) rfl ?ajh ?arL
      case ajh => intro u aH; go_simp <;> with_reducible rfl
      try simp only [ag]
      refine dF (i := 4) (v := ?asr) rfl ?aji ?arM
      case aji => intro u aH; go_simp <;> with_reducible rfl
      try simp only [ag]
      refine dF (i := 6) (v := ?ass) rfl ?ajj ?arN
      case ajj => intro u aH; (try dsimp only at aH); obtain ⟨IG, asL, asM, asN, asO, asP, _⟩ := dO (x := aB) (y := aC) (aH.at 5 _ _ _ rfl); clear aH; go_simp <;> with_reducible rfl
      try simp only [ag]
      refine dF (i := 7) (v := ?ast) rfl ?ajk ?arO
      case ajk => intro u aH; (try dsimp only at aH); obtain ⟨Tq, Tt, Tu, Tv, Tz, TA, _⟩ := dO (x := aF) (y := aG) (aH.at 3 _ _ _ rfl); clear aH; go_simp <;> with_reducible rfl
      try simp only [ag]
      refine dF (i := 8) (v := ?asu) rfl ?ajl ?arP
      case ajl => intro u aH; (try dsimp only at aH); obtain ⟨TB, TC, TD, TE, TF, TG, _⟩ := dO (x := aJ) (y := aK) (aH.at 1 _ _ _ rfl); clear aH; go_simp <;> with_reducible rfl
      try simp only [ag]
      refine rdA (i := 5) rfl (fun K hK => ?_)
      go_simp
      go_wp2_with (go_at_call 7; (with_reducible refine (HP0.out _).mono ?_); rintro e w69 ⟨v69, rfl, PY, MN⟩; obtain ⟨z69, rfl⟩ := PY.bn)
      refine hK.out _ _ (Sx.below hh MN) (fun hh => ?_)
      clear hK K
      try simp only [ag]
      replace HS := ae (HS.out.below MN)
      replace HG := ae (HG.out.below MN)
      clear MN
      replace HS := ae (HS.out.az PY)
      clear PY
      refine dF (i := 9) (v := ?aox) rfl ?ZM ?aog
      case ZM => intro u aH; go_simp <;> with_reducible rfl
      try simp only [ag]
      refine rdA (i := 10) rfl (fun K hK => ?_)
      go_simp
      refine hK.out _ _ (Sx.below hh ((Below.refl _ _).alloc (Nat.le_refl _) _)) (fun hh => ?_)
      clear hK K
      try simp only [ag]
      generalize aix : (w69).alloc (.cells _ _) = W71 at *
      replace HS := ae ((HS.out.alloc (B := w69.heap.size) rfl (by rfl)).to aix rfl)
      replace HG := ae ((HG.out.alloc (B := w69.heap.size) rfl).to aix rfl)
      clear aix
      refine rdA (i := 11) rfl (fun K hK => ?_)
      obtain ⟨aqW, amB, anK, amZ, anE⟩ := info_parts rU
      have agA : ∀ u ∈ (Value.agg #[.bool false, .slice none 0 0, .slice none 0 0, .bool false, .slice none 0 0, .slice none 0 0, .bool false, .slice none 0 0, .slice none 0 0, .bool false, .slice none 0 0, .slice none 0 0, .bool false, .slice none 0 0, .slice none 0 0, .bool false, .slice none 0 0, .slice none 0 0, .bool false, .slice none 0 0, .slice none 0 0]).cells.toList, jh u := by
       intro u hu
       have hu : u ∈ [.bool false, .slice none 0 0, .slice none 0 0, .bool false, .slice none 0 0, .slice none 0 0, .bool false, .slice none 0 0, .slice none 0 0, .bool false, .slice none 0 0, .slice none 0 0, .bool false, .slice none 0 0, .slice none 0 0, .bool false, .slice none 0 0, .slice none 0 0, .bool false, .slice none 0 0, .slice none 0 0] := hu
       simp only [List.mem_cons, List.not_mem_nil, or_false] at hu
       rcases hu with rfl | rfl | rfl | rfl | rfl | rfl | rfl | rfl | rfl | rfl | rfl | rfl | rfl | rfl | rfl | rfl | rfl | rfl | rfl | rfl | rfl
       all_goals first | exact fA _ | exact dH _ _ _
      refine A7 _ rfl (.tmp 78) (.tmp 88) 31 rfl w.heap.size 46 aqW _ 21 392 Tryz.underlying31 amB anK amZ anE rfl (by decide) agA _ _ _ rfl (HG.out.row 1 _ rfl) ⟨w69.heap.size, 0, none⟩ 1 1 [.bool z69.b, .slice z69.a z69.n z69.c, .slice z69.d z69.m z69.e, .bool aB.b, .slice aB.a aB.n aB.c, .slice aB.d aB.m aB.e, .bool aC.b, .slice aC.a aC.n aC.c, .slice aC.d aC.m aC.e, .bool aF.b, .slice aF.a aF.n aF.c, .slice aF.d aF.m aF.e, .bool aG.b, .slice aG.a aG.n aG.c, .slice aG.d aG.m aG.e, .bool aJ.b, .slice aJ.a aJ.n aJ.c, .slice aJ.d aJ.m aJ.e, .bool aK.b, .slice aK.a aK.n aK.c, .slice aK.d aK.m aK.e] rfl rfl (nX (HS.out.at 0 _ _ _ rfl)) (by simp [Value.oneCell']) (by intro u hu; simp only [List.mem_cons, List.not_mem_nil, or_false] at hu; rcases hu with rfl | rfl | rfl | rfl | rfl | rfl | rfl | rfl | rfl | rfl | rfl | rfl | rfl | rfl | rfl | rfl | rfl | rfl | rfl | rfl | rfl; all_goals first | exact fA _ | exact dH _ _ _) (by omega) (by dsimp only; unfold maxLen; omega) (by dsimp only; omega) HS.out.bel.size ?_
      intro g72 YH w72 al0 agj Zd
      obtain ⟨agr, agf⟩ := Sx.append HS.out HG.out 1 rfl [z69, aB, aC, aF, aG, aJ, aK] [p0, h0, h1, t0, t1, c0, c1] rfl (fun j x hx => by match j, hx with
        | 0, hx => (simp at hx; subst hx; exact (HS.out.p 0 _ _ rfl))
        | 1, hx => (simp at hx; subst hx; exact (HS.out.p 25 _ _ rfl))
        | 2, hx => (simp at hx; subst hx; exact (HS.out.p 24 _ _ rfl))
        | 3, hx => (simp at hx; subst hx; exact (HS.out.p 14 _ _ rfl))
        | 4, hx => (simp at hx; subst hx; exact (HS.out.p 13 _ _ rfl))
        | 5, hx => (simp at hx; subst hx; exact (HS.out.p 3 _ _ rfl))
        | 6, hx => (simp at hx; subst hx; exact (HS.out.p 2 _ _ rfl))
        | j + 7, hx => simp at hx) al0 agj (by intro c hc; simp [Value.ownBlock] at hc; subst hc; first | exact Zd | simpa using Zd)
      replace HS : Hid (Sx w w72 [(w69.heap.size, #[.bool z69.b, .slice z69.a z69.n z69.c, .slice z69.d z69.m z69.e, .bool aB.b, .slice aB.a aB.n aB.c, .slice aB.d aB.m aB.e, .bool aC.b, .slice aC.a aC.n aC.c, .slice aC.d aC.m aC.e, .bool aF.b, .slice aF.a aF.n aF.c, .slice aF.d aF.m aF.e, .bool aG.b, .slice aG.a aG.n aG.c, .slice aG.d aG.m aG.e, .bool aJ.b, .slice aJ.a aJ.n aJ.c, .slice aJ.d aJ.m aJ.e, .bool aK.b, .slice aK.a aK.n aK.c, .slice aK.d aK.m aK.e], 46), (jr, aP.arr, 40), (i_, aY aJ aK, 43), (gV, aN.arr, 40), (gu, aY aF aG, 43), (iJ, aI.arr, 40), (iw, aY aB aC, 43), (wr2.heap.size, #[.int .u8 (b0 : Int), .int .u8 (b1 : Int), .int .u8 (b2 : Int), .int .u8 (b3 : Int), .int .u8 (b4 : Int), .int .u8 (b5 : Int), .int .u8 (b6 : Int)], 76), (w.heap.size, #[.int .u8 (n0 : Int), .int .u8 (n1 : Int), .int .u8 (n2 : Int)], 35)] [(true, z69.val, p0), (true, aP.val, xc), (true, aK.val, c1), (true, aJ.val, c0), (true, je.val, xc), (true, bK.val, c1), (true, bJ.val, c0), (true, xI.val, xc), (true, iW.val, c1), (true, iV.val, c0), (true, z54.val, cw), (true, z53.val, c0), (true, aN.val, xt), (true, aG.val, t1), (true, aF.val, t0), (true, jd.val, xt), (true, bI.val, t1), (true, bH.val, t0), (true, xH.val, xt), (true, iU.val, t1), (true, iT.val, t0), (true, z36.val, tw), (true, z35.val, t0), (true, aI.val, xh), (true, aC.val, h1), (true, aB.val, h0), (true, jc.val, xh), (true, bG.val, h1), (true, bF.val, h0), (true, xG.val, xh), (true, iR.val, h1), (true, iQ.val, h0), (true, yG.val, hw), (true, zn.val, h0)]) := agr
      replace HG : Hid (jF w w72 [(w69.heap.size, #[.bool z69.b, .slice z69.a z69.n z69.c, .slice z69.d z69.m z69.e, .bool aB.b, .slice aB.a aB.n aB.c, .slice aB.d aB.m aB.e, .bool aC.b, .slice aC.a aC.n aC.c, .slice aC.d aC.m aC.e, .bool aF.b, .slice aF.a aF.n aF.c, .slice aF.d aF.m aF.e, .bool aG.b, .slice aG.a aG.n aG.c, .slice aG.d aG.m aG.e, .bool aJ.b, .slice aJ.a aJ.n aJ.c, .slice aJ.d aJ.m aJ.e, .bool aK.b, .slice aK.a aK.n aK.c, .slice aK.d aK.m aK.e], 46), (jr, aP.arr, 40), (i_, aY aJ aK, 43), (gV, aN.arr, 40), (gu, aY aF aG, 43), (iJ, aI.arr, 40), (iw, aY aB aC, 43), (wr2.heap.size, #[.int .u8 (b0 : Int), .int .u8 (b1 : Int), .int .u8 (b2 : Int), .int .u8 (b3 : Int), .int .u8 (b4 : Int), .int .u8 (b5 : Int), .int .u8 (b6 : Int)], 76), (w.heap.size, #[.int .u8 (n0 : Int), .int .u8 (n1 : Int), .int .u8 (n2 : Int)], 35)] [⟨78, true, 3, sv, sx, (Uf l_ r0 r1 r2 i)⟩, ⟨46, true, 7, (.slice (some ⟨g72, 0, none⟩) ((uN l_ i).length + 1) YH), (rx ++ eX [z69, aB, aC, aF, aG, aJ, aK]), ((uN l_ i) ++ [[p0, h0, h1, t0, t1, c0, c1]])⟩]) := agf
      clear agr agf al0 agj Zd agA amB anK amZ anE
      refine hK.out _ _ ((HS.out).erase 0) (fun hh => ?_)
      clear hK K
      try simp only [ag]
      refine dF (i := 12) (v := ?au2) rfl ?aqb ?aut
      case aqb => intro u aH; go_simp <;> with_reducible rfl
      try simp only [ag]
      refine wpAnyH_done (by kernel_rfl) ?_ _
      go_upto_region 11 with fail
      obtain ⟨rH, rJ, rM, ui, uj, uk⟩ := eu (x := aI) (HS.out.at 5 _ _ _ rfl)
      have Ji := ai (HS.out.at 5 _ _ _ rfl)
      obtain ⟨ahP, ahQ, ahR, ahS, ahT, ahU⟩ := eu (x := aN) (HS.out.at 3 _ _ _ rfl)
      have b5l := ai (HS.out.at 3 _ _ _ rfl)
      obtain ⟨ahW, ahX, ahY, ahZ, ah0, ah1⟩ := eu (x := aP) (HS.out.at 1 _ _ _ rfl)
      have b7l := ai (HS.out.at 1 _ _ _ rfl)
      have alT := HS.out.ne 5 3 rfl rfl (by decide)
      have alU := HS.out.ne 5 1 rfl rfl (by decide)
      have alV := HS.out.ne 3 1 rfl rfl (by decide)
      have nO := ae ((HS.out).alloc (B := w72.heap.size) (T := 78) (cs := #[.bool aI.b, .slice aI.a aI.n aI.c, .slice aI.d aI.m aI.e, .bool aN.b, .slice aN.a aN.n aN.c, .slice aN.d aN.m aN.e, .bool aP.b, .slice aP.a aP.n aP.c, .slice aP.d aP.m aP.e]) rfl (by rfl))
      have CE := ae ((HG.out).alloc (B := w72.heap.size) (T := 78) (cs := #[.bool aI.b, .slice aI.a aI.n aI.c, .slice aI.d aI.m aI.e, .bool aN.b, .slice aN.a aN.n aN.c, .slice aN.d aN.m aN.e, .bool aP.b, .slice aP.a aP.n aP.c, .slice aP.d aP.m aP.e]) rfl)
      obtain ⟨aqX, amC, anL, am0, anF⟩ := info_parts rV
      have agB : ∀ u ∈ (Value.agg #[.bool false, .slice none 0 0, .slice none 0 0, .bool false, .slice none 0 0, .slice none 0 0, .bool false, .slice none 0 0, .slice none 0 0]).cells.toList, jh u := by
       intro u hu
       have hu : u ∈ [.bool false, .slice none 0 0, .slice none 0 0, .bool false, .slice none 0 0, .slice none 0 0, .bool false, .slice none 0 0, .slice none 0 0] := hu
       simp only [List.mem_cons, List.not_mem_nil, or_false] at hu
       rcases hu with rfl | rfl | rfl | rfl | rfl | rfl | rfl | rfl | rfl
       all_goals first | exact fA _ | exact dH _ _ _
      go_wp2_with (at_builtin; refine dZ _ rfl (.tmp 90) (.tmp 95) 32 rfl w.heap.size 78 aqX _ 9 168 Tryz.underlying32 amC anL am0 anF rfl (by decide) agB _ _ _ rfl (CE.out.row 0 _ rfl) ⟨w72.heap.size, 0, none⟩ 1 1 [.bool aI.b, .slice aI.a aI.n aI.c, .slice aI.d aI.m aI.e, .bool aN.b, .slice aN.a aN.n aN.c, .slice aN.d aN.m aN.e, .bool aP.b, .slice aP.a aP.n aP.c, .slice aP.d aP.m aP.e] rfl rfl (nX (nO.out.at 0 _ _ _ rfl)) (by simp [Value.oneCell']) (by intro u hu; simp only [List.mem_cons, List.not_mem_nil, or_false] at hu; rcases hu with rfl | rfl | rfl | rfl | rfl | rfl | rfl | rfl | rfl; all_goals first | exact fA _ | exact dH _ _ _) (by omega) (by dsimp only; unfold maxLen; omega) (by dsimp only; omega) nO.out.bel.size ?_)
      intro g74 YI w74 Ux agk Ze
      have af7 : dL w74 w.heap.size 78 9 (.slice (some ⟨g74, 0, none⟩) (((Uf l_ r0 r1 r2 i)).length + 1) YI) (((Uf l_ r0 r1 r2 i)).length + 1) (sx ++ [.bool aI.b, .slice aI.a aI.n aI.c, .slice aI.d aI.m aI.e, .bool aN.b, .slice aN.a aN.n aN.c, .slice aN.d aN.m aN.e, .bool aP.b, .slice aP.a aP.n aP.c, .slice aP.d aP.m aP.e]) := by first | exact Ux | (rw [amP]; exact Ux)
      clear Ux
      have Ux := af7
      clear af7
      obtain ⟨ags, agh⟩ := Sx.append nO.out CE.out 0 rfl [aI, aN, aP] [xh, xt, xc] rfl (fun j x hx => by match j, hx with
        | 0, hx => (simp at hx; subst hx; exact (nO.out.p 23 _ _ rfl))
        | 1, hx => (simp at hx; subst hx; exact (nO.out.p 12 _ _ rfl))
        | 2, hx => (simp at hx; subst hx; exact (nO.out.p 1 _ _ rfl))
        | j + 3, hx => simp at hx) Ux agk (by intro c hc; simp [Value.ownBlock] at hc; subst hc; first | exact Ze | simpa using Ze)
      clear rH rJ rM ui uj uk Ji ahP ahQ ahR ahS ahT ahU b5l ahW ahX ahY ahZ ah0 ah1 b7l alT alU alV
      clear nO CE
      replace HS : Hid (Sx w w74 [(w72.heap.size, #[.bool aI.b, .slice aI.a aI.n aI.c, .slice aI.d aI.m aI.e, .bool aN.b, .slice aN.a aN.n aN.c, .slice aN.d aN.m aN.e, .bool aP.b, .slice aP.a aP.n aP.c, .slice aP.d aP.m aP.e], 78), (w69.heap.size, #[.bool z69.b, .slice z69.a z69.n z69.c, .slice z69.d z69.m z69.e, .bool aB.b, .slice aB.a aB.n aB.c, .slice aB.d aB.m aB.e, .bool aC.b, .slice aC.a aC.n aC.c, .slice aC.d aC.m aC.e, .bool aF.b, .slice aF.a aF.n aF.c, .slice aF.d aF.m aF.e, .bool aG.b, .slice aG.a aG.n aG.c, .slice aG.d aG.m aG.e, .bool aJ.b, .slice aJ.a aJ.n aJ.c, .slice aJ.d aJ.m aJ.e, .bool aK.b, .slice aK.a aK.n aK.c, .slice aK.d aK.m aK.e], 46), (jr, aP.arr, 40), (i_, aY aJ aK, 43), (gV, aN.arr, 40), (gu, aY aF aG, 43), (iJ, aI.arr, 40), (iw, aY aB aC, 43), (wr2.heap.size, #[.int .u8 (b0 : Int), .int .u8 (b1 : Int), .int .u8 (b2 : Int), .int .u8 (b3 : Int), .int .u8 (b4 : Int), .int .u8 (b5 : Int), .int .u8 (b6 : Int)], 76), (w.heap.size, #[.int .u8 (n0 : Int), .int .u8 (n1 : Int), .int .u8 (n2 : Int)], 35)] [(true, z69.val, p0), (true, aP.val, xc), (true, aK.val, c1), (true, aJ.val, c0), (true, je.val, xc), (true, bK.val, c1), (true, bJ.val, c0), (true, xI.val, xc), (true, iW.val, c1), (true, iV.val, c0), (true, z54.val, cw), (true, z53.val, c0), (true, aN.val, xt), (true, aG.val, t1), (true, aF.val, t0), (true, jd.val, xt), (true, bI.val, t1), (true, bH.val, t0), (true, xH.val, xt), (true, iU.val, t1), (true, iT.val, t0), (true, z36.val, tw), (true, z35.val, t0), (true, aI.val, xh), (true, aC.val, h1), (true, aB.val, h0), (true, jc.val, xh), (true, bG.val, h1), (true, bF.val, h0), (true, xG.val, xh), (true, iR.val, h1), (true, iQ.val, h0), (true, yG.val, hw), (true, zn.val, h0)]) := ags
      replace HG : Hid (jF w w74 [(w72.heap.size, #[.bool aI.b, .slice aI.a aI.n aI.c, .slice aI.d aI.m aI.e, .bool aN.b, .slice aN.a aN.n aN.c, .slice aN.d aN.m aN.e, .bool aP.b, .slice aP.a aP.n aP.c, .slice aP.d aP.m aP.e], 78), (w69.heap.size, #[.bool z69.b, .slice z69.a z69.n z69.c, .slice z69.d z69.m z69.e, .bool aB.b, .slice aB.a aB.n aB.c, .slice aB.d aB.m aB.e, .bool aC.b, .slice aC.a aC.n aC.c, .slice aC.d aC.m aC.e, .bool aF.b, .slice aF.a aF.n aF.c, .slice aF.d aF.m aF.e, .bool aG.b, .slice aG.a aG.n aG.c, .slice aG.d aG.m aG.e, .bool aJ.b, .slice aJ.a aJ.n aJ.c, .slice aJ.d aJ.m aJ.e, .bool aK.b, .slice aK.a aK.n aK.c, .slice aK.d aK.m aK.e], 46), (jr, aP.arr, 40), (i_, aY aJ aK, 43), (gV, aN.arr, 40), (gu, aY aF aG, 43), (iJ, aI.arr, 40), (iw, aY aB aC, 43), (wr2.heap.size, #[.int .u8 (b0 : Int), .int .u8 (b1 : Int), .int .u8 (b2 : Int), .int .u8 (b3 : Int), .int .u8 (b4 : Int), .int .u8 (b5 : Int), .int .u8 (b6 : Int)], 76), (w.heap.size, #[.int .u8 (n0 : Int), .int .u8 (n1 : Int), .int .u8 (n2 : Int)], 35)] [⟨78, true, 3, (.slice (some ⟨g74, 0, none⟩) ((Uf l_ r0 r1 r2 i).length + 1) YI), (sx ++ eX [aI, aN, aP]), ((Uf l_ r0 r1 r2 i) ++ [[xh, xt, xc]])⟩, ⟨46, true, 7, (.slice (some ⟨g72, 0, none⟩) ((uN l_ i).length + 1) YH), (rx ++ eX [z69, aB, aC, aF, aG, aJ, aK]), ((uN l_ i) ++ [[p0, h0, h1, t0, t1, c0, c1]])⟩]) := agh
      clear ags agh Ux agk Ze agB amC anL am0 anF
      go_wp2_with fail
      exact ⟨⟨i + 1, (.slice (some ⟨g72, 0, none⟩) ((uN l_ i).length + 1) YH), (rx ++ eX [z69, aB, aC, aF, aG, aJ, aK]), (.slice (some ⟨g74, 0, none⟩) ((Uf l_ r0 r1 r2 i).length + 1) YI), (sx ++ eX [aI, aN, aP]), by have := gq.out; omega, by go_num, by first | rfl | rw [aqu], by first | rfl | rw [amP], ae ((((((((((HS.out).erase 0).erase 0).erase 0).erase 0).erase 0).erase 0).erase 0).erase 0).erase 0), ae (by rw [HTC.out, HTR.out, HCE.out, HTE.out]; exact HG.out.mono (fun b hb => ⟨b, by simp only [List.mem_cons] at hb ⊢; first | exact hb | (repeat (first | exact hb | right)), rfl⟩))⟩, bU gq.out⟩
  ·
   obtain rfl : i = l_.length := by omega
   go_wp2_with fail
   go_ret2
   exact ⟨_, _, _, _, rfl, HG.out.mono (fun b hb => absurd hb (by simp)), HS.out.bel⟩
theorem Z4 (w : World) : Calls Tryz.prog 11 #[.int .i64 0] w (dW 0 w) := by
 have := CY 0 w (by omega) (by omega)
 exact this
def yB (l : List (Nat × Nat)) : Nat := min l.length 3
def sQ (l : List (Nat × Nat)) : Nat → Nat
 | 0 => 0
 | i + 1 => sQ l i + (l.getD i (0, 0)).1 % 20
def wW (l : List (Nat × Nat)) : Nat → Nat
 | 0 => 0
 | i + 1 => max (wW l i) (sQ l (i + 1)) + (l.getD i (0, 0)).2 % 10
theorem C9 (l : List (Nat × Nat)) (i : Nat) : sQ l i ≤ 19 * i := by
 induction i with
 | zero => exact Nat.le_refl _
 | succ i ih => show sQ l i + _ ≤ _; omega
theorem CZ (l : List (Nat × Nat)) (i : Nat) : wW l i ≤ 28 * i := by
 induction i with
 | zero => exact Nat.le_refl _
 | succ i ih =>
  have := C9 l (i + 1)
  show max (wW l i) (sQ l (i + 1)) + _ ≤ _
  have h : sQ l (i + 1) ≤ 28 * i + 19 := by omega
  have h2 : max (wW l i) (sQ l (i + 1)) ≤ 28 * i + 19 := Nat.max_le.2 ⟨by omega, h⟩
  omega
theorem agC (l : List (Nat × Nat)) (i : Nat) : sQ l i ≤ wW l i := by
 cases i with
 | zero => exact Nat.le_refl _
 | succ i => exact Nat.le_trans (Nat.le_max_right _ _) (Nat.le_add_right _ _)
def yJ (l : List (Nat × Nat)) (i : Nat) : Rat := nM (sQ l (i + 1)) 100
def Io (l : List (Nat × Nat)) (i : Nat) : Rat := nM (wW l (i + 1) - sQ l (i + 1)) 100
def G_ (l : List (Nat × Nat)) (n : Nat) : List lD := (List.range n).map fun (i : Nat) => ((300 : Int) * ((i : Int) - 1), yJ l i, yJ l i + Io l i)
def ktR (l : List (Nat × Nat)) (r n : Nat) : List (List Rat) := (List.range n).map fun (i : Nat) => [yJ l i + Io l i * nM r 250]
theorem Z' (l : List (Nat × Nat)) (n : Nat) : G_ l (n + 1) = G_ l n ++ [(300 * ((n : Int) - 1), yJ l n, yJ l n + Io l n)] := by unfold G_; rw [List.range_succ, List.map_append]; rfl
theorem aac (l : List (Nat × Nat)) (r n : Nat) : ktR l r (n + 1) = ktR l r n ++ [[yJ l n + Io l n * nM r 250]] := by unfold ktR; rw [List.range_succ, List.map_append]; rfl
theorem uA (l : List (Nat × Nat)) (n : Nat) : (G_ l n).length = n := by simp [G_]
theorem aey (l : List (Nat × Nat)) (r n : Nat) : (ktR l r n).length = n := by simp [ktR]
def EnP (xs : List Value) (fr : List Fx) (es : List lD) : Prop := ∀ w, (∀ f, f ∈ fr → Fr f.1 w f.2.1 f.2.2) → o9 aA w xs es
theorem EnP.nil : EnP [] [] [] := fun w _ => o9.nil _ _
theorem EnP.snoc {xs : List Value} {fr : List Fx} {es : List lD} (h : EnP xs fr es) (f : Int) (x y : R3) (lo hi : Rat) :
  EnP (xs ++ [.int .i64 f, .bool x.b, .slice x.a x.n x.c, .slice x.d x.m x.e, .bool y.b, .slice y.a y.n y.c, .slice y.d y.m y.e]) (fr ++ [(true, x.val, lo), (true, y.val, hi)]) (es ++ [(f, lo, hi)]) := fun w hf =>
 o9.snoc (h w fun g hg => hf g (List.mem_append_left _ hg)) (hf (true, x.val, lo) (by simp)) (hf (true, y.val, hi) (by simp))
def FrP (xs : List Value) (fr : List Fx) (qs : List (List Rat)) : Prop := ∀ w, (∀ f, f ∈ fr → Fr f.1 w f.2.1 f.2.2) → RowOf true 1 w xs qs
theorem FrP.nil : FrP [] [] [] := fun w _ => RowOf.nil _ _ _
theorem FrP.snoc {xs : List Value} {fr : List Fx} {qs : List (List Rat)} (h : FrP xs fr qs) (x : R3) (q : Rat) :
  FrP (xs ++ [.bool x.b, .slice x.a x.n x.c, .slice x.d x.m x.e]) (fr ++ [(true, x.val, q)]) (qs ++ [[q]]) := fun w hf =>
 (h w fun g hg => hf g (List.mem_append_left _ hg)).snoc [x] [q] rfl (fun j y hy => by
  match j, hy with
  | 0, hy => simp at hy; subst hy; exact hf (true, x.val, q) (by simp)
  | j + 1, hy => simp at hy)
def tZ (w : World) (v : Value) (l : List (Nat × Nat)) : Prop :=
 ∃ b off cap, v = .slice (some ⟨b, off, none⟩) l.length cap ∧ l.length ≤ cap ∧ b < w.heap.size ∧ ∀ i, i < l.length → w.cell? ⟨b, off + i * 2, none⟩ = some (.int .u8 (((l.getD i (0, 0)).1 : Nat) : Int)) ∧ w.cell? ⟨b, off + i * 2 + 1, none⟩ = some (.int .u8 (((l.getD i (0, 0)).2 : Nat) : Int))
def Xu (l : List (Nat × Nat)) (r : Nat) (w : World) (e : Ending) (w' : World) : Prop :=
 ∃ va vb, e = .returned (.agg #[va, vb]) ∧ kN aA w' va (G_ l (yB l)) ∧ di true 1 w' vb (ktR l r (yB l)) ∧ Below w.heap.size w w'
theorem FP : (Tryz.prog.info? 74).map (fun i => (i.zero, i.size, i.bytes)) = some (some (.agg #[.int .i64 0, .bool false, .slice none 0 0, .slice none 0 0, .bool false, .slice none 0 0, .slice none 0 0]), 7, 120) := by kernel_rfl
theorem Sx.yg {w0 w : World} {bs : List Bx} {fs : List Fx} (h : Sx w0 w bs fs) (i : Nat) (Dh : Option Addr) (Dj Di : Nat) (Iy : Option Addr) (IA Iz : Nat) (n0a : Option Addr) (yC n0c : Nat) {B T : Nat} (hi : bs[i]? = some (B, #[.slice Dh Dj Di, .slice Iy IA Iz], T)) :
  Sx w0 ((w).setCell ⟨B, 0, none⟩ (.slice n0a yC n0c)) (bs.set i (B, #[.slice n0a yC n0c, .slice Iy IA Iz], T)) fs := by
 have hl := (List.getElem?_eq_some_iff.1 hi).1
 have g := (h).set i hi 0 (v := .slice n0a yC n0c) rfl
 simpa using g
theorem jF.yg {w0 w : World} {bs : List Bx} {gs : List yz} {fs : List Fx} (h : jF w0 w bs gs) (hs : Sx w0 w bs fs) (i : Nat) (Dh : Option Addr) (Dj Di : Nat) (Iy : Option Addr) (IA Iz : Nat) (n0a : Option Addr) (yC n0c : Nat) {B T : Nat} (hi : bs[i]? = some (B, #[.slice Dh Dj Di, .slice Iy IA Iz], T)) :
  jF w0 ((w).setCell ⟨B, 0, none⟩ (.slice n0a yC n0c)) (bs.set i (B, #[.slice n0a yC n0c, .slice Iy IA Iz], T)) gs := by
 have hl := (List.getElem?_eq_some_iff.1 hi).1
 have g := (h).set2 (hs) i hi 0 (.slice n0a yC n0c)
 simpa using g
theorem pO.yg {w0 w : World} {bs : List Bx} {gs : List CB} {fs : List Fx} (h : pO w0 w bs gs) (hs : Sx w0 w bs fs) (i : Nat) (Dh : Option Addr) (Dj Di : Nat) (Iy : Option Addr) (IA Iz : Nat) (n0a : Option Addr) (yC n0c : Nat) {B T : Nat} (hi : bs[i]? = some (B, #[.slice Dh Dj Di, .slice Iy IA Iz], T)) :
  pO w0 ((w).setCell ⟨B, 0, none⟩ (.slice n0a yC n0c)) (bs.set i (B, #[.slice n0a yC n0c, .slice Iy IA Iz], T)) gs := by
 have hl := (List.getElem?_eq_some_iff.1 hi).1
 have g := (h).set2 (hs) i hi 0 (.slice n0a yC n0c)
 simpa using g
theorem Cj : (Tryz.prog.info? 40).map (fun i => (i.zero, i.size, i.bytes)) = some (some (.agg #[.bool false, .slice none 0 0, .slice none 0 0]), 3, 56) := by kernel_rfl
theorem Sx.yh {w0 w : World} {bs : List Bx} {fs : List Fx} (h : Sx w0 w bs fs) (i : Nat) (Dh : Option Addr) (Dj Di : Nat) (Iy : Option Addr) (IA Iz : Nat) (F8 : Option Addr) (F9 n1c : Nat) {B T : Nat} (hi : bs[i]? = some (B, #[.slice Dh Dj Di, .slice Iy IA Iz], T)) :
  Sx w0 ((w).setCell ⟨B, 1, none⟩ (.slice F8 F9 n1c)) (bs.set i (B, #[.slice Dh Dj Di, .slice F8 F9 n1c], T)) fs := by
 have hl := (List.getElem?_eq_some_iff.1 hi).1
 have g := (h).set i hi 1 (v := .slice F8 F9 n1c) rfl
 simpa using g
theorem jF.yh {w0 w : World} {bs : List Bx} {gs : List yz} {fs : List Fx} (h : jF w0 w bs gs) (hs : Sx w0 w bs fs) (i : Nat) (Dh : Option Addr) (Dj Di : Nat) (Iy : Option Addr) (IA Iz : Nat) (F8 : Option Addr) (F9 n1c : Nat) {B T : Nat} (hi : bs[i]? = some (B, #[.slice Dh Dj Di, .slice Iy IA Iz], T)) :
  jF w0 ((w).setCell ⟨B, 1, none⟩ (.slice F8 F9 n1c)) (bs.set i (B, #[.slice Dh Dj Di, .slice F8 F9 n1c], T)) gs := by
 have hl := (List.getElem?_eq_some_iff.1 hi).1
 have g := (h).set2 (hs) i hi 1 (.slice F8 F9 n1c)
 simpa using g
theorem pO.yh {w0 w : World} {bs : List Bx} {gs : List CB} {fs : List Fx} (h : pO w0 w bs gs) (hs : Sx w0 w bs fs) (i : Nat) (Dh : Option Addr) (Dj Di : Nat) (Iy : Option Addr) (IA Iz : Nat) (F8 : Option Addr) (F9 n1c : Nat) {B T : Nat} (hi : bs[i]? = some (B, #[.slice Dh Dj Di, .slice Iy IA Iz], T)) :
  pO w0 ((w).setCell ⟨B, 1, none⟩ (.slice F8 F9 n1c)) (bs.set i (B, #[.slice Dh Dj Di, .slice F8 F9 n1c], T)) gs := by
 have hl := (List.getElem?_eq_some_iff.1 hi).1
 have g := (h).set2 (hs) i hi 1 (.slice F8 F9 n1c)
 simpa using g
theorem Sx.TP {w0 w : World} {bs : List Bx} {fs : List Fx} (h : Sx w0 w bs fs) (i : Nat) (Dh : Option Addr) (Dj Di : Nat) (Iy : Option Addr) (IA Iz : Nat) (n0a : Option Addr) (yC n0c : Nat) (F8 : Option Addr) (F9 n1c : Nat) {B T : Nat} (hi : bs[i]? = some (B, #[.slice Dh Dj Di, .slice Iy IA Iz], T)) :
  Sx w0 (((w).setCell ⟨B, 0, none⟩ (.slice n0a yC n0c)).setCell ⟨B, 1, none⟩ (.slice F8 F9 n1c)) (bs.set i (B, #[.slice n0a yC n0c, .slice F8 F9 n1c], T)) fs := by
 have hl := (List.getElem?_eq_some_iff.1 hi).1
 have g := ((h).set i hi 0 (v := .slice n0a yC n0c) rfl).set i (by rw [List.getElem?_set, if_pos rfl, if_pos (by simpa using hl)]) 1 (v := .slice F8 F9 n1c) rfl
 simpa using g
theorem jF.TP {w0 w : World} {bs : List Bx} {gs : List yz} {fs : List Fx} (h : jF w0 w bs gs) (hs : Sx w0 w bs fs) (i : Nat) (Dh : Option Addr) (Dj Di : Nat) (Iy : Option Addr) (IA Iz : Nat) (n0a : Option Addr) (yC n0c : Nat) (F8 : Option Addr) (F9 n1c : Nat) {B T : Nat} (hi : bs[i]? = some (B, #[.slice Dh Dj Di, .slice Iy IA Iz], T)) :
  jF w0 (((w).setCell ⟨B, 0, none⟩ (.slice n0a yC n0c)).setCell ⟨B, 1, none⟩ (.slice F8 F9 n1c)) (bs.set i (B, #[.slice n0a yC n0c, .slice F8 F9 n1c], T)) gs := by
 have hl := (List.getElem?_eq_some_iff.1 hi).1
 have g := ((h).set2 (hs) i hi 0 (.slice n0a yC n0c)).set2 ((hs).set i hi 0 (v := .slice n0a yC n0c) rfl) i (by rw [List.getElem?_set, if_pos rfl, if_pos (by simpa using hl)]) 1 (.slice F8 F9 n1c)
 simpa using g
theorem pO.TP {w0 w : World} {bs : List Bx} {gs : List CB} {fs : List Fx} (h : pO w0 w bs gs) (hs : Sx w0 w bs fs) (i : Nat) (Dh : Option Addr) (Dj Di : Nat) (Iy : Option Addr) (IA Iz : Nat) (n0a : Option Addr) (yC n0c : Nat) (F8 : Option Addr) (F9 n1c : Nat) {B T : Nat} (hi : bs[i]? = some (B, #[.slice Dh Dj Di, .slice Iy IA Iz], T)) :
  pO w0 (((w).setCell ⟨B, 0, none⟩ (.slice n0a yC n0c)).setCell ⟨B, 1, none⟩ (.slice F8 F9 n1c)) (bs.set i (B, #[.slice n0a yC n0c, .slice F8 F9 n1c], T)) gs := by
 have hl := (List.getElem?_eq_some_iff.1 hi).1
 have g := ((h).set2 (hs) i hi 0 (.slice n0a yC n0c)).set2 ((hs).set i hi 0 (v := .slice n0a yC n0c) rfl) i (by rw [List.getElem?_set, if_pos rfl, if_pos (by simpa using hl)]) 1 (.slice F8 F9 n1c)
 simpa using g
theorem J7 (sl : List (Nat × Nat)) (n r : Nat) (vl : Value) (w : World) (h : tZ w vl sl) (hlb : ∀ i, i < sl.length → (sl.getD i (0, 0)).1 ≤ 255 ∧ (sl.getD i (0, 0)).2 ≤ 255) (hn : n ≤ 255) (hr : r = n % 251) :
  Calls Tryz.prog 5 #[vl, .int .u8 (n : Int)] w (Xu sl r w) := by
 have HS := ae (Sx.init w)
 have Dt := ae hlb
 have HN := ae hn
 have HRN := ae hr
 obtain ⟨bb, ob, cl, rfl, hcl, hbb, hEB⟩ := h
 have HEB := ae hEB
 have IX := ae hbb
 have hk0 : min (sl.length : Int) 3 = (yB sl : Int) := by unfold yB; omega
 have hk1 : (yB sl : Int) ≤ cl := by unfold yB; omega
 have hk2 : yB sl ≤ cl := by unfold yB; omega
 have hk3 : yB sl ≤ 3 := Nat.min_le_right _ _
 clear hEB hlb hn hr hbb
 go_enter Tryz.func5, Tryz.ntmps5
 go_wp2_with fail
 generalize hW1 : ((w).alloc (.cells _ _)).alloc (.cells _ _) = W1 at *
 replace HS := ae ((((HS.out).alloc (B := w.heap.size) rfl (by rfl)).alloc (B := w.heap.size + 1) (by simp) (by rfl)).to hW1 (by (try simp only [ig, ik]); rfl))
 clear hW1
 have HG := ae (((pO.nil w W1 [(w.heap.size + 1, #[.slice none 0 0, .slice none 0 0], 29), (w.heap.size, #[.slice none 0 0, .slice none 0 0], 29)]).add HS.out.bel.size (Sx.lt HS.out) 74 7).add HS.out.bel.size (Sx.lt HS.out) 40 3)
 go_wp2_with fail
 go_loopw [18, 6, 7] (fun u18 u6 u7 wr => ∃ (i : Nat) (ta : Option Addr) (tc : Nat) (ra : Option Addr) (rc : Nat) (tx : List Value) (tf : List Fx) (rx : List Value) (rf : List Fx), i ≤ (yB sl) ∧ u18 = .int .i64 i ∧ u6 = .int .i64 (sQ sl i : Int) ∧ u7 = .int .i64 (wW sl i : Int) ∧ Hid (EnP tx tf (G_ sl i)) ∧ Hid (FrP rx rf (ktR sl r i)) ∧ Hid (Sx w wr [(w.heap.size + 1, #[.slice ta i tc, .slice ra i rc], 29), (w.heap.size, #[.slice none 0 0, .slice none 0 0], 29)] []) ∧ Hid (pO w wr [(w.heap.size + 1, #[.slice ta i tc, .slice ra i rc], 29), (w.heap.size, #[.slice none 0 0, .slice none 0 0], 29)] [⟨40, 3, .slice ra i rc, i, rx, rf⟩, ⟨74, 7, .slice ta i tc, i, tx, tf⟩]))
  (fun u _ _ _ => (yB sl) - (intOf u).toNat)
 case atStart => exact ⟨0, none, 0, none, 0, [], [], [], [], Nat.zero_le _, rfl, rfl, rfl, ae EnP.nil, ae FrP.nil, ae (HS.out.bare), HG⟩
 case round =>
  obtain ⟨wr2, hwr2⟩ : ∃ z, z = wr := ⟨_, rfl⟩
  subst hwr2
  clear HS HG
  obtain ⟨i, ta, tc, ra, rc, tx, tf, rx, rf, hi, rfl, rfl, rfl, HEN, HFR, HS, HG⟩ := hrel
  by_cases hlt : i < (yB sl)
  ·
   have hlt' : (i : Int) < (yB sl) := by omega
   have hge' : (0 : Int) ≤ i := by omega
   have gq := ae hlt
   have h3 : yB sl ≤ 3 := Nat.min_le_right _ _
   have hl3 : i < sl.length := Nat.lt_of_lt_of_le hlt (Nat.min_le_left _ _)
   obtain ⟨hc0, hc1⟩ := HEB.out i hl3
   obtain ⟨hz0, hz1⟩ := Dt.out i hl3
   have hlo := C9 sl i
   have hhi := CZ sl i
   have HLO : Hid (sQ sl (i + 1) = sQ sl i + (sl.getD i (0, 0)).1 % 20) := rfl
   have HHI : Hid (wW sl (i + 1) = max (wW sl i) (sQ sl (i + 1)) + (sl.getD i (0, 0)).2 % 10) := rfl
   have hle := agC sl (i + 1)
   have hlo2 := C9 sl (i + 1)
   have hhi2 := CZ sl (i + 1)
   have HTE := ae (Z' sl i)
   have HTR := ae (aac sl r i)
   have hpa : ∀ m, m = sQ sl (i + 1) → ∀ W, Calls Tryz.prog 7 #[.int .i64 (m : Int), .int .i64 100] W (dW (yJ sl i) W) := fun m hm W => by subst hm; exact j_ _ 100 100 rfl W (by omega) (by omega) (by omega)
   have hpw : ∀ m, m = wW sl (i + 1) - sQ sl (i + 1) → ∀ W, Calls Tryz.prog 7 #[.int .i64 (m : Int), .int .i64 100] W (dW (Io sl i) W) := fun m hm W => by subst hm; exact j_ _ 100 100 rfl W (by omega) (by omega) (by omega)
   have HSP : Hid (∀ W va vw, aA W va (yJ sl i) → aA W vw (Io sl i) → Calls Tryz.prog 18 #[va, vw, .int .u8 (n : Int)] W (Dw (yJ sl i) (yJ sl i + Io sl i) (yJ sl i + Io sl i * nM r 250) W)) := fun W va vw h1 h2 => uJ _ _ n r HN.out HRN.out va vw W h1 h2 (rq _ _ (by omega)) (aj (xq (by omega) (by omega) (by omega)) (by omega)) (aj (xq (by omega) (by omega) (by omega)) (by omega))
   generalize hgl : sQ sl (i + 1) = lo2 at *
   have HGL := ae hgl
   clear hgl
   generalize hgh : wW sl (i + 1) = hi2 at *
   have HGH := ae hgh
   clear hgh
   generalize sQ sl i = lo at *
   generalize wW sl i = hi_ at *
   generalize (sl.getD i (0, 0)).1 = b0 at *
   generalize (sl.getD i (0, 0)).2 = b1 at *
   have Oz := ae hc0
   have HE1 := ae hc1
   obtain ⟨r0, hr0⟩ : ∃ z, z = b0 % 20 := ⟨_, rfl⟩
   obtain ⟨r1, hr1⟩ : ∃ z, z = b1 % 10 := ⟨_, rfl⟩
   obtain ⟨mx, hmx⟩ : ∃ z, z = max hi_ lo2 := ⟨_, rfl⟩
   obtain ⟨wd, hwd⟩ : ∃ z, z = hi2 - lo2 := ⟨_, rfl⟩
   obtain ⟨e1, he1⟩ : ∃ z : Int, z = (i : Int) - 1 := ⟨_, rfl⟩
   obtain ⟨e3, he3⟩ : ∃ z : Int, z = 300 * e1 := ⟨_, rfl⟩
   have amQ : lo2 = lo + r0 := by rw [HLO.out, hr0]
   have amx : hi2 = mx + r1 := by rw [HHI.out, hmx, hr1]
   have HPA := ae (hpa lo2 rfl)
   have HPW := ae (hpw wd hwd)
   have HE3 : Hid (300 * ((i : Int) - 1) = e3) := by show _ = _; rw [he3, he1]
   have hm1 : Int.tmod (b0 : Int) 20 = (r0 : Int) := by rw [Int.tmod_eq_emod_of_nonneg (by omega)]; omega
   have hm2 : (b0 : Int) % 20 = (r0 : Int) := by omega
   have hm3 : Int.tmod (b1 : Int) 10 = (r1 : Int) := by rw [Int.tmod_eq_emod_of_nonneg (by omega)]; omega
   have hm4 : (b1 : Int) % 10 = (r1 : Int) := by omega
   have hm5 : IntKind.i64.wrap (r0 : Int) = (r0 : Int) := IntWalk.i64_in _ (by omega)
   have hm6 : IntKind.i64.wrap (r1 : Int) = (r1 : Int) := IntWalk.i64_in _ (by omega)
   have hm7 : IntKind.i64.wrap ((lo : Int) + (r0 : Int)) = (lo2 : Int) := (IntWalk.i64_in _ (by omega)).trans (by omega)
   have hm8 : max (hi_ : Int) (lo2 : Int) = (mx : Int) := by rw [hmx]; omega
   have hm9 : IntKind.i64.wrap ((mx : Int) + (r1 : Int)) = (hi2 : Int) := (IntWalk.i64_in _ (by omega)).trans (by omega)
   have aqw : IntKind.i64.wrap ((hi2 : Int) - (lo2 : Int)) = (wd : Int) := (IntWalk.i64_in _ (by omega)).trans (by omega)
   have aqx : IntKind.i64.wrap ((i : Int) - 1) = e1 := (IntWalk.i64_in _ (by omega)).trans (by omega)
   have aqy : IntKind.i64.wrap (300 * e1) = e3 := (IntWalk.i64_in _ (by omega)).trans (by omega)
   have aqz : IntKind.i64.wrap (b0 : Int) = (b0 : Int) := IntWalk.i64_in _ (by omega)
   have aqA : IntKind.i64.wrap (b1 : Int) = (b1 : Int) := IntWalk.i64_in _ (by omega)
   have hi3 : i ≤ 2 := by omega
   have atC := ae amQ
   have atB := ae amx
   rw [HE3.out] at HTE
   clear hc0 hc1 hlo hhi hle hlo2 hhi2 hpa hpw hlt hr0 hr1 hmx hwd he1 he3 amQ amx HLO HHI hz0 hz1
   generalize yJ sl i + Io sl i * nM r 250 = kx at *
   generalize yJ sl i + Io sl i = kb at *
   generalize yJ sl i = ka at *
   generalize Io sl i = kw at *
   have Ec0 := (HS.out.bel.cell (p := ⟨bb, ob + i * 2, none⟩) IX.out).trans Oz.out
   have Ec1 := (HS.out.bel.cell (p := ⟨bb, ob + i * 2 + 1, none⟩) IX.out).trans HE1.out
   go_wp2_with fail
   clear Ec0 Ec1
   generalize hW3 : (wr2).alloc (.cells _ _) = W3 at *
   replace HG := ae (((HG.out).alloc (B := wr2.heap.size) rfl).to hW3 (by (try simp only [ig, ik]); rfl))
   replace HS := ae (((HS.out).alloc (B := wr2.heap.size) rfl (by rfl)).to hW3 (by (try simp only [ig, ik]); rfl))
   clear hW3
   refine (HPA.out _).mono ?_
   rintro e w4 ⟨v4, rfl, hv4, hb4⟩
   obtain ⟨z4, rfl⟩ := hv4.bn
   replace HS := ae (HS.out.below hb4)
   replace HG := ae (HG.out.below hb4)
   clear hb4
   replace HS := ae (HS.out.az hv4)
   clear hv4
   go_wp2_with fail
   refine (HPW.out _).mono ?_
   rintro e w5 ⟨v5, rfl, hv5, hb5⟩
   obtain ⟨z5, rfl⟩ := hv5.bn
   replace HS := ae (HS.out.below hb5)
   replace HG := ae (HG.out.below hb5)
   clear hb5
   replace HS := ae (HS.out.az hv5)
   clear hv5
   go_wp2_with fail
   refine (HSP.out _ _ _ (HS.out.p 1 _ _ rfl) (HS.out.p 0 _ _ rfl)).mono ?_
   rintro e w6 ⟨iY, iZ, mW, rfl, ang, anh, aes, hb6⟩
   replace HS := ae (HS.out.below hb6)
   replace HG := ae (HG.out.below hb6)
   clear hb6
   replace HS := ae (HS.out.az ang)
   clear ang
   replace HS := ae (HS.out.az anh)
   clear anh
   replace HS := ae (HS.out.az aes)
   clear aes
   go_upto_region 9 with fail
   generalize hW7 : ((w6).alloc (.cells _ _)).alloc (.cells _ _) = W7 at *
   replace HG := ae ((((HG.out).alloc (B := w6.heap.size) rfl).alloc (B := w6.heap.size + 1) (by simp)).to hW7 (by (try simp only [ig, ik]); rfl))
   replace HS := ae ((((HS.out).alloc (B := w6.heap.size) rfl (by rfl)).alloc (B := w6.heap.size + 1) (by simp) (by rfl)).to hW7 (by (try simp only [ig, ik]); rfl))
   clear hW7
   have gW := (HS.out.at 3 _ _ _ rfl)
   have kC := af gW 0 (.slice ta i tc) rfl
   have kD := af gW 1 (.slice ra i rc) rfl
   have lT := ah gW 0
   have lU := ah gW 1
   have yO := ai gW
   clear gW
   obtain ⟨rH, rJ, rM, Ya, Yb, Yc, ui, uj, uk, Yd, Ye, Yf⟩ := dO (x := iY) (y := iZ) (HS.out.at 1 _ _ _ rfl)
   have Ji := ai (HS.out.at 1 _ _ _ rfl)
   have nO := ae ((HS.out).alloc (B := W7.heap.size) (T := 74) (cs := #[.int .i64 (e3 : Int), .bool iY.b, .slice iY.a iY.n iY.c, .slice iY.d iY.m iY.e, .bool iZ.b, .slice iZ.a iZ.n iZ.c, .slice iZ.d iZ.m iZ.e]) rfl (by rfl))
   have CE := ae ((HG.out).alloc (B := W7.heap.size) (T := 74) (cs := #[.int .i64 (e3 : Int), .bool iY.b, .slice iY.a iY.n iY.c, .slice iY.d iY.m iY.e, .bool iZ.b, .slice iZ.a iZ.n iZ.c, .slice iZ.d iZ.m iZ.e]) rfl)
   obtain ⟨ii8, hi8, hz8, hs8, hy8⟩ := info_parts FP
   have anM : ∀ u ∈ (Value.agg #[.int .i64 0, .bool false, .slice none 0 0, .slice none 0 0, .bool false, .slice none 0 0, .slice none 0 0]).cells.toList, jh u := by
    intro u hu
    have hu : u ∈ [.int .i64 0, .bool false, .slice none 0 0, .slice none 0 0, .bool false, .slice none 0 0, .slice none 0 0] := hu
    simp only [List.mem_cons, List.not_mem_nil, or_false] at hu
    rcases hu with rfl | rfl | rfl | rfl | rfl | rfl | rfl
    all_goals first | exact fA _ | exact dH _ _ _ | exact xZ _
   go_wp2_with (at_builtin; refine dZ _ rfl (.tmp 49) (.tmp 55) 26 rfl w.heap.size 74 ii8 _ 7 120 Tryz.underlying26 hi8 hz8 hs8 hy8 rfl (by decide) anM _ _ _ rfl (CE.out.row 1 _ rfl) ⟨W7.heap.size, 0, none⟩ 1 1 [.int .i64 (e3 : Int), .bool iY.b, .slice iY.a iY.n iY.c, .slice iY.d iY.m iY.e, .bool iZ.b, .slice iZ.a iZ.n iZ.c, .slice iZ.d iZ.m iZ.e] rfl rfl (nX (nO.out.at 0 _ _ _ rfl)) (by simp [Value.oneCell']) (by intro u hu; simp only [List.mem_cons, List.not_mem_nil, or_false] at hu; rcases hu with rfl | rfl | rfl | rfl | rfl | rfl | rfl; all_goals first | exact fA _ | exact dH _ _ _ | exact xZ _) (by omega) (by dsimp only; unfold maxLen; omega) (by dsimp only; omega) nO.out.bel.size ?_)
   intro g8 BR w8 hL8 amw aiA
   have al1 : dL w8 w.heap.size 74 7 (.slice (some ⟨g8, 0, none⟩) (i + 1) BR) (i + 1) (tx ++ [.int .i64 (e3 : Int), .bool iY.b, .slice iY.a iY.n iY.c, .slice iY.d iY.m iY.e, .bool iZ.b, .slice iZ.a iZ.n iZ.c, .slice iZ.d iZ.m iZ.e]) := hL8
   clear hL8
   have hL8 := al1
   clear al1
   obtain ⟨am1, amn⟩ := Sx.RQ nO.out CE.out 1 rfl 1 [.int .i64 (e3 : Int), .bool iY.b, .slice iY.a iY.n iY.c, .slice iY.d iY.m iY.e, .bool iZ.b, .slice iZ.a iZ.n iZ.c, .slice iZ.d iZ.m iZ.e] [(true, iY.val, ka), (true, iZ.val, kb)] (by
     intro f hf
     simp only [List.mem_cons, List.not_mem_nil, or_false] at hf
     rcases hf with rfl | rfl
     · exact (nO.out.p 2 _ _ rfl)
     · exact (nO.out.p 1 _ _ rfl)) hL8 amw (by intro c hc; simp [Value.ownBlock] at hc; subst hc; first | exact aiA | simpa using aiA)
   clear kC kD lT lU yO rH rJ rM Ya Yb Yc ui uj uk Yd Ye Yf Ji
   clear nO CE
   replace HS : Hid (Sx w w8 [(W7.heap.size, #[.int .i64 (e3 : Int), .bool iY.b, .slice iY.a iY.n iY.c, .slice iY.d iY.m iY.e, .bool iZ.b, .slice iZ.a iZ.n iZ.c, .slice iZ.d iZ.m iZ.e], 74), (w6.heap.size + 1, mW.arr, 40), (w6.heap.size, aY iY iZ, 43), (wr2.heap.size, #[.int .u8 (b0 : Int), .int .u8 (b1 : Int)], 70), (w.heap.size + 1, #[.slice ta i tc, .slice ra i rc], 29), (w.heap.size, #[.slice none 0 0, .slice none 0 0], 29)] [(true, mW.val, kx), (true, iZ.val, kb), (true, iY.val, ka), (true, z5.val, kw), (true, z4.val, ka)]) := am1
   replace HG : Hid (pO w w8 [(W7.heap.size, #[.int .i64 (e3 : Int), .bool iY.b, .slice iY.a iY.n iY.c, .slice iY.d iY.m iY.e, .bool iZ.b, .slice iZ.a iZ.n iZ.c, .slice iZ.d iZ.m iZ.e], 74), (w6.heap.size + 1, mW.arr, 40), (w6.heap.size, aY iY iZ, 43), (wr2.heap.size, #[.int .u8 (b0 : Int), .int .u8 (b1 : Int)], 70), (w.heap.size + 1, #[.slice ta i tc, .slice ra i rc], 29), (w.heap.size, #[.slice none 0 0, .slice none 0 0], 29)] [⟨40, 3, .slice ra i rc, i, rx, rf⟩, ⟨74, 7, (.slice (some ⟨g8, 0, none⟩) (i + 1) BR), (i + 1), (tx ++ [.int .i64 (e3 : Int), .bool iY.b, .slice iY.a iY.n iY.c, .slice iY.d iY.m iY.e, .bool iZ.b, .slice iZ.a iZ.n iZ.c, .slice iZ.d iZ.m iZ.e]), (tf ++ [(true, iY.val, ka), (true, iZ.val, kb)])⟩]) := amn
   clear am1 amn hL8 amw aiA anM hi8 hz8 hs8 hy8
   have gW := (HS.out.at 4 _ _ _ rfl)
   have kC := af gW 0 (.slice ta i tc) rfl
   have kD := af gW 1 (.slice ra i rc) rfl
   have lT := ah gW 0
   have lU := ah gW 1
   have yO := ai gW
   clear gW
   go_upto_region 10 with fail
   clear kC kD lT lU yO
   generalize hW9 : (w8).setCell _ _ = W9 at *
   replace HG := ae (((HG.out).yg (HS.out) 4 ta i tc ra i rc (some ⟨g8, 0, none⟩) (i + 1) BR rfl).to hW9 (by (try simp only [ig, ik]); rfl))
   replace HS := ae (((HS.out).yg 4 ta i tc ra i rc (some ⟨g8, 0, none⟩) (i + 1) BR rfl).to hW9 (by (try simp only [ig, ik]); rfl))
   clear hW9
   have gW := (HS.out.at 4 _ _ _ rfl)
   have kC := af gW 0 ((.slice (some ⟨g8, 0, none⟩) (i + 1) BR)) rfl
   have kD := af gW 1 (.slice ra i rc) rfl
   have lT := ah gW 0
   have lU := ah gW 1
   have yO := ai gW
   clear gW
   obtain ⟨BP, LH, LJ, DN, OM, OO⟩ := eu (x := mW) (HS.out.at 1 _ _ _ rfl)
   have Yj := ai (HS.out.at 1 _ _ _ rfl)
   have nO := ae ((HS.out).alloc (B := W9.heap.size) (T := 40) (cs := #[.bool mW.b, .slice mW.a mW.n mW.c, .slice mW.d mW.m mW.e]) rfl (by rfl))
   have CE := ae ((HG.out).alloc (B := W9.heap.size) (T := 40) (cs := #[.bool mW.b, .slice mW.a mW.n mW.c, .slice mW.d mW.m mW.e]) rfl)
   obtain ⟨aqT, amy, anH, hs10, anB⟩ := info_parts Cj
   have agx : ∀ u ∈ (Value.agg #[.bool false, .slice none 0 0, .slice none 0 0]).cells.toList, jh u := by
    intro u hu
    have hu : u ∈ [.bool false, .slice none 0 0, .slice none 0 0] := hu
    simp only [List.mem_cons, List.not_mem_nil, or_false] at hu
    rcases hu with rfl | rfl | rfl
    all_goals first | exact fA _ | exact dH _ _ _ | exact xZ _
   go_wp2_with (at_builtin; refine dZ _ rfl (.tmp 59) (.tmp 61) 27 rfl w.heap.size 40 aqT _ 3 56 Tryz.underlying27 amy anH hs10 anB rfl (by decide) agx _ _ _ rfl (CE.out.row 0 _ rfl) ⟨W9.heap.size, 0, none⟩ 1 1 [.bool mW.b, .slice mW.a mW.n mW.c, .slice mW.d mW.m mW.e] rfl rfl (nX (nO.out.at 0 _ _ _ rfl)) (by simp [Value.oneCell']) (by intro u hu; simp only [List.mem_cons, List.not_mem_nil, or_false] at hu; rcases hu with rfl | rfl | rfl; all_goals first | exact fA _ | exact dH _ _ _ | exact xZ _) (by omega) (by dsimp only; unfold maxLen; omega) (by dsimp only; omega) nO.out.bel.size ?_)
   intro g10 LK w10 Y9 agi Zc
   have af4 : dL w10 w.heap.size 40 3 (.slice (some ⟨g10, 0, none⟩) (i + 1) LK) (i + 1) (rx ++ [.bool mW.b, .slice mW.a mW.n mW.c, .slice mW.d mW.m mW.e]) := Y9
   clear Y9
   have Y9 := af4
   clear af4
   obtain ⟨agm, agc⟩ := Sx.RQ nO.out CE.out 0 rfl 1 [.bool mW.b, .slice mW.a mW.n mW.c, .slice mW.d mW.m mW.e] [(true, mW.val, kx)] (by
     intro f hf
     simp only [List.mem_cons, List.not_mem_nil, or_false] at hf
     rcases hf with rfl
     · exact (nO.out.p 0 _ _ rfl)) Y9 agi (by intro c hc; simp [Value.ownBlock] at hc; subst hc; first | exact Zc | simpa using Zc)
   clear kC kD lT lU yO BP LH LJ DN OM OO Yj
   clear nO CE
   replace HS : Hid (Sx w w10 [(W9.heap.size, mW.arr, 40), (W7.heap.size, #[.int .i64 (e3 : Int), .bool iY.b, .slice iY.a iY.n iY.c, .slice iY.d iY.m iY.e, .bool iZ.b, .slice iZ.a iZ.n iZ.c, .slice iZ.d iZ.m iZ.e], 74), (w6.heap.size + 1, mW.arr, 40), (w6.heap.size, aY iY iZ, 43), (wr2.heap.size, #[.int .u8 (b0 : Int), .int .u8 (b1 : Int)], 70), (w.heap.size + 1, #[(.slice (some ⟨g8, 0, none⟩) (i + 1) BR), .slice ra i rc], 29), (w.heap.size, #[.slice none 0 0, .slice none 0 0], 29)] [(true, mW.val, kx), (true, iZ.val, kb), (true, iY.val, ka), (true, z5.val, kw), (true, z4.val, ka)]) := agm
   replace HG : Hid (pO w w10 [(W9.heap.size, mW.arr, 40), (W7.heap.size, #[.int .i64 (e3 : Int), .bool iY.b, .slice iY.a iY.n iY.c, .slice iY.d iY.m iY.e, .bool iZ.b, .slice iZ.a iZ.n iZ.c, .slice iZ.d iZ.m iZ.e], 74), (w6.heap.size + 1, mW.arr, 40), (w6.heap.size, aY iY iZ, 43), (wr2.heap.size, #[.int .u8 (b0 : Int), .int .u8 (b1 : Int)], 70), (w.heap.size + 1, #[(.slice (some ⟨g8, 0, none⟩) (i + 1) BR), .slice ra i rc], 29), (w.heap.size, #[.slice none 0 0, .slice none 0 0], 29)] [⟨40, 3, (.slice (some ⟨g10, 0, none⟩) (i + 1) LK), (i + 1), (rx ++ [.bool mW.b, .slice mW.a mW.n mW.c, .slice mW.d mW.m mW.e]), (rf ++ [(true, mW.val, kx)])⟩, ⟨74, 7, (.slice (some ⟨g8, 0, none⟩) (i + 1) BR), (i + 1), (tx ++ [.int .i64 (e3 : Int), .bool iY.b, .slice iY.a iY.n iY.c, .slice iY.d iY.m iY.e, .bool iZ.b, .slice iZ.a iZ.n iZ.c, .slice iZ.d iZ.m iZ.e]), (tf ++ [(true, iY.val, ka), (true, iZ.val, kb)])⟩]) := agc
   clear agm agc Y9 agi Zc agx amy anH hs10 anB
   have gW := (HS.out.at 5 _ _ _ rfl)
   have kC := af gW 0 ((.slice (some ⟨g8, 0, none⟩) (i + 1) BR)) rfl
   have kD := af gW 1 (.slice ra i rc) rfl
   have lT := ah gW 0
   have lU := ah gW 1
   have yO := ai gW
   clear gW
   go_wp2_with fail
   clear kC kD lT lU yO
   generalize aip : (w10).setCell _ _ = W11 at *
   replace HG := ae (((HG.out).yh (HS.out) 5 (some ⟨g8, 0, none⟩) (i + 1) BR ra i rc (some ⟨g10, 0, none⟩) (i + 1) LK rfl).to aip (by (try simp only [ig, ik]); rfl))
   replace HS := ae (((HS.out).yh 5 (some ⟨g8, 0, none⟩) (i + 1) BR ra i rc (some ⟨g10, 0, none⟩) (i + 1) LK rfl).to aip (by (try simp only [ig, ik]); rfl))
   clear aip
   exact ⟨⟨i + 1, (some ⟨g8, 0, none⟩), BR, (some ⟨g10, 0, none⟩), LK, (tx ++ [.int .i64 (e3 : Int), .bool iY.b, .slice iY.a iY.n iY.c, .slice iY.d iY.m iY.e, .bool iZ.b, .slice iZ.a iZ.n iZ.c, .slice iZ.d iZ.m iZ.e]), (tf ++ [(true, iY.val, ka), (true, iZ.val, kb)]), (rx ++ [.bool mW.b, .slice mW.a mW.n mW.c, .slice mW.d mW.m mW.e]), (rf ++ [(true, mW.val, kx)]), by have := gq.out; omega, by go_num, by rw [HGL.out], by rw [HGH.out], ae (by rw [HTE.out]; exact HEN.out.snoc _ _ _ _ _), ae (by rw [HTR.out]; exact HFR.out.snoc _ _), ae ((((((HS.out).erase 0).erase 0).erase 0).erase 0).erase 0), ae (HG.out.mono (fun b hb => ⟨b, by simp only [List.mem_cons] at hb ⊢; first | exact hb | (repeat (first | exact hb | right)), rfl⟩))⟩, bU gq.out⟩
  ·
   obtain rfl : i = (yB sl) := by omega
   have gW := (HS.out.at 0 _ _ _ rfl)
   have kC := af gW 0 (.slice ta (yB sl) tc) rfl
   have kD := af gW 1 (.slice ra (yB sl) rc) rfl
   have lT := ah gW 0
   have lU := ah gW 1
   have yO := ai gW
   clear gW
   have bg := (HS.out.at 1 _ _ _ rfl)
   have iy := af bg 0 (.slice none 0 0) rfl
   have iL := af bg 1 (.slice none 0 0) rfl
   have jI := ah bg 0
   have jU := ah bg 1
   have rG := ai bg
   clear bg
   go_wp2_with fail
   clear kC kD lT lU yO iy iL jI jU rG
   generalize aiq : ((wr2).setCell _ _).setCell _ _ = W12 at *
   replace HG := ae (((HG.out).TP (HS.out) 1 none 0 0 none 0 0 ta (yB sl) tc ra (yB sl) rc rfl).to aiq (by (try simp only [ig, ik]); rfl))
   replace HS := ae (((HS.out).TP 1 none 0 0 none 0 0 ta (yB sl) tc ra (yB sl) rc rfl).to aiq (by (try simp only [ig, ik]); rfl))
   clear aiq
   have bg := (HS.out.at 1 _ _ _ rfl)
   have iy := af bg 0 (.slice ta (yB sl) tc) rfl
   have iL := af bg 1 (.slice ra (yB sl) rc) rfl
   clear bg
   refine bodyPost_ret (v := .agg #[.slice ta (yB sl) tc, .slice ra (yB sl) rc]) (by simp [results, Tryz.results5, go_sem, iy, iL]) rfl ⟨_, _, rfl, kN.ofRow (by rw [uA]; exact HG.out.row 1 _ rfl) (HEN.out _ (HG.out.B_ 1 _ rfl)), di.ofRow (by rw [aey]; exact HG.out.row 0 _ rfl) (HFR.out _ (HG.out.B_ 0 _ rfl)), HS.out.bel⟩
theorem Ik {a b y : Rat} (h1 : a ≤ y) (h2 : y ≤ b) : hasB a b y = true := by
 unfold hasB
 rw [decide_eq_true (k_.2 h1), decide_eq_true (k_.2 h2)]; rfl
theorem Ti (c d a b : Rat) (vx vy : Value) (w : World) (hx : cZ w vx c d) (hy : cZ w vy a b) (h1 : a ≤ c) (h2 : c ≤ d) (h3 : d ≤ b) (sc : bQ c 100000) (sd : bQ d 100000) (sa : bQ a 100000) (sb : bQ b 100000) :
  Calls Tryz.prog 12 #[vx, vy] w (ja true w) := by
 obtain ⟨x1, x2, rfl, g1, g2⟩ := hx
 obtain ⟨y1, y2, rfl, g3, g4⟩ := hy
 have HS := ae (((((Sx.init w).az g1).az g2).az g3).az g4)
 have HD1 := ae h1
 have HD2 := ae (Rat.le_trans h2 h3)
 have HD3 := ae (Rat.le_trans h1 h2)
 have HD4 := ae h3
 have Sa := ae sa
 have Sb := ae sb
 have Sc := ae sc
 have Sd := ae sd
 clear g1 g2 g3 g4 h1 h2 h3 sa sb sc sd
 go_enter Tryz.func12, Tryz.ntmps12
 go_wp2_with fail
 generalize hW1 : ((w).alloc (.cells _ _)).alloc (.cells _ _) = W1 at *
 replace HS := ae ((((HS.out).alloc (B := w.heap.size) rfl (by rfl)).alloc (B := w.heap.size + 1) (by simp) (by rfl)).to hW1 (by (try simp only [ig, ik]); rfl))
 clear hW1
 refine (NK a b c _ _ _ (gB (HS.out.p 1 _ _ rfl) (HS.out.p 0 _ _ rfl)) (HS.out.p 3 _ _ rfl) (aj Sa.out (by omega)) (aj Sb.out (by omega)) (aj Sc.out (by omega))).mono ?_
 rw [Ik HD1.out HD2.out]
 rintro e w2 ⟨rfl, hb2⟩
 replace HS := ae (HS.out.below hb2)
 clear hb2
 obtain ⟨kC, kD, qB, Am, Ap, Aq, lT, lU, vK, Jf, Jg, Jh⟩ := dO (x := y1) (y := y2) (HS.out.at 0 _ _ _ rfl)
 have yO := ai (HS.out.at 0 _ _ _ rfl)
 obtain ⟨iy, iL, jD, pg, qo, qp, jI, jU, kz, qx, qy, qA⟩ := dO (x := x1) (y := x2) (HS.out.at 1 _ _ _ rfl)
 have rG := ai (HS.out.at 1 _ _ _ rfl)
 go_wp2_with fail
 clear kC kD qB Am Ap Aq lT lU vK Jf Jg Jh yO iy iL jD pg qo qp jI jU kz qx qy qA rG
 refine (NK a b d _ _ _ (gB (HS.out.p 1 _ _ rfl) (HS.out.p 0 _ _ rfl)) (HS.out.p 2 _ _ rfl) (aj Sa.out (by omega)) (aj Sb.out (by omega)) (aj Sd.out (by omega))).mono ?_
 rw [Ik HD3.out HD4.out]
 rintro e w3 ⟨rfl, hb3⟩
 replace HS := ae (HS.out.below hb3)
 clear hb3
 go_wp2_with fail
 go_ret
 exact ⟨by rfl, HS.out.bel⟩
theorem tZ.below {w w' : World} {v : Value} {l : List (Nat × Nat)} (h : tZ w v l) (hb : Below w.heap.size w w') : tZ w' v l := by
 obtain ⟨b, off, cap, rfl, hc, hlt, h⟩ := h
 exact ⟨b, off, cap, rfl, hc, Nat.lt_of_lt_of_le hlt hb.size, fun i hi => ⟨(hb.cell (p := ⟨b, _, none⟩) hlt).trans (h i hi).1, (hb.cell (p := ⟨b, _, none⟩) hlt).trans (h i hi).2⟩⟩
theorem qg.below {w w' : World} {v : Value} {l : List (List Nat)} (h : qg w v l) (hb : Below w.heap.size w w') : qg w' v l := by
 obtain ⟨ao, cap, rfl, h⟩ := h
 refine ⟨ao, cap, rfl, fun hl => ?_⟩
 obtain ⟨b, off, rfl, hlt, h⟩ := h hl
 exact ⟨b, off, rfl, Nat.lt_of_lt_of_le hlt hb.size, fun i hi j hj => (hb.cell (p := ⟨b, _, none⟩) hlt).trans (h i hi j hj)⟩
theorem di.slice {p : Bool} {k : Nat} {w : World} {v : Value} {qs : List (List Rat)} (h : di p k w v qs) : ∃ a c, v = .slice a qs.length c := by
 obtain ⟨a, c, h, _⟩ := h
 exact ⟨a, c, h⟩
theorem kN.slice {w : World} {v : Value} {es : List lD} (h : kN aA w v es) : ∃ a c, v = .slice a es.length c := by
 obtain ⟨a, c, h, _⟩ := h
 exact ⟨a, c, h⟩
theorem jF.lift {w0 w1 w' : World} {bs : List Bx} {hs : List yz} (hw : w0.heap.size ≤ w1.heap.size) (hl : ∀ b, b ∈ bs → b.1 < w1.heap.size) (h' : jF w1 w' [] hs) : jF w0 w' bs hs := by
 refine ⟨fun i r hi => (h'.row i r hi).weaken hw, h'.mean, fun b hb r hr => ?_, h'.apart⟩
 obtain ⟨i, hi⟩ := List.mem_iff_getElem?.1 hr
 exact fun hc => by have := ((h'.row i r hi).lt hc).2; have := hl b hb; omega
theorem jF.tl {w0 w : World} {bs : List Bx} {g : yz} {gs : List yz} (h : jF w0 w bs (g :: gs)) : jF w0 w bs gs :=
 ⟨fun i r hi => h.row (i + 1) r (by simpa using hi), fun i r hi => h.mean (i + 1) r (by simpa using hi), fun b hb r hr => h.sep b hb r (List.mem_cons_of_mem _ hr),
  fun i j r s hi hj hij => h.apart (i + 1) (j + 1) r s (by simpa using hi) (by simpa using hj) (by omega)⟩
def QT (lo hi : Rat) : ByteArray := ({ data := #[91] } ++ eP (qV lo) ++ { data := #[44] } ++ eP (qV hi) ++ { data := #[93] })
theorem IM {q : Rat} (h : bQ q 100000000) : (eP (qV q)).size ≤ 3000000000000 := by
 have h1 := vX q.num.natAbs (Nat.le_trans h.1 (by omega))
 have h2 := vX q.den (Nat.le_trans h.2 (by omega))
 rw [jO] at h1 h2 ⊢
 unfold qV
 rw [List.length_append, List.length_append]
 have h3 : (if q.num < 0 then [45] else ([] : List UInt8)).length ≤ 1 := by split <;> simp
 have h4 : (if q.den = 1 then [] else 47 :: lI q.den).length ≤ (lI q.den).length + 1 := by split <;> simp
 omega
def KZ (t : ByteArray) (w : World) (e : Ending) (w' : World) : Prop := e = .returned (.string t) ∧ Below w.heap.size w w'
theorem IJ (lo hi : Rat) (v : Value) (w : World) (h : cZ w v lo hi) (s1 : bQ lo 100000000) (s2 : bQ hi 100000000) : Calls Tryz.prog 14 #[v] w (KZ (QT lo hi) w) := by
 have HT1 : Hid (∀ W v, aA W v lo → Calls Tryz.prog 26 #[v] W (KZ (eP (qV lo)) W)) := fun W v h => xC lo v W h (aj s1 (by omega))
 have HT2 : Hid (∀ W v, aA W v hi → Calls Tryz.prog 26 #[v] W (KZ (eP (qV hi)) W)) := fun W v h => xC hi v W h (aj s2 (by omega))
 have hs1 : (eP (qV lo)).size ≤ 3000000000000 := IM s1
 have hs2 : (eP (qV hi)).size ≤ 3000000000000 := IM s2
 have HE : Hid (QT lo hi = ({ data := #[91] } ++ eP (qV lo) ++ { data := #[44] } ++ eP (qV hi) ++ { data := #[93] })) := rfl
 generalize QT lo hi = rt at *
 generalize eP (qV lo) = t1 at *
 generalize eP (qV hi) = t2 at *
 have hq1 : ¬ 9223372036854775807 < 1 + t1.size := by omega
 have hq2 : ¬ 9223372036854775807 < 1 + t1.size + 1 := by omega
 have hq3 : ¬ 9223372036854775807 < 1 + t1.size + 1 + t2.size := by omega
 have hq4 : ¬ 9223372036854775807 < 1 + t1.size + 1 + t2.size + 1 := by omega
 obtain ⟨x1, x2, rfl, g1, g2⟩ := h
 have HS := ae (((Sx.init w).az g1).az g2)
 clear g1 g2 s1 s2
 go_enter Tryz.func14, Tryz.ntmps14
 go_wp2_with fail
 generalize hW1 : (w).alloc (.cells _ _) = W1 at *
 replace HS := ae (((HS.out).alloc (B := w.heap.size) rfl (by rfl)).to hW1 (by (try simp only [ig, ik]); rfl))
 clear hW1
 refine wp_region_held_drew (S := (fun w' => Sx w w' [(w.heap.size, aY x1 x2, 43)] [])) (by kernel_rfl) ((HS.out.drew).bare) (fun hh => ?_)
 replace HS := ae HS.out.drew
 refine dF (i := 0) (v := ?vk3) rfl ?hk3 ?rk3
 case hk3 => intro u aH; go_simp <;> with_reducible rfl
 try simp only [ag]
 refine dF (i := 1) (v := ?vk4) rfl ?hk4 ?rk4
 case hk4 => intro u aH; (try dsimp only at aH); obtain ⟨kH, kJ, kK, qN, ru, ry, _⟩ := dO (x := x1) (y := x2) (aH.at 0 _ _ _ rfl); clear aH; go_simp <;> with_reducible rfl
 try simp only [ag]
 refine dF (i := 5) (v := ?vk5) rfl ?hk5 ?rk5
 case hk5 => intro u aH; go_simp <;> with_reducible rfl
 try simp only [ag]
 refine dF (i := 6) (v := ?vk6) rfl ?hk6 ?rk6
 case hk6 => intro u aH; (try dsimp only at aH); obtain ⟨kH, kJ, kK, qN, ru, ry, _⟩ := dO (x := x1) (y := x2) (aH.at 0 _ _ _ rfl); clear aH; go_simp <;> with_reducible rfl
 try simp only [ag]
 refine rdA (i := 2) rfl (fun K hK => ?_)
 go_simp
 have a8 := HS.out.p 1 _ _ rfl
 go_wp2_with (go_at_call 26; (with_reducible refine (HT1.out _ _ a8).mono ?_); rintro e w7 ⟨rfl, hb7⟩)
 refine hK.out _ _ (Sx.below hh hb7) (fun hh => ?_)
 clear hK K
 try simp only [ag]
 replace HS := ae (HS.out.below hb7)
 clear hb7 a8
 refine dF (i := 3) (v := ?vk9) rfl ?hk9 ?rk9
 case hk9 => intro u aH; go_simp <;> with_reducible rfl
 try simp only [ag]
 refine dF (i := 4) (v := ?aol) rfl ?hk10 ?an6
 case hk10 => intro u aH; go_simp <;> with_reducible rfl
 try simp only [ag]
 refine rdA (i := 7) rfl (fun K hK => ?_)
 go_simp
 have a12 := HS.out.p 0 _ _ rfl
 go_wp2_with (go_at_call 26; (with_reducible refine (HT2.out _ _ a12).mono ?_); rintro e w11 ⟨rfl, yV⟩)
 refine hK.out _ _ (Sx.below hh yV) (fun hh => ?_)
 clear hK K
 try simp only [ag]
 replace HS := ae (HS.out.below yV)
 clear yV a12
 refine dF (i := 8) (v := ?afI) rfl ?Jz ?afx
 case Jz => intro u aH; go_simp <;> with_reducible rfl
 try simp only [ag]
 refine dF (i := 9) (v := ?akA) rfl ?PU ?akr
 case PU => intro u aH; go_simp <;> with_reducible rfl
 try simp only [ag]
 refine dF (i := 10) (v := ?aoo) rfl ?ZE ?an9
 case ZE => intro u aH; go_simp <;> with_reducible rfl
 try simp only [ag]
 refine wpAnyH_done (by kernel_rfl) ?_ _
 go_wp2_with fail
 go_ret
 exact ⟨by rw [HE.out] <;> rfl, HS.out.bel⟩
theorem xu {a b d : Nat} (h : a ≤ b) (hd : 0 < d) : nM a d ≤ nM b d := by
 unfold nM
 have h1 : (((a : Nat) : Int) : Rat) ≤ (((b : Nat) : Int) : Rat) := by exact_mod_cast h
 have h2 : (0 : Rat) < (((d : Nat) : Int) : Rat) := by exact_mod_cast hd
 rw [Rat.div_def, Rat.div_def]
 exact Rat.mul_le_mul_of_nonneg_right h1 (Rat.le_of_lt (Rat.inv_pos.2 h2))
theorem Tm (a b d : Nat) : nM a d + nM b d = nM (a + b) d := by
 unfold nM
 rw [Rat.div_def, Rat.div_def, Rat.div_def, ← Rat.add_mul, Int.natCast_add, Rat.intCast_add]
theorem NQ (d : Nat) (hd : 0 < d) : nM d d = 1 := by
 unfold nM
 have h2 : (((d : Nat) : Int) : Rat) ≠ 0 := by
  intro e
  have : ((d : Nat) : Int) = 0 := by exact_mod_cast e
  omega
 rw [Rat.div_def]
 exact Rat.mul_inv_cancel _ h2
theorem J9 (l : List (Nat × Nat)) (i : Nat) : yJ l i + Io l i = nM (wW l (i + 1)) 100 := by
 unfold yJ Io
 rw [Tm]
 congr 1
 have := agC l (i + 1)
 omega
theorem FU (l : List (Nat × Nat)) {n i : Nat} (hi : i < n) : (G_ l n).getD i (0, 0, 0) = ((300 : Int) * ((i : Int) - 1), yJ l i, yJ l i + Io l i) := by unfold G_; simp [List.getD, hi]
theorem aex (l : List (Nat × Nat)) (i : Nat) : sQ l i ≤ sQ l (i + 1) := Nat.le_add_right _ _
theorem aew (l : List (Nat × Nat)) (i : Nat) : wW l i ≤ wW l (i + 1) := Nat.le_trans (Nat.le_max_left _ _) (Nat.le_add_right _ _)
theorem aaf (l : List (Nat × Nat)) {i : Nat} (hi : i < 3) : 0 ≤ yJ l i ∧ yJ l i ≤ yJ l i + Io l i ∧ yJ l i + Io l i ≤ 1 := by
 have h1 : 0 ≤ yJ l i := rq _ _ (by omega)
 have h2 : 0 ≤ Io l i := rq _ _ (by omega)
 refine ⟨h1, by grind, ?_⟩
 rw [J9, ← NQ 100 (by omega)]
 exact xu (by have := CZ l (i + 1); omega) (by omega)
theorem anQ (l : List (Nat × Nat)) {n i : Nat} (hn : n ≤ 3) (hi : i < n) : sH (G_ l n) i = 0 := by
 have hr := aaf l (i := i) (by omega)
 unfold sH
 rw [FU l hi]
 dsimp only
 have hp : g_ (yJ l i) (yJ l i + Io l i) = true := mJ.2 ⟨hr.1, hr.2.2⟩
 rw [hp]
 by_cases h0 : 0 < i
 ·
  rw [FU l (show i - 1 < n by omega)]
  dsimp only
  have e1 : decide ((300 : Int) * ((i : Int) - 1) ≤ 300 * (((i - 1 : Nat) : Int) - 1)) = false := decide_eq_false (by omega)
  have ei : i - 1 + 1 = i := by omega
  have e2 : decide (dN (yJ l i) (yJ l (i - 1)) < 0) = false := decide_eq_false (by
   rw [oJ]
   have : yJ l (i - 1) ≤ yJ l i := by unfold yJ; rw [ei]; exact xu (aex l i) (by omega)
   grind)
  have e3 : decide (dN (yJ l i + Io l i) (yJ l (i - 1) + Io l (i - 1)) < 0) = false := decide_eq_false (by
   rw [oJ, J9, J9, ei]
   have : nM (wW l i) 100 ≤ nM (wW l (i + 1)) 100 := xu (aew l i) (by omega)
   grind)
  rw [e1, e2, e3]
  simp
 · rw [decide_eq_false h0]; rfl
theorem aad (l : List (Nat × Nat)) {n : Nat} (hn : n ≤ 3) : ∀ i, i ≤ n → jK (G_ l n) i = 0
 | 0, _ => rfl
 | i + 1, hi => vW (aad l hn i (by omega)) (anQ l hn (by omega))
theorem Z_ (l : List (Nat × Nat)) : yB l ≤ 3 := Nat.min_le_right _ _
theorem anP (l : List (Nat × Nat)) (h : 0 < l.length) : iG (G_ l (yB l)) = 0 := by
 unfold iG
 have h3 := Z_ l
 have h1 : 0 < yB l := Nat.lt_min.2 ⟨h, by omega⟩
 rw [if_neg (by rw [uA]; omega), uA]
 exact aad l h3 _ (Nat.le_refl _)
theorem ajE (l : List (Nat × Nat)) {n i : Nat} (hi : ¬ i < n) : (G_ l n).getD i (0, 0, 0) = (0, 0, 0) := by
 rw [List.getD_eq_getElem?_getD, List.getElem?_eq_none (by rw [uA]; omega)]
 rfl
theorem aq1 (l : List (Nat × Nat)) {n : Nat} (hn : n ≤ 3) : Pv (G_ l n) := fun i hi => by
 rw [uA] at hi
 rw [FU l hi]
 exact (aaf l (by omega)).2.1
theorem adZ {ls : List (List Rat)} {ed : Rat} (h : yK ls ed) (hn : 0 < ls.length ∧ ls.length ≤ 6) (hc : ∀ i, i < ls.length → 0 ≤ aS ls i 5 ∧ aS ls i 6 ≤ 1) : m_ ls = 0 := by
 unfold m_
 rw [if_neg (by omega)]
 have hb : ∀ i, i < ls.length → sG ls i = false := fun i hi => by
  unfold sG
  rw [yf.2 (h.pass i hi), mJ.2 (hc i hi), (h.cold i hi).1]
  rfl
 have hf : ∀ n, n ≤ ls.length → dS (sG ls) n = -1 := fun n => by
  induction n with
  | zero => intro _; rfl
  | succ n ih => intro hn'; exact uy (ih (by omega)) (hb n (by omega))
 rw [hf _ (Nat.le_refl _)]
 rfl
theorem Sm {ls : List (List Rat)} {es : List lD} {ed : Rat} (h : yK ls ed) (hn : 0 < ls.length ∧ ls.length ≤ 6) (hc : ∀ i, i < ls.length → 0 ≤ aS ls i 5 ∧ aS ls i 6 ≤ 1) (ht : iG es = 0) : lG ls es ed = 0 := by
 unfold lG
 rw [if_neg (by rw [adZ h hn hc]; decide), if_neg (by rw [ht]; decide), if_neg (by rw [yf.2 h.edge]; decide)]
theorem afF {ls : List (List Rat)} {ed : Rat} (h : yK ls ed) : yK (qQ ls ls.length) ed := by
 refine ⟨fun i hi => ?_, h.edge, fun i hi => ?_, fun i hi => ?_⟩
 ·
  rw [nG] at hi
  rw [KN ls hi]
  split
  · exact h.pass _ (by omega)
  · exact h.pass _ (by omega)
 ·
  rw [nG] at hi
  rw [oZ ls hi (by omega) (by omega), oZ ls hi (by omega) (by omega)]
  exact h.cold _ (by omega)
 ·
  rw [nG] at hi
  rw [oZ ls hi (by omega) (by omega), oZ ls hi (by omega) (by omega)]
  exact h.temp _ (by omega)
end Go.Proofs.YtkblihocfapklaaGreat
