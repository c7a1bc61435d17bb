/- Part f of the lemmas and walks. -/
import Derived.Test.YtfjcccpibhhncaaGreatAe

namespace Go.Proofs.YtfjcccpibhhncaaGreat
open Go.RowKit

def bestUp (b : Rat → Rat → Bool) (f : Nat → Rat) : Nat → Rat
 | 0 => f 0
 | i + 1 => if b (f (i + 1)) (bestUp b f i) then f (i + 1) else bestUp b f i
def ltB (x y : Rat) : Bool := decide (cmpR x y < 0)
def gtB (x y : Rat) : Bool := decide (cmpR x y > 0)
theorem bestUp_all {b : Rat → Rat → Bool} {f : Nat → Rat} {P : Rat → Prop} (h : ∀ i, P (f i)) : ∀ n, P (bestUp b f n)
 | 0 => h 0
 | n + 1 => by
  unfold bestUp
  split
  ·
   exact h _
  ·
   exact bestUp_all h n
theorem kc6 {W a b : World} {B0 j0 B1 j1 B2 j2 B3 j3 B4 j4 B5 j5 : Nat} {v0 v1 v2 v3 v4 v5 : Value} (hb : Below a.heap.size a b) (h : Below W.heap.size W a ∧ a.cell? ⟨B0, j0, none⟩ = some (v0) ∧ a.cell? ⟨B1, j1, none⟩ = some (v1) ∧ a.cell? ⟨B2, j2, none⟩ = some (v2) ∧ a.cell? ⟨B3, j3, none⟩ = some (v3) ∧ a.cell? ⟨B4, j4, none⟩ = some (v4) ∧ a.cell? ⟨B5, j5, none⟩ = some (v5)) : Below W.heap.size W b ∧ b.cell? ⟨B0, j0, none⟩ = some (v0) ∧ b.cell? ⟨B1, j1, none⟩ = some (v1) ∧ b.cell? ⟨B2, j2, none⟩ = some (v2) ∧ b.cell? ⟨B3, j3, none⟩ = some (v3) ∧ b.cell? ⟨B4, j4, none⟩ = some (v4) ∧ b.cell? ⟨B5, j5, none⟩ = some (v5) := by
 obtain ⟨h0, k0, k1, k2, k3, k4, k5⟩ := h
 have e : ∀ B j v, a.cell? ⟨B, j, none⟩ = some v → b.cell? ⟨B, j, none⟩ = some v := fun B j v h => (hb.cell (p := ⟨B, j, none⟩) (World.block_lt_of_cell? (h := h))).trans h
 exact ⟨bt h0 hb, e _ _ _ k0, e _ _ _ k1, e _ _ _ k2, e _ _ _ k3, e _ _ _ k4, e _ _ _ k5⟩
structure MB (w : World) (y : R3) (q : Rat) (wr : World) : Prop where
 bel : Below w.heap.size w wr
 r : wr.heap[w.heap.size]? = some (.cells r30.arr 41 (0, 0))
 m : wr.heap[w.heap.size + 1]? = some (.cells y.arr 41 (0, 0))
 v : IsRat wr y.val q
theorem MB.below {w a b : World} {y : R3} {q : Rat} (h : MB w y q a) (hb : Below a.heap.size a b) : MB w y q b := ⟨ext_trans h.bel hb, blk_keep h.r hb (blk_lt h.r), blk_keep h.m hb (blk_lt h.m), h.v.below hb⟩
theorem MB.set {w a : World} {y x : R3} {q p : Rat} (h : MB w y q a) (hx : IsRat a x.val p) : MB w x p (((a.setCell ⟨w.heap.size + 1, 0, none⟩ (.bool x.b)).setCell ⟨w.heap.size + 1, 1, none⟩ (.slice x.a x.n x.c)).setCell ⟨w.heap.size + 1, 2, none⟩ (.slice x.d x.m x.e)) :=
 ⟨below3r h.bel (by omega), blk_keep h.r (below3r (Below.refl (w.heap.size + 1) a) (Nat.le_refl _)) (by omega), set3r h.m, hx.set3r h.m⟩
set_option maxRecDepth 100000 in
set_option maxHeartbeats 2000000 in
theorem minf_any (qs : List Rat) (v : Value) (w : World) (h : FrcsOf IsRat w v qs) (h1 : 1 ≤ qs.length) (h2 : qs.length ≤ 1000) (hz : ∀ i, szR (qs.getD i 0) 274877906944) :
  Calls Tryz.prog 144 #[v, .func (.func 49) #[] #[]] w (RetRat (bestUp ltB (fun i => qs.getD i 0) (qs.length - 1)) w) := by
 have HL := Lib.hid h
 obtain ⟨ao, cap, rfl, hE⟩ := h
 obtain ⟨bl, off, rfl, hbl, hd⟩ := hE (by omega)
 have HD := Lib.hid hd
 have HZ := Lib.hid hz
 obtain ⟨x0, x1, x2, p0, p1, p2, hx⟩ := hd 0 (by omega)
 obtain ⟨x, hxe⟩ := hx.open3
 injection hxe with hxe
 simp only [Array.mk.injEq, List.cons.injEq] at hxe
 obtain ⟨rfl, rfl, rfl, _⟩ := hxe
 have HX : Hid (IsRat w x.val (qs.getD 0 0)) := hx
 rw [Nat.zero_mul, Nat.add_zero] at p0 p1 p2
 have t1 : decide ((qs.length : Int) < 1) = false := by simp; omega
 have h0 : (0 : Int) < qs.length := by omega
 obtain ⟨n, hn⟩ : ∃ n, qs.length = n + 1 := ⟨qs.length - 1, by omega⟩
 have HN : Hid (qs.length = n + 1 ∧ qs.length - 1 = n) := ⟨hn, by omega⟩
 rw [HN.out.2]
 clear hE hd hz hx h1 hn
 go_enter Tryz.func144, Tryz.ntmps144
 go_wp2_with fail
 generalize hW0 : (w.alloc (.cells _ _)).alloc (.cells _ _) = W at *
 obtain ⟨hal, hE0, hE1, hWs⟩ := bxg2 w _ _ _ _ W hW0.symm
 have HM : Hid (MB w x (bestUp ltB (fun i => qs.getD i 0) 0) W) := ⟨hal, hE0, hE1, HX.out.below hal⟩
 clear hW0 hal hE0 hE1 hWs p0 p1 p2 h0 HX t1
 go_loopw [6] (fun iv wr => ∃ (i : Nat) (y : R3), 1 ≤ i ∧ i ≤ qs.length ∧ iv = .int .i64 i ∧ Hid (MB w y (bestUp ltB (fun i => qs.getD i 0) (i - 1)) wr))
  (fun iv _ => qs.length - (intOf iv).toNat)
 case atStart => exact ⟨1, x, Nat.le_refl _, by have := HN.out; omega, rfl, HM⟩
 case round =>
  obtain ⟨i, y, hi1, hi, rfl, HMR⟩ := hrel
  by_cases hlt : i < qs.length
  ·
   obtain ⟨a0, a1, a2, p0, p1, p2, hqa⟩ := HD.out i hlt
   have c : ∀ j v, w.cell? ⟨bl, j, none⟩ = some v → wr.cell? ⟨bl, j, none⟩ = some v := fun j v h => (HMR.out.bel.cell (p := ⟨bl, j, none⟩) hbl).trans h
   replace p0 := c _ _ p0
   replace p1 := c _ _ p1
   replace p2 := c _ _ p2
   obtain ⟨z, hze⟩ := hqa.open3
   injection hze with hze
   simp only [Array.mk.injEq, List.cons.injEq] at hze
   obtain ⟨rfl, rfl, rfl, _⟩ := hze
   have HA : Hid (IsRat wr z.val (qs.getD i 0)) := hqa.below HMR.out.bel
   have HY := Lib.hid HMR.out.v
   obtain ⟨s0, s1, s2, _, _, _⟩ := fac3 HMR.out.m
   have hlt' : (i : Int) < qs.length := by omega
   have hge' : (0 : Int) ≤ i := by omega
   have HLT := Lib.hid hlt
   obtain ⟨j, hj⟩ : ∃ j, i = j + 1 := ⟨i - 1, by omega⟩
   have ej : i - 1 = j := by omega
   rw [ej] at HMR HY
   have HF : Hid (bestUp ltB (fun i => qs.getD i 0) i = if ltB (qs.getD i 0) (bestUp ltB (fun i => qs.getD i 0) j) then qs.getD i 0 else bestUp ltB (fun i => qs.getD i 0) j) := by rw [hj]; rfl
   have ZA := Lib.hid (HZ.out i)
   have ZB : Hid (szR (bestUp ltB (fun i => qs.getD i 0) j) 274877906944) := bestUp_all (P := fun x => szR x 274877906944) HZ.out j
   have HY2 : Hid (IsRat wr y.val (bestUp ltB (fun i => qs.getD i 0) j)) := HY.out
   have HMR2 : Hid (MB w y (bestUp ltB (fun i => qs.getD i 0) j) wr) := HMR.out
   obtain ⟨C, hC⟩ : ∃ C, C = cmpR (qs.getD i 0) (bestUp ltB (fun i => qs.getD i 0) j) := ⟨_, rfl⟩
   have HC := Lib.hid hC
   have tcc : decide (C < 0) = ltB (qs.getD i 0) (bestUp ltB (fun i => qs.getD i 0) j) := by rw [hC]; rfl
   clear hqa c hC hlt hi hi1 HY HMR hj ej
   generalize qs.getD i 0 = qa at *
   generalize bestUp ltB (fun i => qs.getD i 0) j = q at *
   rename Hid (IsRat wr y.val q) => HY
   generalize ltB qa q = fb at *
   go_upto_region 7 with fail
   refine wp_region_held_drew (S := (fun w' => Below wr.heap.size wr w' ∧ w'.cell? ⟨bl, off + i * 3, none⟩ = some (.bool z.b) ∧ w'.cell? ⟨bl, off + i * 3 + 1, none⟩ = some (.slice z.a z.n z.c) ∧ w'.cell? ⟨bl, off + i * 3 + 2, none⟩ = some (.slice z.d z.m z.e) ∧ w'.cell? ⟨w.heap.size + 1, 0, none⟩ = some (.bool y.b) ∧ w'.cell? ⟨w.heap.size + 1, 1, none⟩ = some (.slice y.a y.n y.c) ∧ w'.cell? ⟨w.heap.size + 1, 2, none⟩ = some (.slice y.d y.m y.e))) (by kernel_rfl) ⟨(Below.refl _ _).drew, p0, p1, p2, s0, s1, s2⟩ (fun hh => ?_)
   have HAD := Lib.hid (Below.refl wr.heap.size wr).drew
   clear p0 p1 p2 s0 s1 s2
   refine tk0 (i := 0) (v := ?vp0) rfl (Or.inl ⟨by rfl, ?hyp0⟩) (by assumption) ?rep0
   case hyp0 => intro w hSw; (try dsimp only at hSw); (go_simp <;> with_reducible rfl)
   try simp only [na1, na2, na3, Act.put, na4, na5, na6]
   refine tk0 (i := 1) (v := ?vp1) rfl (Or.inl ⟨by rfl, ?hyp1⟩) (by assumption) ?rep1
   case hyp1 => intro w hSw; (try dsimp only at hSw); (go_simp <;> with_reducible rfl)
   try simp only [na1, na2, na3, Act.put, na4, na5, na6]
   refine tk0 (i := 2) (v := ?vp2) rfl (Or.inl ⟨by rfl, ?hyp2⟩) (by assumption) ?rep2
   case hyp2 => intro w hSw; (try dsimp only at hSw); (go_simp <;> with_reducible rfl)
   try simp only [na1, na2, na3, Act.put, na4, na5, na6]
   refine tk0 (i := 3) (v := ?vp3) rfl (Or.inl ⟨by rfl, ?hyp3⟩) (by assumption) ?rep3
   case hyp3 => intro w hSw; (try dsimp only at hSw); (go_simp <;> with_reducible rfl)
   try simp only [na1, na2, na3, Act.put, na4, na5, na6]
   refine tk0 (i := 4) (v := ?vp4) rfl (Or.inl ⟨by rfl, ?hyp4⟩) (by assumption) ?rep4
   case hyp4 => intro w hSw; (try dsimp only at hSw); (go_simp <;> with_reducible rfl)
   try simp only [na1, na2, na3, Act.put, na4, na5, na6]
   refine tk0 (i := 5) (v := ?vp5) rfl (Or.inl ⟨by rfl, ?hyp5⟩) (by assumption) ?rep5
   case hyp5 => intro w hSw; (try dsimp only at hSw); (go_simp <;> with_reducible rfl)
   try simp only [na1, na2, na3, Act.put, na4, na5, na6]
   refine rd1 (i := 6) rfl (fun K hK => ?_)
   go_simp
   go_wp2_with (go_at_call 49; (with_reducible refine (cmpRat_any qa q _ _ _ (HA.out.below HAD.out) (HY.out.below HAD.out) ZA.out ZB.out).mono ?_); rintro e wA ⟨rfl, hbA⟩; rw [← HC.out])
   refine hK.out _ _ (kc6 hbA hh) (fun hh => ?_)
   clear hK K
   try simp only [na1, na2, na3, Act.put, na4, na5, na6]
   refine tk0 (i := 7) (v := ?vp7) rfl (Or.inl ⟨by rfl, ?hyp7⟩) (by assumption) ?rep7
   case hyp7 => intro w hSw; (try dsimp only at hSw); (go_simp <;> with_reducible rfl)
   try simp only [na1, na2, na3, Act.put, na4, na5, na6]
   refine wpAnyH_done (by kernel_rfl) ?_ _
   have HM2 : Hid (MB w y q wA) := HMR2.out.below (bt HAD.out hbA)
   have HA2 : Hid (IsRat wA z.val qa) := HA.out.below (bt HAD.out hbA)
   obtain ⟨_, p0, p1, p2, _, _, _⟩ := hh
   obtain ⟨s0, s1, s2, f0, f1, f2⟩ := fac3 HM2.out.m
   clear hbA
   cases fb with
   | true =>
    have HQ : Hid (bestUp ltB (fun i => qs.getD i 0) i = qa) := HF.out
    go_wp2_with fail
    exact ⟨⟨i + 1, z, by omega, by have := HLT.out; omega, by go_num, by rw [show i + 1 - 1 = i by omega, HQ.out]; exact HM2.out.set HA2.out⟩, meas_up HLT.out⟩
   | false =>
    have HQ : Hid (bestUp ltB (fun i => qs.getD i 0) i = q) := HF.out
    go_wp2_with fail
    exact ⟨⟨i + 1, y, by omega, by have := HLT.out; omega, by go_num, by rw [show i + 1 - 1 = i by omega, HQ.out]; exact HM2⟩, meas_up HLT.out⟩
  ·
   obtain rfl : i = qs.length := by omega
   rw [HN.out.2] at HMR
   obtain ⟨s0, s1, s2, _, _, _⟩ := fac3 HMR.out.m
   obtain ⟨g0, g1, g2, f0, f1, f2⟩ := fac3 (x := r30) HMR.out.r
   go_wp2_with fail
   obtain ⟨h0, h1, h2, _, _, _⟩ := fac3 (x := y) (set3r (x := y) HMR.out.r)
   refine bodyPost_ret (v := y.val) (by simp [results, Tryz.results144, go_sem, h0, h1, h2]) rfl ⟨_, rfl, HMR.out.v.set3r HMR.out.r, below3r HMR.out.bel (by omega)⟩
set_option maxRecDepth 100000 in
set_option maxHeartbeats 2000000 in
theorem maxf_any (qs : List Rat) (v : Value) (w : World) (h : FrcsOf IsRat w v qs) (h1 : 1 ≤ qs.length) (h2 : qs.length ≤ 1000) (hz : ∀ i, szR (qs.getD i 0) 274877906944) :
  Calls Tryz.prog 145 #[v, .func (.func 49) #[] #[]] w (RetRat (bestUp gtB (fun i => qs.getD i 0) (qs.length - 1)) w) := by
 have HL := Lib.hid h
 obtain ⟨ao, cap, rfl, hE⟩ := h
 obtain ⟨bl, off, rfl, hbl, hd⟩ := hE (by omega)
 have HD := Lib.hid hd
 have HZ := Lib.hid hz
 obtain ⟨x0, x1, x2, p0, p1, p2, hx⟩ := hd 0 (by omega)
 obtain ⟨x, hxe⟩ := hx.open3
 injection hxe with hxe
 simp only [Array.mk.injEq, List.cons.injEq] at hxe
 obtain ⟨rfl, rfl, rfl, _⟩ := hxe
 have HX : Hid (IsRat w x.val (qs.getD 0 0)) := hx
 rw [Nat.zero_mul, Nat.add_zero] at p0 p1 p2
 have t1 : decide ((qs.length : Int) < 1) = false := by simp; omega
 have h0 : (0 : Int) < qs.length := by omega
 obtain ⟨n, hn⟩ : ∃ n, qs.length = n + 1 := ⟨qs.length - 1, by omega⟩
 have HN : Hid (qs.length = n + 1 ∧ qs.length - 1 = n) := ⟨hn, by omega⟩
 rw [HN.out.2]
 clear hE hd hz hx h1 hn
 go_enter Tryz.func145, Tryz.ntmps145
 go_wp2_with fail
 generalize hW0 : (w.alloc (.cells _ _)).alloc (.cells _ _) = W at *
 obtain ⟨hal, hE0, hE1, hWs⟩ := bxg2 w _ _ _ _ W hW0.symm
 have HM : Hid (MB w x (bestUp gtB (fun i => qs.getD i 0) 0) W) := ⟨hal, hE0, hE1, HX.out.below hal⟩
 clear hW0 hal hE0 hE1 hWs p0 p1 p2 h0 HX t1
 go_loopw [6] (fun iv wr => ∃ (i : Nat) (y : R3), 1 ≤ i ∧ i ≤ qs.length ∧ iv = .int .i64 i ∧ Hid (MB w y (bestUp gtB (fun i => qs.getD i 0) (i - 1)) wr))
  (fun iv _ => qs.length - (intOf iv).toNat)
 case atStart => exact ⟨1, x, Nat.le_refl _, by have := HN.out; omega, rfl, HM⟩
 case round =>
  obtain ⟨i, y, hi1, hi, rfl, HMR⟩ := hrel
  by_cases hlt : i < qs.length
  ·
   obtain ⟨a0, a1, a2, p0, p1, p2, hqa⟩ := HD.out i hlt
   have c : ∀ j v, w.cell? ⟨bl, j, none⟩ = some v → wr.cell? ⟨bl, j, none⟩ = some v := fun j v h => (HMR.out.bel.cell (p := ⟨bl, j, none⟩) hbl).trans h
   replace p0 := c _ _ p0
   replace p1 := c _ _ p1
   replace p2 := c _ _ p2
   obtain ⟨z, hze⟩ := hqa.open3
   injection hze with hze
   simp only [Array.mk.injEq, List.cons.injEq] at hze
   obtain ⟨rfl, rfl, rfl, _⟩ := hze
   have HA : Hid (IsRat wr z.val (qs.getD i 0)) := hqa.below HMR.out.bel
   have HY := Lib.hid HMR.out.v
   obtain ⟨s0, s1, s2, _, _, _⟩ := fac3 HMR.out.m
   have hlt' : (i : Int) < qs.length := by omega
   have hge' : (0 : Int) ≤ i := by omega
   have HLT := Lib.hid hlt
   obtain ⟨j, hj⟩ : ∃ j, i = j + 1 := ⟨i - 1, by omega⟩
   have ej : i - 1 = j := by omega
   rw [ej] at HMR HY
   have HF : Hid (bestUp gtB (fun i => qs.getD i 0) i = if gtB (qs.getD i 0) (bestUp gtB (fun i => qs.getD i 0) j) then qs.getD i 0 else bestUp gtB (fun i => qs.getD i 0) j) := by rw [hj]; rfl
   have ZA := Lib.hid (HZ.out i)
   have ZB : Hid (szR (bestUp gtB (fun i => qs.getD i 0) j) 274877906944) := bestUp_all (P := fun x => szR x 274877906944) HZ.out j
   have HY2 : Hid (IsRat wr y.val (bestUp gtB (fun i => qs.getD i 0) j)) := HY.out
   have HMR2 : Hid (MB w y (bestUp gtB (fun i => qs.getD i 0) j) wr) := HMR.out
   obtain ⟨C, hC⟩ : ∃ C, C = cmpR (qs.getD i 0) (bestUp gtB (fun i => qs.getD i 0) j) := ⟨_, rfl⟩
   have HC := Lib.hid hC
   have tcc : decide (C > 0) = gtB (qs.getD i 0) (bestUp gtB (fun i => qs.getD i 0) j) := by rw [hC]; rfl
   clear hqa c hC hlt hi hi1 HY HMR hj ej
   generalize qs.getD i 0 = qa at *
   generalize bestUp gtB (fun i => qs.getD i 0) j = q at *
   rename Hid (IsRat wr y.val q) => HY
   generalize gtB qa q = fb at *
   go_upto_region 7 with fail
   refine wp_region_held_drew (S := (fun w' => Below wr.heap.size wr w' ∧ w'.cell? ⟨bl, off + i * 3, none⟩ = some (.bool z.b) ∧ w'.cell? ⟨bl, off + i * 3 + 1, none⟩ = some (.slice z.a z.n z.c) ∧ w'.cell? ⟨bl, off + i * 3 + 2, none⟩ = some (.slice z.d z.m z.e) ∧ w'.cell? ⟨w.heap.size + 1, 0, none⟩ = some (.bool y.b) ∧ w'.cell? ⟨w.heap.size + 1, 1, none⟩ = some (.slice y.a y.n y.c) ∧ w'.cell? ⟨w.heap.size + 1, 2, none⟩ = some (.slice y.d y.m y.e))) (by kernel_rfl) ⟨(Below.refl _ _).drew, p0, p1, p2, s0, s1, s2⟩ (fun hh => ?_)
   have HAD := Lib.hid (Below.refl wr.heap.size wr).drew
   clear p0 p1 p2 s0 s1 s2
   refine tk0 (i := 0) (v := ?vp0) rfl (Or.inl ⟨by rfl, ?hyp0⟩) (by assumption) ?rep0
   case hyp0 => intro w hSw; (try dsimp only at hSw); (go_simp <;> with_reducible rfl)
   try simp only [na1, na2, na3, Act.put, na4, na5, na6]
   refine tk0 (i := 1) (v := ?vp1) rfl (Or.inl ⟨by rfl, ?hyp1⟩) (by assumption) ?rep1
   case hyp1 => intro w hSw; (try dsimp only at hSw); (go_simp <;> with_reducible rfl)
   try simp only [na1, na2, na3, Act.put, na4, na5, na6]
   refine tk0 (i := 2) (v := ?vp2) rfl (Or.inl ⟨by rfl, ?hyp2⟩) (by assumption) ?rep2
   case hyp2 => intro w hSw; (try dsimp only at hSw); (go_simp <;> with_reducible rfl)
   try simp only [na1, na2, na3, Act.put, na4, na5, na6]
   refine tk0 (i := 3) (v := ?vp3) rfl (Or.inl ⟨by rfl, ?hyp3⟩) (by assumption) ?rep3
   case hyp3 => intro w hSw; (try dsimp only at hSw); (go_simp <;> with_reducible rfl)
   try simp only [na1, na2, na3, Act.put, na4, na5, na6]
   refine tk0 (i := 4) (v := ?vp4) rfl (Or.inl ⟨by rfl, ?hyp4⟩) (by assumption) ?rep4
   case hyp4 => intro w hSw; (try dsimp only at hSw); (go_simp <;> with_reducible rfl)
   try simp only [na1, na2, na3, Act.put, na4, na5, na6]
   refine tk0 (i := 5) (v := ?vp5) rfl (Or.inl ⟨by rfl, ?hyp5⟩) (by assumption) ?rep5
   case hyp5 => intro w hSw; (try dsimp only at hSw); (go_simp <;> with_reducible rfl)
   try simp only [na1, na2, na3, Act.put, na4, na5, na6]
   refine rd1 (i := 6) rfl (fun K hK => ?_)
   go_simp
   go_wp2_with (go_at_call 49; (with_reducible refine (cmpRat_any qa q _ _ _ (HA.out.below HAD.out) (HY.out.below HAD.out) ZA.out ZB.out).mono ?_); rintro e wA ⟨rfl, hbA⟩; rw [← HC.out])
   refine hK.out _ _ (kc6 hbA hh) (fun hh => ?_)
   clear hK K
   try simp only [na1, na2, na3, Act.put, na4, na5, na6]
   refine tk0 (i := 7) (v := ?vp7) rfl (Or.inl ⟨by rfl, ?hyp7⟩) (by assumption) ?rep7
   case hyp7 => intro w hSw; (try dsimp only at hSw); (go_simp <;> with_reducible rfl)
   try simp only [na1, na2, na3, Act.put, na4, na5, na6]
   refine wpAnyH_done (by kernel_rfl) ?_ _
   have HM2 : Hid (MB w y q wA) := HMR2.out.below (bt HAD.out hbA)
   have HA2 : Hid (IsRat wA z.val qa) := HA.out.below (bt HAD.out hbA)
   obtain ⟨_, p0, p1, p2, _, _, _⟩ := hh
   obtain ⟨s0, s1, s2, f0, f1, f2⟩ := fac3 HM2.out.m
   clear hbA
   cases fb with
   | true =>
    have HQ : Hid (bestUp gtB (fun i => qs.getD i 0) i = qa) := HF.out
    go_wp2_with fail
    exact ⟨⟨i + 1, z, by omega, by have := HLT.out; omega, by go_num, by rw [show i + 1 - 1 = i by omega, HQ.out]; exact HM2.out.set HA2.out⟩, meas_up HLT.out⟩
   | false =>
    have HQ : Hid (bestUp gtB (fun i => qs.getD i 0) i = q) := HF.out
    go_wp2_with fail
    exact ⟨⟨i + 1, y, by omega, by have := HLT.out; omega, by go_num, by rw [show i + 1 - 1 = i by omega, HQ.out]; exact HM2⟩, meas_up HLT.out⟩
  ·
   obtain rfl : i = qs.length := by omega
   rw [HN.out.2] at HMR
   obtain ⟨s0, s1, s2, _, _, _⟩ := fac3 HMR.out.m
   obtain ⟨g0, g1, g2, f0, f1, f2⟩ := fac3 (x := r30) HMR.out.r
   go_wp2_with fail
   obtain ⟨h0, h1, h2, _, _, _⟩ := fac3 (x := y) (set3r (x := y) HMR.out.r)
   refine bodyPost_ret (v := y.val) (by simp [results, Tryz.results145, go_sem, h0, h1, h2]) rfl ⟨_, rfl, HMR.out.v.set3r HMR.out.r, below3r HMR.out.bel (by omega)⟩
end Go.Proofs.YtfjcccpibhhncaaGreat

namespace Go.Proofs.YtfjcccpibhhncaaGreat
open Go.RowKit

theorem lo4 (a c : Rat) : bestUp ltB (fun i => [a, a, c, c].getD i 0) 3 = loQ a c := by
 unfold bestUp bestUp bestUp bestUp loQ ltB cmpR
 simp only [List.getD, List.getElem?_cons_succ, List.getElem?_cons_zero, Option.getD_some]
 grind
theorem hi4 (a c : Rat) : bestUp gtB (fun i => [a, a, c, c].getD i 0) 3 = hiQ a c := by
 unfold bestUp bestUp bestUp bestUp hiQ gtB cmpR
 simp only [List.getD, List.getElem?_cons_succ, List.getElem?_cons_zero, Option.getD_some]
 grind
theorem fracs4 {W : World} {B T : Nat} {x1 x2 x3 x4 : R3} {a b c d : Rat} (h : W.heap[B]? = some (.cells #[.bool x1.b, .slice x1.a x1.n x1.c, .slice x1.d x1.m x1.e, .bool x2.b, .slice x2.a x2.n x2.c, .slice x2.d x2.m x2.e, .bool x3.b, .slice x3.a x3.n x3.c, .slice x3.d x3.m x3.e, .bool x4.b, .slice x4.a x4.n x4.c, .slice x4.d x4.m x4.e] T (0, 0))) (h1 : IsRat W x1.val a) (h2 : IsRat W x2.val b) (h3 : IsRat W x3.val c) (h4 : IsRat W x4.val d) : FrcsOf IsRat W (.slice (some ⟨B, 0, none⟩) 4 4) [a, b, c, d] := by
 refine ⟨_, 4, rfl, fun _ => ⟨B, 0, rfl, blk_lt h, fun i hi => ?_⟩⟩
 match i, hi with
 | 0, _ => exact ⟨_, _, _, blk_cell h 0 _ rfl, blk_cell h 1 _ rfl, blk_cell h 2 _ rfl, h1⟩
 | 1, _ => exact ⟨_, _, _, blk_cell h 3 _ rfl, blk_cell h 4 _ rfl, blk_cell h 5 _ rfl, h2⟩
 | 2, _ => exact ⟨_, _, _, blk_cell h 6 _ rfl, blk_cell h 7 _ rfl, blk_cell h 8 _ rfl, h3⟩
 | 3, _ => exact ⟨_, _, _, blk_cell h 9 _ rfl, blk_cell h 10 _ rfl, blk_cell h 11 _ rfl, h4⟩
 | i + 4, hi => simp at hi; omega
theorem get4 {P : Rat → Prop} {a b c d : Rat} (h0 : P 0) (h1 : P a) (h2 : P b) (h3 : P c) (h4 : P d) : ∀ i, P ([a, b, c, d].getD i 0)
 | 0 => h1
 | 1 => h2
 | 2 => h3
 | 3 => h4
 | i + 4 => h0
theorem szR_zero (k : Nat) (hk : 1 ≤ k) : szR 0 k := szR_mono (szR_int (n := 0) (k := 1) (by unfold b64; decide) (by omega)) hk
set_option maxRecDepth 100000 in
set_option maxHeartbeats 2000000 in
theorem around_any (qs : List Rat) (v : Value) (w : World) (h : FrcsOf IsRat w v qs) (h1 : 1 ≤ qs.length) (h2 : qs.length ≤ 1000) (hz : ∀ i, szR (qs.getD i 0) 274877906944) :
  Calls Tryz.prog 97 #[v] w (RetRng (bestUp ltB (fun i => qs.getD i 0) (qs.length - 1)) (bestUp gtB (fun i => qs.getD i 0) (qs.length - 1)) w) := by
 have H := Lib.hid h
 clear h
 have H1 := Lib.hid h1
 clear h1
 have H2 := Lib.hid h2
 clear h2
 have HZ := Lib.hid hz
 clear hz
 obtain ⟨ao, cap, rfl, _⟩ := H.out
 go_enter Tryz.func97, Tryz.ntmps97
 go_wp2_with fail
 generalize hW0 : w.alloc (.cells _ _) = W at *
 obtain ⟨hal, hE0, hWs⟩ := bxg1 w _ _ W hW0.symm
 have HB := Lib.hid hal
 have HWS := Lib.hid hWs
 have HE0 := Lib.hid hE0
 clear hW0 hal hWs hE0
 obtain ⟨g0, g1, g2, g3, g4, g5, f0, f1, f2, f3, f4, f5⟩ := fac6 (x := r30) (y := r30) HE0.out
 refine (minf_any qs _ _ (H.out.below (fun _ _ _ _ h hb => h.below hb) HB.out) H1.out H2.out HZ.out).mono ?_
 rintro e w1 ⟨v1, rfl, hv1, hb1⟩
 obtain ⟨z1, rfl⟩ := hv1.open3
 replace HE0 := Lib.hid (blk_keep HE0.out hb1 (blk_lt HE0.out))
 replace HB := Lib.hid (bt HB.out hb1)
 have HVz1 := Lib.hid hv1
 clear hv1
 clear g0 g1 g2 g3 g4 g5 f0 f1 f2 f3 f4 f5
 obtain ⟨g0, g1, g2, g3, g4, g5, f0, f1, f2, f3, f4, f5⟩ := fac6 (x := r30) (y := r30) HE0.out
 clear hb1
 go_wp2_with fail
 refine (maxf_any qs _ _ (H.out.below (fun _ _ _ _ h hb => h.below hb) HB.out) H1.out H2.out HZ.out).mono ?_
 rintro e w2 ⟨v2, rfl, hv2, hb2⟩
 obtain ⟨z2, rfl⟩ := hv2.open3
 replace HVz1 := Lib.hid (HVz1.out.below hb2)
 replace HE0 := Lib.hid (blk_keep HE0.out hb2 (blk_lt HE0.out))
 replace HB := Lib.hid (bt HB.out hb2)
 have HVz2 := Lib.hid hv2
 clear hv2
 clear g0 g1 g2 g3 g4 g5 f0 f1 f2 f3 f4 f5
 obtain ⟨g0, g1, g2, g3, g4, g5, f0, f1, f2, f3, f4, f5⟩ := fac6 (x := r30) (y := r30) HE0.out
 clear hb2
 go_wp2_with fail
 obtain ⟨h0, h1, h2, h3, h4, h5, _, _, _, _, _, _⟩ := fac6 (x := z1) (y := z2) (set6r (p := r30) (q := r30) (x := z1) (y := z2) HE0.out)
 refine bodyPost_ret (v := rngV z1 z2) (by simp [results, Tryz.results97, go_sem, h0, h1, h2, h3, h4, h5]) rfl ⟨_, rfl, ⟨z1, z2, rfl, IsRat.set6r (p := r30) (q := r30) HVz1.out HE0.out, IsRat.set6r (p := r30) (q := r30) HVz2.out HE0.out⟩, below6r HB.out (by omega)⟩
set_option maxRecDepth 100000 in
set_option maxHeartbeats 2000000 in
theorem rhull_any (a b c d : Rat) (vx vy : Value) (w : World) (hx : IsRng w vx a b) (hy : IsRng w vy c d) (s1 : szR a 274877906944) (s2 : szR b 274877906944) (s3 : szR c 274877906944) (s4 : szR d 274877906944) :
  Calls Tryz.prog 44 #[vx, vy] w (RetRng (bestUp ltB (fun i => [a, b, c, d].getD i 0) 3) (bestUp gtB (fun i => [a, b, c, d].getD i 0) 3) w) := by
 obtain ⟨x1, x2, rfl, hx1, hx2⟩ := hx
 have HVx1 := Lib.hid hx1
 have HVx2 := Lib.hid hx2
 clear hx1 hx2
 obtain ⟨y1, y2, rfl, hy1, hy2⟩ := hy
 have HVy1 := Lib.hid hy1
 have HVy2 := Lib.hid hy2
 clear hy1 hy2
 have S1 := Lib.hid s1
 clear s1
 have S2 := Lib.hid s2
 clear s2
 have S3 := Lib.hid s3
 clear s3
 have S4 := Lib.hid s4
 clear s4
 go_enter Tryz.func44, Tryz.ntmps44
 go_wp2_with fail
 generalize hW0 : (((w.alloc (.cells _ _)).alloc (.cells _ _)).alloc (.cells _ _)).alloc (.cells _ _) = W at *
 obtain ⟨hal, hE0, hE1, hE2, hE3, hWs⟩ := bxg4 w _ _ _ _ _ _ _ _ W hW0.symm
 have HB := Lib.hid hal
 have HE2 := Lib.hid hE2
 have HE3 := Lib.hid hE3
 clear hW0 hal hWs hE0 hE1 hE2 hE3
 replace HVx1 := Lib.hid (HVx1.out.below HB.out)
 replace HVx2 := Lib.hid (HVx2.out.below HB.out)
 replace HVy1 := Lib.hid (HVy1.out.below HB.out)
 replace HVy2 := Lib.hid (HVy2.out.below HB.out)
 obtain ⟨g0, g1, g2, g3, g4, g5, f0, f1, f2, f3, f4, f5⟩ := fac6 (x := r30) (y := r30) HE2.out
 refine (around_any [a, b, c, d] _ _ (fracs4 HE3.out HVx1.out HVx2.out HVy1.out HVy2.out) (by simp) (by simp) (get4 (P := fun x => szR x 274877906944) (szR_zero _ (by omega)) S1.out S2.out S3.out S4.out)).mono ?_
 rintro e w1 ⟨v1, rfl, ⟨o1, o2, rfl, hv1, hw1⟩, hb1⟩
 replace HVx1 := Lib.hid (HVx1.out.below hb1)
 replace HVx2 := Lib.hid (HVx2.out.below hb1)
 replace HVy1 := Lib.hid (HVy1.out.below hb1)
 replace HVy2 := Lib.hid (HVy2.out.below hb1)
 replace HE2 := Lib.hid (blk_keep HE2.out hb1 (blk_lt HE2.out))
 replace HB := Lib.hid (bt HB.out hb1)
 have HVo1 := Lib.hid hv1
 have HVo2 := Lib.hid hw1
 clear hv1 hw1
 clear g0 g1 g2 g3 g4 g5 f0 f1 f2 f3 f4 f5
 obtain ⟨g0, g1, g2, g3, g4, g5, f0, f1, f2, f3, f4, f5⟩ := fac6 (x := r30) (y := r30) HE2.out
 clear hb1
 go_wp2_with fail
 obtain ⟨h0, h1, h2, h3, h4, h5, _, _, _, _, _, _⟩ := fac6 (x := o1) (y := o2) (set6r (p := r30) (q := r30) (x := o1) (y := o2) HE2.out)
 refine bodyPost_ret (v := rngV o1 o2) (by simp [results, Tryz.results44, go_sem, h0, h1, h2, h3, h4, h5]) rfl ⟨_, rfl, ⟨o1, o2, rfl, IsRat.set6r (p := r30) (q := r30) HVo1.out HE2.out, IsRat.set6r (p := r30) (q := r30) HVo2.out HE2.out⟩, below6r HB.out (by omega)⟩
theorem lhull_any (a c : Rat) (v u : Value) (w : World) (h : IsRng w v a a) (k : IsRng w u c c) (s1 : szR a 274877906944) (s2 : szR c 274877906944) : Calls Tryz.prog 44 #[v, u] w (RetRng (loQ a c) (hiQ a c) w) := by
 have := rhull_any a a c c v u w h k s1 s1 s2 s2
 rw [lo4, hi4] at this
 exact this
set_option maxRecDepth 100000 in
set_option maxHeartbeats 2000000 in
theorem lrange_any (n0 d0 n1 d1 : Int) (w : World) (r0 : i64P (n0, d0)) (r1 : i64P (n1, d1)) :
  Calls Tryz.prog 13 #[.agg #[.int .i64 n0, .int .i64 d0, .int .i64 n1, .int .i64 d1]] w (RetRng (loQ (fracQ n0 d0) (fracQ n1 d1)) (hiQ (fracQ n0 d0) (fracQ n1 d1)) w) := by
 have R0 := Lib.hid r0
 clear r0
 have R1 := Lib.hid r1
 clear r1
 go_enter Tryz.func13, Tryz.ntmps13
 go_wp2_with fail
 generalize hW0 : (w.alloc (.cells _ _)).alloc (.cells _ _) = W at *
 obtain ⟨hal, hE0, hE1, hWs⟩ := bxg2 w _ _ _ _ W hW0.symm
 have HB := Lib.hid hal
 have HWS := Lib.hid hWs
 have HE0 := Lib.hid hE0
 have HE1 := Lib.hid hE1
 clear hW0 hal hWs hE0 hE1
 have xc0 := blk_cell HE0.out 0 _ rfl
 have xc1 := blk_cell HE0.out 1 _ rfl
 have xc2 := blk_cell HE0.out 2 _ rfl
 have xc3 := blk_cell HE0.out 3 _ rfl
 obtain ⟨g0, g1, g2, g3, g4, g5, f0, f1, f2, f3, f4, f5⟩ := fac6 (x := r30) (y := r30) HE1.out
 have S1 : Hid (szR (fracQ n0 d0) 274877906944) := szR_mono (fracQ_szR n0 d0 R0.out.1.1 R0.out.1.2 R0.out.2.1 R0.out.2.2) (by omega)
 have S2 : Hid (szR (fracQ n1 d1) 274877906944) := szR_mono (fracQ_szR n1 d1 R1.out.1.1 R1.out.1.2 R1.out.2.1 R1.out.2.2) (by omega)
 obtain ⟨⟨ra1, ra2⟩, ra3, ra4⟩ := R0.out
 obtain ⟨⟨rb1, rb2⟩, rb3, rb4⟩ := R1.out
 have ra1 : -9223372036854775808 ≤ n0 := ra1
 have ra2 : n0 ≤ 9223372036854775807 := ra2
 have ra3 : -9223372036854775808 ≤ d0 := ra3
 have ra4 : d0 ≤ 9223372036854775807 := ra4
 have rb1 : -9223372036854775808 ≤ n1 := rb1
 have rb2 : n1 ≤ 9223372036854775807 := rb2
 have rb3 : -9223372036854775808 ≤ d1 := rb3
 have rb4 : d1 ≤ 9223372036854775807 := rb4
 have N3 : Hid (w.heap.size + 1 ≤ W.heap.size) := by show _ ≤ _; have := HWS.out; omega
 have N0 : Hid (w.heap.size < w.heap.size + 1) := by show _ < _; omega
 refine wp_region_held_drew (S := (fun w' => Below (w.heap.size + 1) W w' ∧ w'.cell? ⟨w.heap.size, 0, none⟩ = some (.int .i64 n0) ∧ w'.cell? ⟨w.heap.size, 1, none⟩ = some (.int .i64 d0) ∧ w'.cell? ⟨w.heap.size, 2, none⟩ = some (.int .i64 n1) ∧ w'.cell? ⟨w.heap.size, 3, none⟩ = some (.int .i64 d1))) (by kernel_rfl) ⟨(Below.refl _ _).drew, xc0, xc1, xc2, xc3⟩ (fun hh => ?_)
 clear xc0 xc1 xc2 xc3 g0 g1 g2 g3 g4 g5 f0 f1 f2 f3 f4 f5
 have hdr := (Below.refl W.heap.size W).drew
 replace HE0 := Lib.hid (blk_keep HE0.out hdr (blk_lt HE0.out))
 replace HE1 := Lib.hid (blk_keep HE1.out hdr (blk_lt HE1.out))
 replace HB := Lib.hid (bt HB.out hdr)
 clear hdr
 refine tk0 (i := 0) (v := ?vp0) rfl (Or.inl ⟨by rfl, ?hyp0⟩) (by assumption) ?rep0
 case hyp0 => intro w hSw; (try dsimp only at hSw); (go_simp <;> with_reducible rfl)
 try simp only [na1, na2, na3, Act.put, na4, na5, na6]
 refine tk0 (i := 1) (v := ?vp1) rfl (Or.inl ⟨by rfl, ?hyp1⟩) (by assumption) ?rep1
 case hyp1 => intro w hSw; (try dsimp only at hSw); (go_simp <;> with_reducible rfl)
 try simp only [na1, na2, na3, Act.put, na4, na5, na6]
 refine tk0 (i := 4) (v := ?vp4) rfl (Or.inl ⟨by rfl, ?hyp4⟩) (by assumption) ?rep4
 case hyp4 => intro w hSw; (try dsimp only at hSw); (go_simp <;> with_reducible rfl)
 try simp only [na1, na2, na3, Act.put, na4, na5, na6]
 refine tk0 (i := 5) (v := ?vp5) rfl (Or.inl ⟨by rfl, ?hyp5⟩) (by assumption) ?rep5
 case hyp5 => intro w hSw; (try dsimp only at hSw); (go_simp <;> with_reducible rfl)
 try simp only [na1, na2, na3, Act.put, na4, na5, na6]
 refine rd1 (i := 2) rfl (fun K hK => ?_)
 go_simp
 go_wp2_with (go_at_call 17; (with_reducible refine (of_any n0 d0 _ ra1 ra2 ra3 ra4).mono ?_); rintro e w1 ⟨v1, rfl, hv1, hb1⟩; obtain ⟨z1, rfl⟩ := hv1.open3)
 refine hK.out _ _ (kd4 N3.out hb1 hh) (fun hh => ?_)
 clear hK K
 try simp only [na1, na2, na3, Act.put, na4, na5, na6]
 replace HE0 := Lib.hid (blk_keep HE0.out hb1 (blk_lt HE0.out))
 replace HE1 := Lib.hid (blk_keep HE1.out hb1 (blk_lt HE1.out))
 replace HB := Lib.hid (bt HB.out hb1)
 have HVz1 := Lib.hid hv1
 clear hv1
 clear hb1
 refine rd1 (i := 3) rfl (fun K hK => ?_)
 go_simp
 go_wp2_with (go_at_call 34; (with_reducible refine (only_any (fracQ n0 d0) _ _ HVz1.out).mono ?_); rintro e w2 ⟨v2, rfl, ⟨p1, p2, rfl, hv2, hw2⟩, hb2⟩)
 refine hK.out _ _ (kd4 N3.out hb2 hh) (fun hh => ?_)
 clear hK K
 try simp only [na1, na2, na3, Act.put, na4, na5, na6]
 replace HVz1 := Lib.hid (HVz1.out.below hb2)
 replace HE0 := Lib.hid (blk_keep HE0.out hb2 (blk_lt HE0.out))
 replace HE1 := Lib.hid (blk_keep HE1.out hb2 (blk_lt HE1.out))
 replace HB := Lib.hid (bt HB.out hb2)
 have HVp1 := Lib.hid hv2
 have HVp2 := Lib.hid hw2
 clear hv2 hw2
 clear hb2
 refine rd1 (i := 6) rfl (fun K hK => ?_)
 go_simp
 go_wp2_with (go_at_call 17; (with_reducible refine (of_any n1 d1 _ rb1 rb2 rb3 rb4).mono ?_); rintro e w3 ⟨v3, rfl, hv3, hb3⟩; obtain ⟨z2, rfl⟩ := hv3.open3)
 refine hK.out _ _ (kd4 N3.out hb3 hh) (fun hh => ?_)
 clear hK K
 try simp only [na1, na2, na3, Act.put, na4, na5, na6]
 replace HVz1 := Lib.hid (HVz1.out.below hb3)
 replace HVp1 := Lib.hid (HVp1.out.below hb3)
 replace HVp2 := Lib.hid (HVp2.out.below hb3)
 replace HE0 := Lib.hid (blk_keep HE0.out hb3 (blk_lt HE0.out))
 replace HE1 := Lib.hid (blk_keep HE1.out hb3 (blk_lt HE1.out))
 replace HB := Lib.hid (bt HB.out hb3)
 have HVz2 := Lib.hid hv3
 clear hv3
 clear hb3
 refine rd1 (i := 7) rfl (fun K hK => ?_)
 go_simp
 go_wp2_with (go_at_call 34; (with_reducible refine (only_any (fracQ n1 d1) _ _ HVz2.out).mono ?_); rintro e w4 ⟨v4, rfl, ⟨q1, q2, rfl, hv4, hw4⟩, hb4⟩)
 refine hK.out _ _ (kd4 N3.out hb4 hh) (fun hh => ?_)
 clear hK K
 try simp only [na1, na2, na3, Act.put, na4, na5, na6]
 replace HVz1 := Lib.hid (HVz1.out.below hb4)
 replace HVp1 := Lib.hid (HVp1.out.below hb4)
 replace HVp2 := Lib.hid (HVp2.out.below hb4)
 replace HVz2 := Lib.hid (HVz2.out.below hb4)
 replace HE0 := Lib.hid (blk_keep HE0.out hb4 (blk_lt HE0.out))
 replace HE1 := Lib.hid (blk_keep HE1.out hb4 (blk_lt HE1.out))
 replace HB := Lib.hid (bt HB.out hb4)
 have HVq1 := Lib.hid hv4
 have HVq2 := Lib.hid hw4
 clear hv4 hw4
 clear hb4
 refine rd1 (i := 8) rfl (fun K hK => ?_)
 go_simp
 go_wp2_with (go_at_call 44; (with_reducible refine (lhull_any (fracQ n0 d0) (fracQ n1 d1) _ _ _ (rngP HVp1.out HVp2.out) (rngP HVq1.out HVq2.out) S1.out S2.out).mono ?_); rintro e w5 ⟨v5, rfl, ⟨o1, o2, rfl, hv5, hw5⟩, hb5⟩)
 refine hK.out _ _ (kd4 N3.out hb5 hh) (fun hh => ?_)
 clear hK K
 try simp only [na1, na2, na3, Act.put, na4, na5, na6]
 replace HVz1 := Lib.hid (HVz1.out.below hb5)
 replace HVp1 := Lib.hid (HVp1.out.below hb5)
 replace HVp2 := Lib.hid (HVp2.out.below hb5)
 replace HVz2 := Lib.hid (HVz2.out.below hb5)
 replace HVq1 := Lib.hid (HVq1.out.below hb5)
 replace HVq2 := Lib.hid (HVq2.out.below hb5)
 replace HE0 := Lib.hid (blk_keep HE0.out hb5 (blk_lt HE0.out))
 replace HE1 := Lib.hid (blk_keep HE1.out hb5 (blk_lt HE1.out))
 replace HB := Lib.hid (bt HB.out hb5)
 have HVo1 := Lib.hid hv5
 have HVo2 := Lib.hid hw5
 clear hv5 hw5
 clear hb5
 obtain ⟨g0, g1, g2, g3, g4, g5, f0, f1, f2, f3, f4, f5⟩ := fac6 (x := r30) (y := r30) HE1.out
 refine rd1 (i := 9) rfl (fun K hK => ?_)
 go_simp
 refine hK.out _ _ (ks4 (Nat.le_refl _) N0.out N0.out N0.out N0.out (below6r (Below.refl _ _) (Nat.le_refl _)) hh) (fun hh => ?_)
 clear hK K
 try simp only [na1, na2, na3, Act.put, na4, na5, na6]
 refine wpAnyH_done (by kernel_rfl) ?_ _
 obtain ⟨h0, h1, h2, h3, h4, h5, _, _, _, _, _, _⟩ := fac6 (x := o1) (y := o2) (set6r (p := r30) (q := r30) (x := o1) (y := o2) HE1.out)
 go_wp2_with fail
 refine bodyPost_ret (v := rngV o1 o2) (by simp [results, Tryz.results13, go_sem, h0, h1, h2, h3, h4, h5]) rfl ⟨_, rfl, ⟨o1, o2, rfl, IsRat.set6r (p := r30) (q := r30) HVo1.out HE1.out, IsRat.set6r (p := r30) (q := r30) HVo2.out HE1.out⟩, below6r HB.out (by omega)⟩
end Go.Proofs.YtfjcccpibhhncaaGreat

namespace Go.Proofs.YtfjcccpibhhncaaGreat
open Go.RowKit

def flN (y : Rat) : Nat := if y.num < 0 ∧ y.num.natAbs % y.den ≠ 0 then y.num.natAbs / y.den + 1 else y.num.natAbs / y.den
def floorQ (y : Rat) : Rat := mkQ (decide (y.num < 0)) (flN y) 1
theorem mkQ_pw2' (s : Bool) (m b : Nat) : mkQ s m 1 * pw2 0 b = mkQ s m (2 ^ b) := by
 cases s with
 | false =>
  have := mkQ_pw2 m 0 b
  rw [Nat.pow_zero, Nat.mul_one] at this
  exact this
 | true =>
  rw [← mkQ_negate, ← mkQ_negate, Rat.neg_mul]
  have := mkQ_pw2 m 0 b
  rw [Nat.pow_zero, Nat.mul_one] at this
  rw [this]
theorem mul_pw2 (x : Rat) (k : Nat) : x * pw2 k 0 = mkQ (decide (x.num < 0)) (x.num.natAbs * 2 ^ k) x.den := by
 have h := mkQ_mul x (pw2 k 0)
 obtain ⟨h1, h2, h3⟩ := pw2_pos k
 rw [h1, h2, h3] at h
 rw [← h, Nat.mul_one]
 cases decide (x.num < 0) <;> rfl
theorem mkQ_div_mod (s : Bool) (A d : Nat) (hd : 0 < d) : (mkQ s A d).num.natAbs / (mkQ s A d).den = A / d ∧ ((mkQ s A d).num.natAbs % (mkQ s A d).den = 0 ↔ A % d = 0) := by
 rw [mkQ_num _ _ _ hd, mkQ_den _ _ _ hd]
 have hg : 0 < Nat.gcd A d := Nat.gcd_pos_of_pos_right A hd
 obtain ⟨a, ha⟩ := Nat.gcd_dvd_left A d
 obtain ⟨b, hb⟩ := Nat.gcd_dvd_right A d
 generalize Nat.gcd A d = g at *
 subst ha hb
 rw [Nat.mul_div_cancel_left _ hg, Nat.mul_div_cancel_left _ hg, Nat.mul_div_mul_left _ _ hg, Nat.mul_mod_mul_left]
 refine ⟨rfl, ?_⟩
 constructor
 ·
  intro h; rw [h, Nat.mul_zero]
 ·
  intro h
  rcases Nat.mul_eq_zero.1 h with h | h
  ·
   omega
  ·
   exact h
theorem floor_down (x : Rat) (k : Nat) : floorQ (x * pw2 k 0) * pw2 0 k = downQ x k := by
 unfold floorQ
 rw [mkQ_pw2']
 unfold downQ
 have hd : 0 < x.den := x.den_pos
 obtain ⟨e1, e2⟩ := mkQ_div_mod (decide (x.num < 0)) (x.num.natAbs * 2 ^ k) x.den hd
 rw [← mul_pw2] at e1 e2
 have hs : decide ((x * pw2 k 0).num < 0) = decide (x.num < 0) := by
  rw [mul_pw2]
  by_cases h0 : x.num.natAbs * 2 ^ k = 0
  ·
   rw [h0]
   have : x.num.natAbs = 0 := by
    rcases Nat.mul_eq_zero.1 h0 with h | h
    ·
     exact h
    ·
     have := Nat.two_pow_pos k; omega
   have hn : ¬ x.num < 0 := by omega
   rw [decide_eq_false hn]
   unfold mkQ sg
   simp
  ·
   exact mkQ_neg _ _ _ hd h0
 have hn : ((x * pw2 k 0).num < 0) ↔ x.num < 0 := by
  constructor
  ·
   intro h
   have : decide ((x * pw2 k 0).num < 0) = true := decide_eq_true h
   rw [hs] at this
   exact of_decide_eq_true this
  ·
   intro h
   have : decide (x.num < 0) = true := decide_eq_true h
   rw [← hs] at this
   exact of_decide_eq_true this
 have hf : flN (x * pw2 k 0) = downN x k := by
  unfold flN downN
  rw [e1]
  by_cases h : x.num < 0 ∧ x.num.natAbs * 2 ^ k % x.den ≠ 0
  ·
   rw [if_pos h, if_pos ⟨hn.2 h.1, fun h2 => h.2 (e2.1 h2)⟩]
  ·
   rw [if_neg h, if_neg (fun h2 => h ⟨hn.1 h2.1, fun h3 => h2.2 (e2.2 h3)⟩)]
 rw [hs, hf]
theorem dig64_le (n : Nat) : (dig b64 n).length ≤ (dig b32 n).length := by
 refine dig_length_le b64_two _ _ ?_
 refine Nat.lt_of_lt_of_le (lt_pow_dig_length b32_two n) (Nat.pow_le_pow_left (by unfold b32 b64; decide) _)
theorem szR_of {x : Rat} {k : Nat} (h : szQ x k) : szR x k := ⟨Nat.le_trans (dig64_le _) h.1, Nat.le_trans (dig64_le _) h.2⟩
theorem szR_pw2 {a b : Nat} (ha : a ≤ 256) (hb : b ≤ 256) : szR (pw2 a b) 10 := by
 refine szR_of (mkQ_size false _ _ 10 (Nat.two_pow_pos b) ?_ ?_)
 ·
  exact Nat.le_trans (dig32_le _) (by have := len_pow2 ha; omega)
 ·
  exact Nat.le_trans (dig32_le _) (by have := len_pow2 hb; omega)
theorem szR_floor {y : Rat} {k : Nat} (h : szR y k) (hk : 1 ≤ k) : szR (floorQ y) (2 * k + 2) := by
 refine szR_of (mkQ_size _ _ _ _ (by omega) ?_ ?_)
 ·
  refine Nat.le_trans (dig32_le _) ?_
  have h1 := dig_length_mono b64_two (Nat.div_le_self y.num.natAbs y.den)
  have h2 := dig_length_add b64_two (y.num.natAbs / y.den) 1 k (by have := h.1; omega) (by
   have : (dig b64 1).length = 1 := by decide +kernel
   omega)
  have h3 := h.1
  unfold flN
  split <;> omega
 ·
  have : (dig b32 1).length = 1 := by decide +kernel
  omega
theorem kc3 {W a b : World} {B0 j0 B1 j1 B2 j2 : Nat} {v0 v1 v2 : Value} (hb : Below a.heap.size a b) (h : Below W.heap.size W a ∧ a.cell? ⟨B0, j0, none⟩ = some (v0) ∧ a.cell? ⟨B1, j1, none⟩ = some (v1) ∧ a.cell? ⟨B2, j2, none⟩ = some (v2)) : Below W.heap.size W b ∧ b.cell? ⟨B0, j0, none⟩ = some (v0) ∧ b.cell? ⟨B1, j1, none⟩ = some (v1) ∧ b.cell? ⟨B2, j2, none⟩ = some (v2) := by
 obtain ⟨h0, k0, k1, k2⟩ := h
 have e : ∀ B j v, a.cell? ⟨B, j, none⟩ = some v → b.cell? ⟨B, j, none⟩ = some v := fun B j v h => (hb.cell (p := ⟨B, j, none⟩) (World.block_lt_of_cell? (h := h))).trans h
 exact ⟨bt h0 hb, e _ _ _ k0, e _ _ _ k1, e _ _ _ k2⟩
theorem dig1_32 : (dig b32 1).length = 1 := by decide +kernel
theorem nat1_any (w : World) : Calls Tryz.prog 110 #[.int .u64 1] w (RetNat .u32 b32 1 w) := nat_any 1 w (by unfold b64; omega)
set_option maxRecDepth 100000 in
set_option maxHeartbeats 2000000 in
theorem qfloor_any (y : Rat) (vx : Value) (w : World) (hx : IsR w vx y) (hs : szQ y 34359738368) :
  Calls Tryz.prog 184 #[vx] w (RetR (floorQ y) w) := by
 obtain ⟨d', a1, c1, a2, c2, rfl, n1, n2, D⟩ := hx.opened
 have N1 := Lib.hid n1
 have N2 := Lib.hid n2
 have HD := Lib.hid D
 have HP : Hid (0 < y.den) := y.den_pos
 have HS := Lib.hid hs
 obtain ⟨s, hsg⟩ : ∃ s, s = decide (y.num < 0) := ⟨_, rfl⟩
 have HSG := Lib.hid hsg
 rw [← hsg]
 have HF0 : Hid (floorQ y = mkQ s (flN y) 1) := by rw [hsg]; rfl
 have SN2 : Hid ((dig b32 1).length ≤ 68719476736) := by show _ ≤ _; rw [dig1_32]; omega
 clear hx hs n1 n2 D hsg
 have S1 : Hid ((dig b32 y.num.natAbs).length ≤ 68719476736) := Nat.le_trans HS.out.1 (by omega)
 have S2 : Hid ((dig b32 y.den).length ≤ 68719476736) := Nat.le_trans HS.out.2 (by omega)
 go_enter Tryz.func184, Tryz.ntmps184
 go_wp2_with fail
 generalize hW0 : (w.alloc (.cells _ _)).alloc (.cells _ _) = W at *
 obtain ⟨hal, hE0, hE1, hWs⟩ := bxg2 w _ _ _ _ W hW0.symm
 have HB := Lib.hid hal
 have HE0 := Lib.hid hE0
 have HE1 := Lib.hid hE1
 replace N1 := Lib.hid (N1.out.below HB.out)
 replace N2 := Lib.hid (N2.out.below HB.out)
 clear hW0 hal hE0 hE1 hWs
 have HWS : Hid (W.heap.size = W.heap.size) := rfl
 have xc0 := blk_cell HE0.out 0 _ rfl
 have xc1 := blk_cell HE0.out 1 _ rfl
 have xc2 := blk_cell HE0.out 2 _ rfl
 obtain ⟨g0, g1, g2, f0, f1, f2⟩ := fac3 (x := r30) HE1.out
 refine wp_region_held_drew (S := (fun w' => Below W.heap.size W w' ∧ w'.cell? ⟨w.heap.size, 0, none⟩ = some (.bool s) ∧ w'.cell? ⟨w.heap.size, 1, none⟩ = some (.slice a1 (dig b32 y.num.natAbs).length c1) ∧ w'.cell? ⟨w.heap.size, 2, none⟩ = some (.slice a2 (dig b32 d').length c2))) (by kernel_rfl) ⟨(Below.refl _ _).drew, xc0, xc1, xc2⟩ (fun hh => ?_)
 clear xc0 xc1 xc2 g0 g1 g2 f0 f1 f2
 have N0 : Hid (w.heap.size < w.heap.size + 1) := by show _ < _; omega
 have hdr := (Below.refl W.heap.size W).drew
 replace N1 := Lib.hid (N1.out.below hdr)
 replace N2 := Lib.hid (N2.out.below hdr)
 replace HE0 := Lib.hid (blk_keep HE0.out hdr (blk_lt HE0.out))
 replace HE1 := Lib.hid (blk_keep HE1.out hdr (blk_lt HE1.out))
 replace HB := Lib.hid (bt HB.out hdr)
 clear hdr
 refine tk0 (i := 0) (v := ?vpa0) rfl (Or.inl ⟨by rfl, ?hypa0⟩) (by assumption) ?repa0
 case hypa0 => intro w hSw; (try dsimp only at hSw); (go_simp <;> with_reducible rfl)
 try simp only [na1, na2, na3, Act.put, na4, na5, na6]
 refine tk0 (i := 1) (v := ?vpa1) rfl (Or.inl ⟨by rfl, ?hypa1⟩) (by assumption) ?repa1
 case hypa1 => intro w hSw; (try dsimp only at hSw); (go_simp <;> with_reducible rfl)
 try simp only [na1, na2, na3, Act.put, na4, na5, na6]
 refine tk0 (i := 2) (v := ?vpa2) rfl (Or.inl ⟨by rfl, ?hypa2⟩) (by assumption) ?repa2
 case hypa2 => intro w hSw; (try dsimp only at hSw); (go_simp <;> with_reducible rfl)
 try simp only [na1, na2, na3, Act.put, na4, na5, na6]
 refine rd1 (i := 3) rfl (fun K hK => ?_)
 go_simp
 go_wp2_with (go_at_call 135; (with_reducible refine (qunder_any d' y.den _ _ _ _ _ _ _ N2.out HD.out (Nat.ne_of_gt HP.out)).mono ?_); rintro e w1 ⟨v1, rfl, hv1, hb1⟩)
 refine hK.out _ _ (kc3 hb1 hh) (fun hh => ?_)
 clear hK K
 try simp only [na1, na2, na3, Act.put, na4, na5, na6]
 replace N1 := Lib.hid (N1.out.below hb1)
 replace N2 := Lib.hid (N2.out.below hb1)
 replace HE0 := Lib.hid (blk_keep HE0.out hb1 (blk_lt HE0.out))
 replace HE1 := Lib.hid (blk_keep HE1.out hb1 (blk_lt HE1.out))
 replace HB := Lib.hid (bt HB.out hb1)
 have HU := Lib.hid hv1
 clear hv1 hb1
 refine rd1 (i := 4) rfl (fun K hK => ?_)
 go_simp
 go_wp2_with (go_at_call 155; (with_reducible refine (quotient_any y.num.natAbs y.den _ _ _ N1.out HU.out (Nat.ne_of_gt HP.out) S1.out S2.out).mono ?_); rintro e w2 ⟨v3, v4, rfl, h3, h4, hb2⟩)
 refine hK.out _ _ (kc3 hb2 hh) (fun hh => ?_)
 clear hK K
 try simp only [na1, na2, na3, Act.put, na4, na5, na6]
 replace N1 := Lib.hid (N1.out.below hb2)
 replace N2 := Lib.hid (N2.out.below hb2)
 replace HE0 := Lib.hid (blk_keep HE0.out hb2 (blk_lt HE0.out))
 replace HE1 := Lib.hid (blk_keep HE1.out hb2 (blk_lt HE1.out))
 replace HB := Lib.hid (bt HB.out hb2)
 have HQN := Lib.hid h3
 obtain ⟨ao, co, rfl, _⟩ := IsRow.opened h4
 obtain ⟨ap, cp, rfl, _⟩ := IsRow.opened h3
 clear h3 h4 hb2
 refine tk0 (i := 5) (v := ?vpa5) rfl (Or.inl ⟨by rfl, ?hypa5⟩) (by assumption) ?repa5
 case hypa5 => intro w hSw; (try dsimp only at hSw); (go_simp <;> with_reducible rfl)
 try simp only [na1, na2, na3, Act.put, na4, na5, na6]
 refine tk0 (i := 6) (v := ?vpa6) rfl (Or.inl ⟨by rfl, ?hypa6⟩) (by assumption) ?repa6
 case hypa6 => intro w hSw; (try dsimp only at hSw); (go_simp <;> with_reducible rfl)
 try simp only [na1, na2, na3, Act.put, na4, na5, na6]
 refine tk0 (i := 7) (v := ?vpa7) rfl (Or.inl ⟨by rfl, ?hypa7⟩) (by assumption) ?repa7
 case hypa7 => intro w hSw; (try dsimp only at hSw); (go_simp <;> with_reducible rfl)
 try simp only [na1, na2, na3, Act.put, na4, na5, na6]
 refine tk0 (i := 8) (v := ?vpa8) rfl (Or.inl ⟨by rfl, ?hypa8⟩) (by assumption) ?repa8
 case hypa8 => intro w hSw; (try dsimp only at hSw); (go_simp <;> with_reducible rfl)
 try simp only [na1, na2, na3, Act.put, na4, na5, na6]
 refine tk0 (i := 9) (v := ?vpa9) rfl (Or.inl ⟨by rfl, ?hypa9⟩) (by assumption) ?repa9
 case hypa9 => intro w hSw; (try dsimp only at hSw); (go_simp <;> with_reducible rfl)
 try simp only [na1, na2, na3, Act.put, na4, na5, na6]
 refine wpAnyH_done (by kernel_rfl) ?_ _
 have SQ : Hid ((dig b32 (y.num.natAbs / y.den)).length ≤ 34359738368) := Nat.le_trans (dig_length_mono b32_two (Nat.div_le_self _ _)) HS.out.1
 have HFL : Hid (flN y = if s = true ∧ y.num.natAbs % y.den ≠ 0 then y.num.natAbs / y.den + 1 else y.num.natAbs / y.den) := by
  show _ = _
  unfold flN
  rw [HSG.out]
  by_cases hn : y.num < 0
  ·
   simp [hn]
  ·
   simp [hn]
 have HZ : Hid (0 < (dig b32 (y.num.natAbs % y.den)).length ↔ y.num.natAbs % y.den ≠ 0) := by
  show _ ↔ _
  rw [dig_length_gt b32_two, Nat.pow_zero, Nat.div_one]
 replace N1 := Lib.hid True.intro
 replace N2 := Lib.hid True.intro
 have hl : (y.num.natAbs % y.den) = (y.num.natAbs % y.den) := rfl
 clear hl
 obtain ⟨xc0, xc1, xc2⟩ : _ ∧ _ ∧ _ := ⟨blk_cell HE0.out 0 _ rfl, blk_cell HE0.out 1 _ rfl, blk_cell HE0.out 2 _ rfl⟩
 cases s with
 | false =>
  have HF : Hid (floorQ y = mkQ false (y.num.natAbs / y.den) 1) := by show _ = _; rw [HF0.out, HFL.out, if_neg (by simp)]
  have SN1 : Hid ((dig b32 (y.num.natAbs / y.den)).length ≤ 68719476736) := Nat.le_trans SQ.out (by omega)
  clear xc0 xc1 xc2
  have xd0 := blk_cell HE0.out 0 _ rfl
  clear xd0
  have y0 := blk_cell HE0.out 0 _ rfl
  go_upto_region 4 with fail
  have xc0 := blk_cell HE0.out 0 _ rfl
  have xc1 := blk_cell HE0.out 1 _ rfl
  have xc2 := blk_cell HE0.out 2 _ rfl
  obtain ⟨g0, g1, g2, f0, f1, f2⟩ := fac3 (x := r30) HE1.out
  refine wp_region_held_drew (S := (fun w' => Below (w.heap.size + 1) w2 w' ∧ w'.cell? ⟨w.heap.size, 0, none⟩ = some (.bool false) ∧ w'.cell? ⟨w.heap.size, 1, none⟩ = some (.slice a1 (dig b32 y.num.natAbs).length c1) ∧ w'.cell? ⟨w.heap.size, 2, none⟩ = some (.slice a2 (dig b32 d').length c2))) (by kernel_rfl) ⟨(Below.refl _ _).drew, xc0, xc1, xc2⟩ (fun hh => ?_)
  have N3 : Hid (w.heap.size + 1 ≤ w2.heap.size) := by show _ ≤ _; have := blk_lt HE1.out; omega
  clear xc0 xc1 xc2 g0 g1 g2 f0 f1 f2
  have hdr := (Below.refl w2.heap.size w2).drew
  replace HQN := Lib.hid (HQN.out.below hdr)
  replace HE0 := Lib.hid (blk_keep HE0.out hdr (blk_lt HE0.out))
  replace HE1 := Lib.hid (blk_keep HE1.out hdr (blk_lt HE1.out))
  replace HB := Lib.hid (bt HB.out hdr)
  clear hdr
  refine tk0 (i := 0) (v := ?vpb0) rfl (Or.inl ⟨by rfl, ?hypb0⟩) (by assumption) ?repb0
  case hypb0 => intro w hSw; (try dsimp only at hSw); (go_simp <;> with_reducible rfl)
  try simp only [na1, na2, na3, Act.put, na4, na5, na6]
  refine tk0 (i := 1) (v := ?vpb1) rfl (Or.inl ⟨by rfl, ?hypb1⟩) (by assumption) ?repb1
  case hypb1 => intro w hSw; (try dsimp only at hSw); (go_simp <;> with_reducible rfl)
  try simp only [na1, na2, na3, Act.put, na4, na5, na6]
  refine tk0 (i := 2) (v := ?vpb2) rfl (Or.inl ⟨by rfl, ?hypb2⟩) (by assumption) ?repb2
  case hypb2 => intro w hSw; (try dsimp only at hSw); (go_simp <;> with_reducible rfl)
  try simp only [na1, na2, na3, Act.put, na4, na5, na6]
  refine rd1 (i := 3) rfl (fun K hK => ?_)
  go_simp
  go_wp2_with (go_at_call 110; (with_reducible refine (nat1_any _).mono ?_); rintro e w3 ⟨v3, rfl, hv3, hb3⟩)
  refine hK.out _ _ (kd3 N3.out hb3 hh) (fun hh => ?_)
  clear hK K
  try simp only [na1, na2, na3, Act.put, na4, na5, na6]
  replace HQN := Lib.hid (HQN.out.below hb3)
  replace HE0 := Lib.hid (blk_keep HE0.out hb3 (blk_lt HE0.out))
  replace HE1 := Lib.hid (blk_keep HE1.out hb3 (blk_lt HE1.out))
  replace HB := Lib.hid (bt HB.out hb3)
  have HONE := Lib.hid hv3
  clear hv3 hb3
  refine rd1 (i := 4) rfl (fun K hK => ?_)
  go_simp
  go_wp2_with (go_at_call 108; (with_reducible refine (made_any false (y.num.natAbs / y.den) 1 _ _ _ HQN.out HONE.out (by omega) SN1.out SN2.out).mono ?_); rintro e w4 ⟨v4, rfl, hv4, hb4⟩; obtain ⟨z, rfl⟩ := hv4.open3)
  refine hK.out _ _ (kd3 N3.out hb4 hh) (fun hh => ?_)
  clear hK K
  try simp only [na1, na2, na3, Act.put, na4, na5, na6]
  replace HQN := Lib.hid (HQN.out.below hb4)
  replace HE0 := Lib.hid (blk_keep HE0.out hb4 (blk_lt HE0.out))
  replace HE1 := Lib.hid (blk_keep HE1.out hb4 (blk_lt HE1.out))
  replace HB := Lib.hid (bt HB.out hb4)
  have HVz := Lib.hid hv4
  clear hv4
  clear hb4
  obtain ⟨g0, g1, g2, f0, f1, f2⟩ := fac3 (x := r30) HE1.out
  refine rd1 (i := 5) rfl (fun K hK => ?_)
  go_simp
  refine hK.out _ _ (ks3 (Nat.le_refl _) N0.out N0.out N0.out (below3r (Below.refl _ _) (Nat.le_refl _)) hh) (fun hh => ?_)
  clear hK K
  try simp only [na1, na2, na3, Act.put, na4, na5, na6]
  refine wpAnyH_done (by kernel_rfl) ?_ _
  have HVZ : Hid (IsR w4 z.val (floorQ y)) := by show IsR _ _ _; rw [HF.out]; exact HVz.out
  obtain ⟨h0, h1, h2, _, _, _⟩ := fac3 (x := z) (set3r (p := r30) (x := z) HE1.out)
  go_wp2_with fail
  refine bodyPost_ret (v := z.val) (by simp [results, Tryz.results184, go_sem, h0, h1, h2]) rfl ⟨_, rfl, IsR.set3r (p := r30) (x := z) HVZ.out HE1.out, below3r HB.out (by omega)⟩
 | true =>
  by_cases hr : y.num.natAbs % y.den = 0
  ·
   have t0 : decide (((dig b32 (y.num.natAbs % y.den)).length : Int) > 0) = false := by
    have h := HZ.out
    have : ¬ 0 < (dig b32 (y.num.natAbs % y.den)).length := fun h2 => h.1 h2 hr
    exact decide_eq_false (by omega)
   have t0n : decide (0 < (dig b32 (y.num.natAbs % y.den)).length) = false := decide_eq_false (fun h2 => HZ.out.1 h2 hr)
   have HF : Hid (floorQ y = mkQ true (y.num.natAbs / y.den) 1) := by show _ = _; rw [HF0.out, HFL.out, if_neg (fun h => h.2 hr)]
   have SN1 : Hid ((dig b32 (y.num.natAbs / y.den)).length ≤ 68719476736) := Nat.le_trans SQ.out (by omega)
   clear hr xc1 xc2
   go_upto_region 4 with fail
   have xc0 := blk_cell HE0.out 0 _ rfl
   have xc1 := blk_cell HE0.out 1 _ rfl
   have xc2 := blk_cell HE0.out 2 _ rfl
   obtain ⟨g0, g1, g2, f0, f1, f2⟩ := fac3 (x := r30) HE1.out
   refine wp_region_held_drew (S := (fun w' => Below (w.heap.size + 1) w2 w' ∧ w'.cell? ⟨w.heap.size, 0, none⟩ = some (.bool true) ∧ w'.cell? ⟨w.heap.size, 1, none⟩ = some (.slice a1 (dig b32 y.num.natAbs).length c1) ∧ w'.cell? ⟨w.heap.size, 2, none⟩ = some (.slice a2 (dig b32 d').length c2))) (by kernel_rfl) ⟨(Below.refl _ _).drew, xc0, xc1, xc2⟩ (fun hh => ?_)
   have N3 : Hid (w.heap.size + 1 ≤ w2.heap.size) := by show _ ≤ _; have := blk_lt HE1.out; omega
   clear xc0 xc1 xc2 g0 g1 g2 f0 f1 f2
   have hdr := (Below.refl w2.heap.size w2).drew
   replace HQN := Lib.hid (HQN.out.below hdr)
   replace HE0 := Lib.hid (blk_keep HE0.out hdr (blk_lt HE0.out))
   replace HE1 := Lib.hid (blk_keep HE1.out hdr (blk_lt HE1.out))
   replace HB := Lib.hid (bt HB.out hdr)
   clear hdr
   refine tk0 (i := 0) (v := ?vpc0) rfl (Or.inl ⟨by rfl, ?hypc0⟩) (by assumption) ?repc0
   case hypc0 => intro w hSw; (try dsimp only at hSw); (go_simp <;> with_reducible rfl)
   try simp only [na1, na2, na3, Act.put, na4, na5, na6]
   refine tk0 (i := 1) (v := ?vpc1) rfl (Or.inl ⟨by rfl, ?hypc1⟩) (by assumption) ?repc1
   case hypc1 => intro w hSw; (try dsimp only at hSw); (go_simp <;> with_reducible rfl)
   try simp only [na1, na2, na3, Act.put, na4, na5, na6]
   refine tk0 (i := 2) (v := ?vpc2) rfl (Or.inl ⟨by rfl, ?hypc2⟩) (by assumption) ?repc2
   case hypc2 => intro w hSw; (try dsimp only at hSw); (go_simp <;> with_reducible rfl)
   try simp only [na1, na2, na3, Act.put, na4, na5, na6]
   refine rd1 (i := 3) rfl (fun K hK => ?_)
   go_simp
   go_wp2_with (go_at_call 110; (with_reducible refine (nat1_any _).mono ?_); rintro e w3 ⟨v3, rfl, hv3, hb3⟩)
   refine hK.out _ _ (kd3 N3.out hb3 hh) (fun hh => ?_)
   clear hK K
   try simp only [na1, na2, na3, Act.put, na4, na5, na6]
   replace HQN := Lib.hid (HQN.out.below hb3)
   replace HE0 := Lib.hid (blk_keep HE0.out hb3 (blk_lt HE0.out))
   replace HE1 := Lib.hid (blk_keep HE1.out hb3 (blk_lt HE1.out))
   replace HB := Lib.hid (bt HB.out hb3)
   have HONE := Lib.hid hv3
   clear hv3 hb3
   refine rd1 (i := 4) rfl (fun K hK => ?_)
   go_simp
   go_wp2_with (go_at_call 108; (with_reducible refine (made_any true (y.num.natAbs / y.den) 1 _ _ _ HQN.out HONE.out (by omega) SN1.out SN2.out).mono ?_); rintro e w4 ⟨v4, rfl, hv4, hb4⟩; obtain ⟨z, rfl⟩ := hv4.open3)
   refine hK.out _ _ (kd3 N3.out hb4 hh) (fun hh => ?_)
   clear hK K
   try simp only [na1, na2, na3, Act.put, na4, na5, na6]
   replace HQN := Lib.hid (HQN.out.below hb4)
   replace HE0 := Lib.hid (blk_keep HE0.out hb4 (blk_lt HE0.out))
   replace HE1 := Lib.hid (blk_keep HE1.out hb4 (blk_lt HE1.out))
   replace HB := Lib.hid (bt HB.out hb4)
   have HVz := Lib.hid hv4
   clear hv4
   clear hb4
   obtain ⟨g0, g1, g2, f0, f1, f2⟩ := fac3 (x := r30) HE1.out
   refine rd1 (i := 5) rfl (fun K hK => ?_)
   go_simp
   refine hK.out _ _ (ks3 (Nat.le_refl _) N0.out N0.out N0.out (below3r (Below.refl _ _) (Nat.le_refl _)) hh) (fun hh => ?_)
   clear hK K
   try simp only [na1, na2, na3, Act.put, na4, na5, na6]
   refine wpAnyH_done (by kernel_rfl) ?_ _
   have HVZ : Hid (IsR w4 z.val (floorQ y)) := by show IsR _ _ _; rw [HF.out]; exact HVz.out
   obtain ⟨h0, h1, h2, _, _, _⟩ := fac3 (x := z) (set3r (p := r30) (x := z) HE1.out)
   go_wp2_with fail
   refine bodyPost_ret (v := z.val) (by simp [results, Tryz.results184, go_sem, h0, h1, h2]) rfl ⟨_, rfl, IsR.set3r (p := r30) (x := z) HVZ.out HE1.out, below3r HB.out (by omega)⟩
  ·
   have t0 : decide (((dig b32 (y.num.natAbs % y.den)).length : Int) > 0) = true := by
    have := HZ.out.2 hr
    exact decide_eq_true (by omega)
   have t0n : decide (0 < (dig b32 (y.num.natAbs % y.den)).length) = true := decide_eq_true (HZ.out.2 hr)
   have HF : Hid (floorQ y = mkQ true (y.num.natAbs / y.den + 1) 1) := by show _ = _; rw [HF0.out, HFL.out, if_pos ⟨rfl, hr⟩]
   have SN1 : Hid ((dig b32 (y.num.natAbs / y.den + 1)).length ≤ 68719476736) := Nat.le_trans (dig_length_add b32_two _ _ 34359738368 SQ.out (by rw [dig1_32]; omega)) (by omega)
   clear hr xc1 xc2
   go_wp2_with fail
   refine (nat1_any _).mono ?_
   rintro e w3 ⟨v5, rfl, hv5, hb5⟩
   replace HE0 := Lib.hid (blk_keep HE0.out hb5 (blk_lt HE0.out))
   replace HE1 := Lib.hid (blk_keep HE1.out hb5 (blk_lt HE1.out))
   replace HB := Lib.hid (bt HB.out hb5)
   replace HQN := Lib.hid (HQN.out.below hb5)
   have HO := Lib.hid hv5
   clear hb5 hv5 xc0
   go_wp2_with fail
   refine (sum_any (y.num.natAbs / y.den) 1 _ _ _ HQN.out HO.out (Nat.le_trans SQ.out (by omega)) (Nat.le_trans SN2.out (by omega))).mono ?_
   rintro e w4 ⟨v6, rfl, hv6, hb6⟩
   replace HE0 := Lib.hid (blk_keep HE0.out hb6 (blk_lt HE0.out))
   replace HE1 := Lib.hid (blk_keep HE1.out hb6 (blk_lt HE1.out))
   replace HB := Lib.hid (bt HB.out hb6)
   replace HQN := Lib.hid hv6
   obtain ⟨ap2, cp2, rfl, _⟩ := IsRow.opened hv6
   clear hb6 hv6 HO t0 t0n
   go_upto_region 4 with fail
   have xc0 := blk_cell HE0.out 0 _ rfl
   have xc1 := blk_cell HE0.out 1 _ rfl
   have xc2 := blk_cell HE0.out 2 _ rfl
   obtain ⟨g0, g1, g2, f0, f1, f2⟩ := fac3 (x := r30) HE1.out
   refine wp_region_held_drew (S := (fun w' => Below (w.heap.size + 1) w4 w' ∧ w'.cell? ⟨w.heap.size, 0, none⟩ = some (.bool true) ∧ w'.cell? ⟨w.heap.size, 1, none⟩ = some (.slice a1 (dig b32 y.num.natAbs).length c1) ∧ w'.cell? ⟨w.heap.size, 2, none⟩ = some (.slice a2 (dig b32 d').length c2))) (by kernel_rfl) ⟨(Below.refl _ _).drew, xc0, xc1, xc2⟩ (fun hh => ?_)
   have N3 : Hid (w.heap.size + 1 ≤ w4.heap.size) := by show _ ≤ _; have := blk_lt HE1.out; omega
   clear xc0 xc1 xc2 g0 g1 g2 f0 f1 f2
   have hdr := (Below.refl w4.heap.size w4).drew
   replace HQN := Lib.hid (HQN.out.below hdr)
   replace HE0 := Lib.hid (blk_keep HE0.out hdr (blk_lt HE0.out))
   replace HE1 := Lib.hid (blk_keep HE1.out hdr (blk_lt HE1.out))
   replace HB := Lib.hid (bt HB.out hdr)
   clear hdr
   refine tk0 (i := 0) (v := ?vpd0) rfl (Or.inl ⟨by rfl, ?hypd0⟩) (by assumption) ?repd0
   case hypd0 => intro w hSw; (try dsimp only at hSw); (go_simp <;> with_reducible rfl)
   try simp only [na1, na2, na3, Act.put, na4, na5, na6]
   refine tk0 (i := 1) (v := ?vpd1) rfl (Or.inl ⟨by rfl, ?hypd1⟩) (by assumption) ?repd1
   case hypd1 => intro w hSw; (try dsimp only at hSw); (go_simp <;> with_reducible rfl)
   try simp only [na1, na2, na3, Act.put, na4, na5, na6]
   refine tk0 (i := 2) (v := ?vpd2) rfl (Or.inl ⟨by rfl, ?hypd2⟩) (by assumption) ?repd2
   case hypd2 => intro w hSw; (try dsimp only at hSw); (go_simp <;> with_reducible rfl)
   try simp only [na1, na2, na3, Act.put, na4, na5, na6]
   refine rd1 (i := 3) rfl (fun K hK => ?_)
   go_simp
   go_wp2_with (go_at_call 110; (with_reducible refine (nat1_any _).mono ?_); rintro e w5 ⟨v5, rfl, hv5, hb5⟩)
   refine hK.out _ _ (kd3 N3.out hb5 hh) (fun hh => ?_)
   clear hK K
   try simp only [na1, na2, na3, Act.put, na4, na5, na6]
   replace HQN := Lib.hid (HQN.out.below hb5)
   replace HE0 := Lib.hid (blk_keep HE0.out hb5 (blk_lt HE0.out))
   replace HE1 := Lib.hid (blk_keep HE1.out hb5 (blk_lt HE1.out))
   replace HB := Lib.hid (bt HB.out hb5)
   have HONE := Lib.hid hv5
   clear hv5 hb5
   refine rd1 (i := 4) rfl (fun K hK => ?_)
   go_simp
   go_wp2_with (go_at_call 108; (with_reducible refine (made_any true (y.num.natAbs / y.den + 1) 1 _ _ _ HQN.out HONE.out (by omega) SN1.out SN2.out).mono ?_); rintro e w6 ⟨v6, rfl, hv6, hb6⟩; obtain ⟨z, rfl⟩ := hv6.open3)
   refine hK.out _ _ (kd3 N3.out hb6 hh) (fun hh => ?_)
   clear hK K
   try simp only [na1, na2, na3, Act.put, na4, na5, na6]
   replace HQN := Lib.hid (HQN.out.below hb6)
   replace HE0 := Lib.hid (blk_keep HE0.out hb6 (blk_lt HE0.out))
   replace HE1 := Lib.hid (blk_keep HE1.out hb6 (blk_lt HE1.out))
   replace HB := Lib.hid (bt HB.out hb6)
   have HVz := Lib.hid hv6
   clear hv6
   clear hb6
   obtain ⟨g0, g1, g2, f0, f1, f2⟩ := fac3 (x := r30) HE1.out
   refine rd1 (i := 5) rfl (fun K hK => ?_)
   go_simp
   refine hK.out _ _ (ks3 (Nat.le_refl _) N0.out N0.out N0.out (below3r (Below.refl _ _) (Nat.le_refl _)) hh) (fun hh => ?_)
   clear hK K
   try simp only [na1, na2, na3, Act.put, na4, na5, na6]
   refine wpAnyH_done (by kernel_rfl) ?_ _
   have HVZ : Hid (IsR w6 z.val (floorQ y)) := by show IsR _ _ _; rw [HF.out]; exact HVz.out
   obtain ⟨h0, h1, h2, _, _, _⟩ := fac3 (x := z) (set3r (p := r30) (x := z) HE1.out)
   go_wp2_with fail
   refine bodyPost_ret (v := z.val) (by simp [results, Tryz.results184, go_sem, h0, h1, h2]) rfl ⟨_, rfl, IsR.set3r (p := r30) (x := z) HVZ.out HE1.out, below3r HB.out (by omega)⟩
end Go.Proofs.YtfjcccpibhhncaaGreat

namespace Go.Proofs.YtfjcccpibhhncaaGreat
open Go.RowKit

theorem qbits_any (k : Nat) (hk : k ≤ 256) (z : Int) (hz : min (max z 0) 256 = (k : Int)) (w : World) : Calls Tryz.prog 186 #[.int .i64 z] w (RetInt k w) := by
 obtain ⟨m, hmx⟩ : ∃ m, max z 0 = m := ⟨_, rfl⟩
 rw [hmx] at hz
 have hmn : min m 256 = (k : Int) := hz
 clear hz
 go_enter Tryz.func186, Tryz.ntmps186
 go_wp2_with fail
 go_ret
 exact ⟨by first | rfl | (congr 2; omega), Below.refl _ _⟩
theorem twoN_any (k : Nat) (z : Int) (w : World) (hz : z = -(k : Int)) (hk : k ≤ 256) : Calls Tryz.prog 185 #[.int .i64 z] w (RetR (pw2 0 k) w) := by
 rcases Nat.eq_zero_or_pos k with rfl | h
 ·
  obtain rfl : z = ((0 : Nat) : Int) := by omega
  exact two_pos 0 w (by omega)
 ·
  exact two_neg k z w hz h (by omega)
set_option maxRecDepth 100000 in
set_option maxHeartbeats 2000000 in
theorem qdown_any (a : Rat) (k : Nat) (vx : Value) (w : World) (hx : IsR w vx a) (hk : k ≤ 256) (z : Int) (hz : min (max z 0) 256 = (k : Int)) (hs : szR a 1000000) :
  Calls Tryz.prog 164 #[vx, .int .i64 z] w (RetR (downQ a k) w) := by
 obtain ⟨x, rfl⟩ := hx.open3
 have HVx := Lib.hid hx
 clear hx
 have HK := Lib.hid hk
 have HZK := Lib.hid hz
 clear hz
 clear hk
 have HS := Lib.hid hs
 clear hs
 go_enter Tryz.func164, Tryz.ntmps164
 go_wp2_with fail
 generalize hW0 : (w.alloc (.cells _ _)).alloc (.cells _ _) = W at *
 obtain ⟨hal, hE0, hE1, hWs⟩ := bxg2 w _ _ _ _ W hW0.symm
 have HB := Lib.hid hal
 have HWS := Lib.hid hWs
 have HE0 := Lib.hid hE0
 have HE1 := Lib.hid hE1
 clear hW0 hal hWs hE0 hE1
 replace HVx := Lib.hid (HVx.out.below HB.out)
 obtain ⟨xc0, xc1, xc2, _, _, _⟩ := fac3 (x := x) HE0.out
 obtain ⟨g0, g1, g2, f0, f1, f2⟩ := fac3 (x := r30) HE1.out
 have hneg : IntKind.i64.wrap (-(k : Int)) = -(k : Int) := IntWalk.i64_in _ (by have := HK.out; omega)
 have Z1 : Hid (szQ a 34359738368) := szQ_mono (szQ_of HS.out) (by omega)
 have zp : szR (pw2 k 0) 10 := szR_pw2 HK.out (by omega)
 have Z2 : Hid (szQ (pw2 k 0) 34359738368) := szQ_mono (szQ_of zp) (by omega)
 have zm : szR (a * pw2 k 0) 1000010 := szR_mul HS.out zp
 have Z3 : Hid (szQ (a * pw2 k 0) 34359738368) := szQ_mono (szQ_of zm) (by omega)
 have Z4 : Hid (szQ (floorQ (a * pw2 k 0)) 34359738368) := szQ_mono (szQ_of (szR_floor zm (by omega))) (by omega)
 have Z5 : Hid (szQ (pw2 0 k) 34359738368) := szQ_mono (szQ_of (szR_pw2 (by omega) HK.out)) (by omega)
 have HD : Hid (floorQ (a * pw2 k 0) * pw2 0 k = downQ a k) := floor_down a k
 clear zp zm
 have N3 : Hid (w.heap.size + 1 ≤ W.heap.size) := by show _ ≤ _; have := HWS.out; omega
 have N0 : Hid (w.heap.size < w.heap.size + 1) := by show _ < _; omega
 refine wp_region_held_drew (S := (fun w' => Below (w.heap.size + 1) W w' ∧ w'.cell? ⟨w.heap.size, 0, none⟩ = some (.bool x.b) ∧ w'.cell? ⟨w.heap.size, 1, none⟩ = some (.slice x.a x.n x.c) ∧ w'.cell? ⟨w.heap.size, 2, none⟩ = some (.slice x.d x.m x.e))) (by kernel_rfl) ⟨(Below.refl _ _).drew, xc0, xc1, xc2⟩ (fun hh => ?_)
 clear xc0 xc1 xc2 g0 g1 g2 f0 f1 f2
 have hdr := (Below.refl W.heap.size W).drew
 replace HVx := Lib.hid (HVx.out.below hdr)
 replace HE0 := Lib.hid (blk_keep HE0.out hdr (blk_lt HE0.out))
 replace HE1 := Lib.hid (blk_keep HE1.out hdr (blk_lt HE1.out))
 replace HB := Lib.hid (bt HB.out hdr)
 clear hdr
 refine tk0 (i := 0) (v := ?vp0) rfl (Or.inl ⟨by rfl, ?hyp0⟩) (by assumption) ?rep0
 case hyp0 => intro w hSw; (try dsimp only at hSw); (go_simp <;> with_reducible rfl)
 try simp only [na1, na2, na3, Act.put, na4, na5, na6]
 refine tk0 (i := 1) (v := ?vp1) rfl (Or.inl ⟨by rfl, ?hyp1⟩) (by assumption) ?rep1
 case hyp1 => intro w hSw; (try dsimp only at hSw); (go_simp <;> with_reducible rfl)
 try simp only [na1, na2, na3, Act.put, na4, na5, na6]
 refine tk0 (i := 6) (v := ?vp6) rfl (Or.inl ⟨by rfl, ?hyp6⟩) (by assumption) ?rep6
 case hyp6 => intro w hSw; (try dsimp only at hSw); (go_simp <;> with_reducible rfl)
 try simp only [na1, na2, na3, Act.put, na4, na5, na6]
 refine rd1 (i := 2) rfl (fun K hK => ?_)
 go_simp
 go_wp2_with (go_at_call 186; (with_reducible refine (qbits_any k HK.out z HZK.out _).mono ?_); rintro e w1 ⟨rfl, hb1⟩)
 refine hK.out _ _ (kd3 N3.out hb1 hh) (fun hh => ?_)
 clear hK K
 try simp only [na1, na2, na3, Act.put, na4, na5, na6]
 replace HVx := Lib.hid (HVx.out.below hb1)
 replace HE0 := Lib.hid (blk_keep HE0.out hb1 (blk_lt HE0.out))
 replace HE1 := Lib.hid (blk_keep HE1.out hb1 (blk_lt HE1.out))
 replace HB := Lib.hid (bt HB.out hb1)
 clear hb1
 refine rd1 (i := 3) rfl (fun K hK => ?_)
 go_simp
 go_wp2_with (go_at_call 185; (with_reducible refine (two_pos k _ (Nat.le_trans HK.out (by omega))).mono ?_); rintro e w2 ⟨v2, rfl, hv2, hb2⟩; obtain ⟨z1, rfl⟩ := hv2.open3)
 refine hK.out _ _ (kd3 N3.out hb2 hh) (fun hh => ?_)
 clear hK K
 try simp only [na1, na2, na3, Act.put, na4, na5, na6]
 replace HVx := Lib.hid (HVx.out.below hb2)
 replace HE0 := Lib.hid (blk_keep HE0.out hb2 (blk_lt HE0.out))
 replace HE1 := Lib.hid (blk_keep HE1.out hb2 (blk_lt HE1.out))
 replace HB := Lib.hid (bt HB.out hb2)
 have HVz1 := Lib.hid hv2
 clear hv2
 clear hb2
 refine rd1 (i := 4) rfl (fun K hK => ?_)
 go_simp
 go_wp2_with (go_at_call 122; (with_reducible refine (qmul_any a (pw2 k 0) _ _ _ HVx.out HVz1.out Z1.out Z2.out).mono ?_); rintro e w3 ⟨v3, rfl, hv3, hb3⟩; obtain ⟨z2, rfl⟩ := hv3.open3)
 refine hK.out _ _ (kd3 N3.out hb3 hh) (fun hh => ?_)
 clear hK K
 try simp only [na1, na2, na3, Act.put, na4, na5, na6]
 replace HVx := Lib.hid (HVx.out.below hb3)
 replace HVz1 := Lib.hid (HVz1.out.below hb3)
 replace HE0 := Lib.hid (blk_keep HE0.out hb3 (blk_lt HE0.out))
 replace HE1 := Lib.hid (blk_keep HE1.out hb3 (blk_lt HE1.out))
 replace HB := Lib.hid (bt HB.out hb3)
 have HVz2 := Lib.hid hv3
 clear hv3
 clear hb3
 refine rd1 (i := 5) rfl (fun K hK => ?_)
 go_simp
 go_wp2_with (go_at_call 184; (with_reducible refine (qfloor_any (a * pw2 k 0) _ _ HVz2.out Z3.out).mono ?_); rintro e w4 ⟨v4, rfl, hv4, hb4⟩; obtain ⟨z3, rfl⟩ := hv4.open3)
 refine hK.out _ _ (kd3 N3.out hb4 hh) (fun hh => ?_)
 clear hK K
 try simp only [na1, na2, na3, Act.put, na4, na5, na6]
 replace HVx := Lib.hid (HVx.out.below hb4)
 replace HVz1 := Lib.hid (HVz1.out.below hb4)
 replace HVz2 := Lib.hid (HVz2.out.below hb4)
 replace HE0 := Lib.hid (blk_keep HE0.out hb4 (blk_lt HE0.out))
 replace HE1 := Lib.hid (blk_keep HE1.out hb4 (blk_lt HE1.out))
 replace HB := Lib.hid (bt HB.out hb4)
 have HVz3 := Lib.hid hv4
 clear hv4
 clear hb4
 refine rd1 (i := 7) rfl (fun K hK => ?_)
 go_simp
 go_wp2_with (go_at_call 186; (with_reducible refine (qbits_any k HK.out z HZK.out _).mono ?_); rintro e w5 ⟨rfl, hb5⟩)
 refine hK.out _ _ (kd3 N3.out hb5 hh) (fun hh => ?_)
 clear hK K
 try simp only [na1, na2, na3, Act.put, na4, na5, na6]
 replace HVx := Lib.hid (HVx.out.below hb5)
 replace HVz1 := Lib.hid (HVz1.out.below hb5)
 replace HVz2 := Lib.hid (HVz2.out.below hb5)
 replace HVz3 := Lib.hid (HVz3.out.below hb5)
 replace HE0 := Lib.hid (blk_keep HE0.out hb5 (blk_lt HE0.out))
 replace HE1 := Lib.hid (blk_keep HE1.out hb5 (blk_lt HE1.out))
 replace HB := Lib.hid (bt HB.out hb5)
 clear hb5
 refine tk0 (i := 8) (v := ?vp8) rfl (Or.inl ⟨by rfl, ?hyp8⟩) (by assumption) ?rep8
 case hyp8 => intro w hSw; (try dsimp only at hSw); (go_simp <;> with_reducible rfl)
 try simp only [na1, na2, na3, Act.put, na4, na5, na6]
 refine rd1 (i := 9) rfl (fun K hK => ?_)
 go_simp
 go_wp2_with (go_at_call 185; (with_reducible refine (twoN_any k _ _ rfl HK.out).mono ?_); rintro e w6 ⟨v6, rfl, hv6, hb6⟩; obtain ⟨z4, rfl⟩ := hv6.open3)
 refine hK.out _ _ (kd3 N3.out hb6 hh) (fun hh => ?_)
 clear hK K
 try simp only [na1, na2, na3, Act.put, na4, na5, na6]
 replace HVx := Lib.hid (HVx.out.below hb6)
 replace HVz1 := Lib.hid (HVz1.out.below hb6)
 replace HVz2 := Lib.hid (HVz2.out.below hb6)
 replace HVz3 := Lib.hid (HVz3.out.below hb6)
 replace HE0 := Lib.hid (blk_keep HE0.out hb6 (blk_lt HE0.out))
 replace HE1 := Lib.hid (blk_keep HE1.out hb6 (blk_lt HE1.out))
 replace HB := Lib.hid (bt HB.out hb6)
 have HVz4 := Lib.hid hv6
 clear hv6
 clear hb6
 refine rd1 (i := 10) rfl (fun K hK => ?_)
 go_simp
 go_wp2_with (go_at_call 122; (with_reducible refine (qmul_any (floorQ (a * pw2 k 0)) (pw2 0 k) _ _ _ HVz3.out HVz4.out Z4.out Z5.out).mono ?_); rintro e w7 ⟨v7, rfl, hv7, hb7⟩; obtain ⟨z5, rfl⟩ := hv7.open3)
 refine hK.out _ _ (kd3 N3.out hb7 hh) (fun hh => ?_)
 clear hK K
 try simp only [na1, na2, na3, Act.put, na4, na5, na6]
 replace HVx := Lib.hid (HVx.out.below hb7)
 replace HVz1 := Lib.hid (HVz1.out.below hb7)
 replace HVz2 := Lib.hid (HVz2.out.below hb7)
 replace HVz3 := Lib.hid (HVz3.out.below hb7)
 replace HVz4 := Lib.hid (HVz4.out.below hb7)
 replace HE0 := Lib.hid (blk_keep HE0.out hb7 (blk_lt HE0.out))
 replace HE1 := Lib.hid (blk_keep HE1.out hb7 (blk_lt HE1.out))
 replace HB := Lib.hid (bt HB.out hb7)
 have HVz5 := Lib.hid hv7
 clear hv7
 clear hb7
 rw [HD.out] at HVz5
 obtain ⟨g0, g1, g2, f0, f1, f2⟩ := fac3 (x := r30) HE1.out
 refine rd1 (i := 11) rfl (fun K hK => ?_)
 go_simp
 refine hK.out _ _ (ks3 (Nat.le_refl _) N0.out N0.out N0.out (below3r (Below.refl _ _) (Nat.le_refl _)) hh) (fun hh => ?_)
 clear hK K
 try simp only [na1, na2, na3, Act.put, na4, na5, na6]
 refine wpAnyH_done (by kernel_rfl) ?_ _
 obtain ⟨h0, h1, h2, _, _, _⟩ := fac3 (x := z5) (set3r (p := r30) (x := z5) HE1.out)
 go_wp2_with fail
 refine bodyPost_ret (v := z5.val) (by simp [results, Tryz.results164, go_sem, h0, h1, h2]) rfl ⟨_, rfl, IsR.set3r (p := r30) (x := z5) HVz5.out HE1.out, below3r HB.out (by omega)⟩
set_option maxRecDepth 100000 in
set_option maxHeartbeats 2000000 in
theorem qup_any (a : Rat) (k : Nat) (vx : Value) (w : World) (hx : IsR w vx a) (hk : k ≤ 256) (z : Int) (hz : min (max z 0) 256 = (k : Int)) (hs : szR a 1000000) :
  Calls Tryz.prog 165 #[vx, .int .i64 z] w (RetR (upQ a k) w) := by
 obtain ⟨x, rfl⟩ := hx.open3
 have HVx := Lib.hid hx
 clear hx
 have HK := Lib.hid hk
 have HZK := Lib.hid hz
 clear hz
 clear hk
 have HS := Lib.hid hs
 clear hs
 go_enter Tryz.func165, Tryz.ntmps165
 go_wp2_with fail
 generalize hW0 : (w.alloc (.cells _ _)).alloc (.cells _ _) = W at *
 obtain ⟨hal, hE0, hE1, hWs⟩ := bxg2 w _ _ _ _ W hW0.symm
 have HB := Lib.hid hal
 have HWS := Lib.hid hWs
 have HE0 := Lib.hid hE0
 have HE1 := Lib.hid hE1
 clear hW0 hal hWs hE0 hE1
 replace HVx := Lib.hid (HVx.out.below HB.out)
 obtain ⟨xc0, xc1, xc2, _, _, _⟩ := fac3 (x := x) HE0.out
 obtain ⟨g0, g1, g2, f0, f1, f2⟩ := fac3 (x := r30) HE1.out
 refine (qneg_any a _ _ HVx.out).mono ?_
 rintro e w1 ⟨v1, rfl, hv1, hb1⟩
 obtain ⟨z1, rfl⟩ := hv1.open3
 replace HVx := Lib.hid (HVx.out.below hb1)
 replace HE0 := Lib.hid (blk_keep HE0.out hb1 (blk_lt HE0.out))
 replace HE1 := Lib.hid (blk_keep HE1.out hb1 (blk_lt HE1.out))
 replace HB := Lib.hid (bt HB.out hb1)
 have HVz1 := Lib.hid hv1
 clear hv1
 clear xc0 xc1 xc2 g0 g1 g2 f0 f1 f2
 obtain ⟨xc0, xc1, xc2, _, _, _⟩ := fac3 (x := x) HE0.out
 obtain ⟨g0, g1, g2, f0, f1, f2⟩ := fac3 (x := r30) HE1.out
 clear hb1
 go_wp2_with fail
 refine (qdown_any (-a) k _ _ HVz1.out HK.out z HZK.out (szR_neg HS.out)).mono ?_
 rintro e w2 ⟨v2, rfl, hv2, hb2⟩
 obtain ⟨z2, rfl⟩ := hv2.open3
 replace HVx := Lib.hid (HVx.out.below hb2)
 replace HVz1 := Lib.hid (HVz1.out.below hb2)
 replace HE0 := Lib.hid (blk_keep HE0.out hb2 (blk_lt HE0.out))
 replace HE1 := Lib.hid (blk_keep HE1.out hb2 (blk_lt HE1.out))
 replace HB := Lib.hid (bt HB.out hb2)
 have HVz2 := Lib.hid hv2
 clear hv2
 clear xc0 xc1 xc2 g0 g1 g2 f0 f1 f2
 obtain ⟨xc0, xc1, xc2, _, _, _⟩ := fac3 (x := x) HE0.out
 obtain ⟨g0, g1, g2, f0, f1, f2⟩ := fac3 (x := r30) HE1.out
 clear hb2
 go_wp2_with fail
 refine (qneg_any (downQ (-a) k) _ _ HVz2.out).mono ?_
 rintro e w3 ⟨v3, rfl, hv3, hb3⟩
 obtain ⟨z3, rfl⟩ := hv3.open3
 replace HVx := Lib.hid (HVx.out.below hb3)
 replace HVz1 := Lib.hid (HVz1.out.below hb3)
 replace HVz2 := Lib.hid (HVz2.out.below hb3)
 replace HE0 := Lib.hid (blk_keep HE0.out hb3 (blk_lt HE0.out))
 replace HE1 := Lib.hid (blk_keep HE1.out hb3 (blk_lt HE1.out))
 replace HB := Lib.hid (bt HB.out hb3)
 have HVz3 := Lib.hid hv3
 clear hv3
 clear xc0 xc1 xc2 g0 g1 g2 f0 f1 f2
 obtain ⟨xc0, xc1, xc2, _, _, _⟩ := fac3 (x := x) HE0.out
 obtain ⟨g0, g1, g2, f0, f1, f2⟩ := fac3 (x := r30) HE1.out
 clear hb3
 have e : Hid (-(downQ (-a) k) = upQ a k) := rfl
 rw [e.out] at HVz3
 go_wp2_with fail
 obtain ⟨h0, h1, h2, _, _, _⟩ := fac3 (x := z3) (set3r (p := r30) (x := z3) HE1.out)
 refine bodyPost_ret (v := z3.val) (by simp [results, Tryz.results165, go_sem, h0, h1, h2]) rfl ⟨_, rfl, IsR.set3r (p := r30) (x := z3) HVz3.out HE1.out, below3r HB.out (by omega)⟩
set_option maxRecDepth 100000 in
set_option maxHeartbeats 2000000 in
theorem qround_any (a b : Rat) (k : Nat) (vx : Value) (w : World) (hx : IsRngQ w vx a b) (hk : k ≤ 256) (z : Int) (hz : min (max z 0) 256 = (k : Int)) (s1 : szR a 1000000) (s2 : szR b 1000000) :
  Calls Tryz.prog 125 #[vx, .int .i64 z] w (RetRngQ (downQ a k) (upQ b k) w) := by
 obtain ⟨x1, x2, rfl, hx1, hx2⟩ := hx
 have HVx1 := Lib.hid hx1
 have HVx2 := Lib.hid hx2
 clear hx1 hx2
 have HK := Lib.hid hk
 have HZK := Lib.hid hz
 clear hz
 clear hk
 have S1 := Lib.hid s1
 clear s1
 have S2 := Lib.hid s2
 clear s2
 go_enter Tryz.func125, Tryz.ntmps125
 go_wp2_with fail
 generalize hW0 : (w.alloc (.cells _ _)).alloc (.cells _ _) = W at *
 obtain ⟨hal, hE0, hE1, hWs⟩ := bxg2 w _ _ _ _ W hW0.symm
 have HB := Lib.hid hal
 have HWS := Lib.hid hWs
 have HE0 := Lib.hid hE0
 have HE1 := Lib.hid hE1
 clear hW0 hal hWs hE0 hE1
 replace HVx1 := Lib.hid (HVx1.out.below HB.out)
 replace HVx2 := Lib.hid (HVx2.out.below HB.out)
 obtain ⟨xc0, xc1, xc2, xc3, xc4, xc5, _, _, _, _, _, _⟩ := fac6 (x := x1) (y := x2) HE0.out
 obtain ⟨g0, g1, g2, g3, g4, g5, f0, f1, f2, f3, f4, f5⟩ := fac6 (x := r30) (y := r30) HE1.out
 have N3 : Hid (w.heap.size + 1 ≤ W.heap.size) := by show _ ≤ _; have := HWS.out; omega
 have N0 : Hid (w.heap.size < w.heap.size + 1) := by show _ < _; omega
 refine wp_region_held_drew (S := (fun w' => Below (w.heap.size + 1) W w' ∧ w'.cell? ⟨w.heap.size, 0, none⟩ = some (.bool x1.b) ∧ w'.cell? ⟨w.heap.size, 1, none⟩ = some (.slice x1.a x1.n x1.c) ∧ w'.cell? ⟨w.heap.size, 2, none⟩ = some (.slice x1.d x1.m x1.e) ∧ w'.cell? ⟨w.heap.size, 3, none⟩ = some (.bool x2.b) ∧ w'.cell? ⟨w.heap.size, 4, none⟩ = some (.slice x2.a x2.n x2.c) ∧ w'.cell? ⟨w.heap.size, 5, none⟩ = some (.slice x2.d x2.m x2.e))) (by kernel_rfl) ⟨(Below.refl _ _).drew, xc0, xc1, xc2, xc3, xc4, xc5⟩ (fun hh => ?_)
 clear xc0 xc1 xc2 xc3 xc4 xc5 g0 g1 g2 g3 g4 g5 f0 f1 f2 f3 f4 f5
 have hdr := (Below.refl W.heap.size W).drew
 replace HVx1 := Lib.hid (HVx1.out.below hdr)
 replace HVx2 := Lib.hid (HVx2.out.below hdr)
 replace HE0 := Lib.hid (blk_keep HE0.out hdr (blk_lt HE0.out))
 replace HE1 := Lib.hid (blk_keep HE1.out hdr (blk_lt HE1.out))
 replace HB := Lib.hid (bt HB.out hdr)
 clear hdr
 refine tk0 (i := 0) (v := ?vp0) rfl (Or.inl ⟨by rfl, ?hyp0⟩) (by assumption) ?rep0
 case hyp0 => intro w hSw; (try dsimp only at hSw); (go_simp <;> with_reducible rfl)
 try simp only [na1, na2, na3, Act.put, na4, na5, na6]
 refine tk0 (i := 1) (v := ?vp1) rfl (Or.inl ⟨by rfl, ?hyp1⟩) (by assumption) ?rep1
 case hyp1 => intro w hSw; (try dsimp only at hSw); (go_simp <;> with_reducible rfl)
 try simp only [na1, na2, na3, Act.put, na4, na5, na6]
 refine tk0 (i := 2) (v := ?vp2) rfl (Or.inl ⟨by rfl, ?hyp2⟩) (by assumption) ?rep2
 case hyp2 => intro w hSw; (try dsimp only at hSw); (go_simp <;> with_reducible rfl)
 try simp only [na1, na2, na3, Act.put, na4, na5, na6]
 refine tk0 (i := 4) (v := ?vp4) rfl (Or.inl ⟨by rfl, ?hyp4⟩) (by assumption) ?rep4
 case hyp4 => intro w hSw; (try dsimp only at hSw); (go_simp <;> with_reducible rfl)
 try simp only [na1, na2, na3, Act.put, na4, na5, na6]
 refine tk0 (i := 5) (v := ?vp5) rfl (Or.inl ⟨by rfl, ?hyp5⟩) (by assumption) ?rep5
 case hyp5 => intro w hSw; (try dsimp only at hSw); (go_simp <;> with_reducible rfl)
 try simp only [na1, na2, na3, Act.put, na4, na5, na6]
 refine tk0 (i := 6) (v := ?vp6) rfl (Or.inl ⟨by rfl, ?hyp6⟩) (by assumption) ?rep6
 case hyp6 => intro w hSw; (try dsimp only at hSw); (go_simp <;> with_reducible rfl)
 try simp only [na1, na2, na3, Act.put, na4, na5, na6]
 refine rd1 (i := 3) rfl (fun K hK => ?_)
 go_simp
 go_wp2_with (go_at_call 164; (with_reducible refine (qdown_any a k _ _ HVx1.out HK.out z HZK.out S1.out).mono ?_); rintro e w1 ⟨v1, rfl, hv1, hb1⟩; obtain ⟨z1, rfl⟩ := hv1.open3)
 refine hK.out _ _ (kd6 N3.out hb1 hh) (fun hh => ?_)
 clear hK K
 try simp only [na1, na2, na3, Act.put, na4, na5, na6]
 replace HVx1 := Lib.hid (HVx1.out.below hb1)
 replace HVx2 := Lib.hid (HVx2.out.below hb1)
 replace HE0 := Lib.hid (blk_keep HE0.out hb1 (blk_lt HE0.out))
 replace HE1 := Lib.hid (blk_keep HE1.out hb1 (blk_lt HE1.out))
 replace HB := Lib.hid (bt HB.out hb1)
 have HVz1 := Lib.hid hv1
 clear hv1
 clear hb1
 refine rd1 (i := 7) rfl (fun K hK => ?_)
 go_simp
 go_wp2_with (go_at_call 165; (with_reducible refine (qup_any b k _ _ HVx2.out HK.out z HZK.out S2.out).mono ?_); rintro e w2 ⟨v2, rfl, hv2, hb2⟩; obtain ⟨z2, rfl⟩ := hv2.open3)
 refine hK.out _ _ (kd6 N3.out hb2 hh) (fun hh => ?_)
 clear hK K
 try simp only [na1, na2, na3, Act.put, na4, na5, na6]
 replace HVx1 := Lib.hid (HVx1.out.below hb2)
 replace HVx2 := Lib.hid (HVx2.out.below hb2)
 replace HVz1 := Lib.hid (HVz1.out.below hb2)
 replace HE0 := Lib.hid (blk_keep HE0.out hb2 (blk_lt HE0.out))
 replace HE1 := Lib.hid (blk_keep HE1.out hb2 (blk_lt HE1.out))
 replace HB := Lib.hid (bt HB.out hb2)
 have HVz2 := Lib.hid hv2
 clear hv2
 clear hb2
 refine tk0 (i := 8) (v := ?vp8) rfl (Or.inl ⟨by rfl, ?hyp8⟩) (by assumption) ?rep8
 case hyp8 => intro w hSw; (try dsimp only at hSw); (go_simp <;> with_reducible rfl)
 try simp only [na1, na2, na3, Act.put, na4, na5, na6]
 obtain ⟨g0, g1, g2, g3, g4, g5, f0, f1, f2, f3, f4, f5⟩ := fac6 (x := r30) (y := r30) HE1.out
 refine rd1 (i := 9) rfl (fun K hK => ?_)
 go_simp
 refine hK.out _ _ (ks6 (Nat.le_refl _) N0.out N0.out N0.out N0.out N0.out N0.out (below6r (Below.refl _ _) (Nat.le_refl _)) hh) (fun hh => ?_)
 clear hK K
 try simp only [na1, na2, na3, Act.put, na4, na5, na6]
 refine wpAnyH_done (by kernel_rfl) ?_ _
 obtain ⟨h0, h1, h2, h3, h4, h5, _, _, _, _, _, _⟩ := fac6 (x := z1) (y := z2) (set6r (p := r30) (q := r30) (x := z1) (y := z2) HE1.out)
 go_wp2_with fail
 refine bodyPost_ret (v := rngV z1 z2) (by simp [results, Tryz.results125, go_sem, h0, h1, h2, h3, h4, h5]) rfl ⟨_, rfl, ⟨z1, z2, rfl, IsR.set6r (p := r30) (q := r30) HVz1.out HE1.out, IsR.set6r (p := r30) (q := r30) HVz2.out HE1.out⟩, below6r HB.out (by omega)⟩
end Go.Proofs.YtfjcccpibhhncaaGreat

namespace Go.Proofs.YtfjcccpibhhncaaGreat
open Go.RowKit

theorem IsRat.neg3 {w : World} {x : R3} {q : Rat} (h : IsRat w x.val q) : x.b = decide (q.num < 0) := by
 obtain ⟨vn, vd, hxe, _, _⟩ := h
 injection hxe with hxe
 simp only [Array.mk.injEq, List.cons.injEq] at hxe
 have := hxe.1
 injection this
theorem down_any (q : Rat) (k : Nat) (hk : k ≤ 256) (z : Int) (hz : min (max z 0) 256 = (k : Int)) (v : Value) (w : World) (h : IsRat w v q) (hs : szR q 68719476736) : Calls Tryz.prog 98 #[v, .int .i64 z] w (RetRat (downQ q k) w) := by
 obtain ⟨x, rfl⟩ := h.open3
 have hb := h.neg3
 obtain ⟨b, xa, xn, xc, xd, xm, xe⟩ := x
 cases b with
 | false =>
  have hn : decide (q.num < 0) = false := hb.symm
  refine down_f q k hk z hz xa xn xc xd xm xe w h hs _ ?_
  unfold downQ downN
  rw [hn, if_neg (fun h => by rw [decide_eq_false_iff_not] at hn; exact hn h.1)]
 | true =>
  have hn : decide (q.num < 0) = true := hb.symm
  by_cases hr : q.num.natAbs * 2 ^ k % q.den = 0
  ·
   refine down_z q k hk z hz xa xn xc xd xm xe w h hs hr _ ?_
   unfold downQ downN
   rw [hn, if_neg (fun h => h.2 hr)]
  ·
   have hl : 0 < (dig b64 (q.num.natAbs * 2 ^ k % q.den)).length := by
    rcases Nat.eq_zero_or_pos (dig b64 (q.num.natAbs * 2 ^ k % q.den)).length with h0 | h0
    ·
     exfalso
     have e := List.eq_nil_of_length_eq_zero h0
     have := lv_dig b64_two (q.num.natAbs * 2 ^ k % q.den)
     rw [e] at this
     exact hr this.symm
    ·
     exact h0
   refine down_1 q k hk z hz xa xn xc xd xm xe w h hs hl _ ?_
   unfold downQ downN
   rw [hn, if_pos ⟨of_decide_eq_true hn, hr⟩]
set_option maxRecDepth 100000 in
set_option maxHeartbeats 2000000 in
theorem up_any (q : Rat) (k : Nat) (hk : k ≤ 256) (z : Int) (hz : min (max z 0) 256 = (k : Int)) (v : Value) (w : World) (h : IsRat w v q) (hs : szR (-q) 68719476736) : Calls Tryz.prog 99 #[v, .int .i64 z] w (RetRat (upQ q k) w) := by
 obtain ⟨x, rfl⟩ := h.open3
 have HX := Lib.hid h
 have HS := Lib.hid hs
 have HK := Lib.hid hk
 have HZK := Lib.hid hz
 clear hz
 clear h hs hk
 go_enter Tryz.func99, Tryz.ntmps99
 go_wp2_with fail
 generalize hW0 : (w.alloc (.cells x.arr 41)).alloc (.cells _ _) = W at *
 obtain ⟨hal, hB1, hB2⟩ := boxesD w _ _ _ W hW0.symm
 have HB2 := Lib.hid hB2
 have HAL := Lib.hid hal
 clear hW0 hal hB1 hB2
 refine (negRat_any q _ _ (HX.out.below HAL.out)).mono ?_
 rintro e wA ⟨vA, rfl, hvA, hbA⟩
 have EA := Lib.hid (blk_keep HB2.out hbA (blk_lt HB2.out))
 have BA := Lib.hid (bt HAL.out hbA)
 go_wp2_with fail
 refine (down_any (-q) k HK.out z HZK.out _ _ hvA HS.out).mono ?_
 rintro e wB ⟨vB, rfl, hvB, hbB⟩
 have EB := Lib.hid (blk_keep EA.out hbB (blk_lt EA.out))
 have BB := Lib.hid (bt BA.out hbB)
 go_wp2_with fail
 refine (negRat_any (downQ (-q) k) _ _ hvB).mono ?_
 rintro e wC ⟨vC, rfl, hvC, hbC⟩
 have E : Hid (wC.heap[w.heap.size + 1]? = some (.cells r30.arr 41 (0, 0))) := blk_keep EB.out hbC (blk_lt EB.out)
 have BC := Lib.hid (bt BB.out hbC)
 obtain ⟨z, rfl⟩ := hvC.open3
 have HV : Hid (IsRat wC z.val (upQ q k)) := hvC
 clear hvA hvB hvC hbA hbB hbC
 obtain ⟨g0, g1, g2, f0, f1, f2⟩ := fac3 (x := r30) E.out
 go_wp2_with fail
 obtain ⟨h0, h1, h2, _, _, _⟩ := fac3 (x := z) (set3r (x := z) E.out)
 refine bodyPost_ret (v := z.val) (by simp [results, Tryz.results99, go_sem, h0, h1, h2]) rfl ⟨_, rfl, IsRat.set3r HV.out E.out, below3r BC.out (by omega)⟩
theorem boxesR (w : World) (x y : R3) (cs : Array Value) (T : Nat) (W : World) (hW : W = (w.alloc (.cells (arr6 x y) 43)).alloc (.cells cs T)) :
  Below w.heap.size w W ∧ W.heap[w.heap.size]? = some (.cells (arr6 x y) 43 (0, 0)) ∧ W.heap[w.heap.size + 1]? = some (.cells cs T (0, 0)) := by
 subst hW
 have e1 : (w.alloc (.cells (arr6 x y) 43)).heap.size = w.heap.size + 1 := World.size_alloc ..
 have a1 := blk_new w (arr6 x y) 43
 have a2 := blk_new (w.alloc (.cells (arr6 x y) 43)) cs T
 rw [e1] at a2
 exact ⟨below2 _ _ _, (heap_alloc_old _ _ (blk_lt a1)).trans a1, a2⟩
set_option maxRecDepth 100000 in
set_option maxHeartbeats 2000000 in
theorem rround_any (lo hi : Rat) (k : Nat) (hk : k ≤ 256) (z : Int) (hz : min (max z 0) 256 = (k : Int)) (v : Value) (w : World) (h : IsRng w v lo hi) (s1 : szR lo 68719476736) (s2 : szR (-hi) 68719476736) : Calls Tryz.prog 46 #[v, .int .i64 z] w (RetRng (downQ lo k) (upQ hi k) w) := by
 obtain ⟨x, y, rfl, h1, h2⟩ := h
 have HX := Lib.hid h1
 have HY := Lib.hid h2
 have S1 := Lib.hid s1
 have S2 := Lib.hid s2
 have HK := Lib.hid hk
 have HZK := Lib.hid hz
 clear hz
 clear h1 h2 s1 s2 hk
 go_enter Tryz.func46, Tryz.ntmps46
 go_wp2_with fail
 generalize hW0 : (w.alloc (.cells (arr6 x y) 43)).alloc (.cells _ _) = W at *
 obtain ⟨hal, hB1, hB2⟩ := boxesR w _ _ _ _ W hW0.symm
 obtain ⟨x0, x1, x2, y0, y1, y2, _, _, _, _, _, _⟩ := fac6 (x := x) (y := y) hB1
 have HB2 := Lib.hid hB2
 have HAD := Lib.hid hal.drew
 have N3 : Hid (w.heap.size + 1 ≤ W.heap.size) := by
  show _ ≤ _
  have := blk_lt hB2
  omega
 have N0 : Hid (w.heap.size < w.heap.size + 1) := by show _ < _; omega
 clear hW0 hal hB1 hB2
 refine wp_region_held_drew (S := (fun w' => Below (w.heap.size + 1) W w' ∧ w'.cell? ⟨w.heap.size, 0, none⟩ = some (.bool x.b) ∧ w'.cell? ⟨w.heap.size, 1, none⟩ = some (.slice x.a x.n x.c) ∧ w'.cell? ⟨w.heap.size, 2, none⟩ = some (.slice x.d x.m x.e) ∧ w'.cell? ⟨w.heap.size, 3, none⟩ = some (.bool y.b) ∧ w'.cell? ⟨w.heap.size, 4, none⟩ = some (.slice y.a y.n y.c) ∧ w'.cell? ⟨w.heap.size, 5, none⟩ = some (.slice y.d y.m y.e))) (by kernel_rfl) ⟨(Below.refl _ _).drew, x0, x1, x2, y0, y1, y2⟩ (fun hh => ?_)
 clear x0 x1 x2 y0 y1 y2
 refine tk0 (i := 0) (v := ?vp0) rfl (Or.inl ⟨by rfl, ?hyp0⟩) (by assumption) ?rep0
 case hyp0 => intro w hSw; (try dsimp only at hSw); (go_simp <;> with_reducible rfl)
 try simp only [na1, na2, na3, Act.put, na4, na5, na6]
 refine tk0 (i := 1) (v := ?vp1) rfl (Or.inl ⟨by rfl, ?hyp1⟩) (by assumption) ?rep1
 case hyp1 => intro w hSw; (try dsimp only at hSw); (go_simp <;> with_reducible rfl)
 try simp only [na1, na2, na3, Act.put, na4, na5, na6]
 refine tk0 (i := 2) (v := ?vp2) rfl (Or.inl ⟨by rfl, ?hyp2⟩) (by assumption) ?rep2
 case hyp2 => intro w hSw; (try dsimp only at hSw); (go_simp <;> with_reducible rfl)
 try simp only [na1, na2, na3, Act.put, na4, na5, na6]
 refine tk0 (i := 4) (v := ?vp4) rfl (Or.inl ⟨by rfl, ?hyp4⟩) (by assumption) ?rep4
 case hyp4 => intro w hSw; (try dsimp only at hSw); (go_simp <;> with_reducible rfl)
 try simp only [na1, na2, na3, Act.put, na4, na5, na6]
 refine tk0 (i := 5) (v := ?vp5) rfl (Or.inl ⟨by rfl, ?hyp5⟩) (by assumption) ?rep5
 case hyp5 => intro w hSw; (try dsimp only at hSw); (go_simp <;> with_reducible rfl)
 try simp only [na1, na2, na3, Act.put, na4, na5, na6]
 refine tk0 (i := 6) (v := ?vp6) rfl (Or.inl ⟨by rfl, ?hyp6⟩) (by assumption) ?rep6
 case hyp6 => intro w hSw; (try dsimp only at hSw); (go_simp <;> with_reducible rfl)
 try simp only [na1, na2, na3, Act.put, na4, na5, na6]
 refine rd1 (i := 3) rfl (fun K hK => ?_)
 go_simp
 go_wp2_with (go_at_call 98; (with_reducible refine (down_any lo k HK.out z HZK.out _ _ (HX.out.below HAD.out) S1.out).mono ?_); rintro e wA ⟨vA, rfl, hvA, hbA⟩)
 refine hK.out _ _ (kd6 N3.out hbA hh) (fun hh => ?_)
 clear hK K
 try simp only [na1, na2, na3, Act.put, na4, na5, na6]
 have BA := Lib.hid (bt HAD.out hbA)
 refine rd1 (i := 7) rfl (fun K hK => ?_)
 go_simp
 go_wp2_with (go_at_call 99; (with_reducible refine (up_any hi k HK.out z HZK.out _ _ (HY.out.below BA.out) S2.out).mono ?_); rintro e wB ⟨vB, rfl, hvB, hbB⟩; obtain ⟨za, rfl⟩ := hvA.open3; obtain ⟨zb, rfl⟩ := hvB.open3)
 refine hK.out _ _ (kd6 N3.out hbB hh) (fun hh => ?_)
 clear hK K
 try simp only [na1, na2, na3, Act.put, na4, na5, na6]
 have BB := Lib.hid (bt BA.out hbB)
 refine tk0 (i := 8) (v := ?vp8) rfl (Or.inl ⟨by rfl, ?hyp8⟩) (by assumption) ?rep8
 case hyp8 => intro w hSw; (try dsimp only at hSw); (go_simp <;> with_reducible rfl)
 try simp only [na1, na2, na3, Act.put, na4, na5, na6]
 have e0 : W.drew.heap[w.heap.size + 1]? = _ := HB2.out
 have eA := blk_keep e0 hbA (blk_lt e0)
 have E : Hid (wB.heap[w.heap.size + 1]? = some (.cells (arr6 r30 r30) 43 (0, 0))) := blk_keep eA hbB (blk_lt eA)
 have HV1 := Lib.hid (hvA.below hbB)
 have HV2 := Lib.hid hvB
 obtain ⟨g0, g1, g2, g3, g4, g5, f0, f1, f2, f3, f4, f5⟩ := fac6 (x := r30) (y := r30) E.out
 clear e0 eA hvA hvB hbA hbB
 refine rd1 (i := 9) rfl (fun K hK => ?_)
 go_simp
 refine hK.out _ _ (ks6 (Nat.le_refl _) N0.out N0.out N0.out N0.out N0.out N0.out (below6r (Below.refl _ _) (Nat.le_refl _)) hh) (fun hh => ?_)
 clear hK K
 try simp only [na1, na2, na3, Act.put, na4, na5, na6]
 refine wpAnyH_done (by kernel_rfl) ?_ _
 obtain ⟨h0, h1, h2, h3, h4, h5, _, _, _, _, _, _⟩ := fac6 (x := za) (y := zb) (set6r (x := za) (y := zb) E.out)
 go_wp2_with fail
 refine bodyPost_ret (v := rngV za zb) (by simp [results, Tryz.results46, go_sem, h0, h1, h2, h3, h4, h5]) rfl ⟨_, rfl, ⟨za, zb, rfl, IsRat.set6r HV1.out E.out, IsRat.set6r HV2.out E.out⟩, below6r BB.out (by omega)⟩
theorem boxesS (w : World) (x y x2 y2 : R3) (cs : Array Value) (T : Nat) (W : World) (hW : W = ((w.alloc (.cells (arr6 x y) 43)).alloc (.cells (arr6 x2 y2) 43)).alloc (.cells cs T)) :
  Below w.heap.size w W ∧ W.heap[w.heap.size]? = some (.cells (arr6 x y) 43 (0, 0)) ∧ W.heap[w.heap.size + 1]? = some (.cells (arr6 x2 y2) 43 (0, 0)) ∧ W.heap[w.heap.size + 1 + 1]? = some (.cells cs T (0, 0)) ∧ W.heap.size = w.heap.size + 3 := by
 subst hW
 have e1 : (w.alloc (.cells (arr6 x y) 43)).heap.size = w.heap.size + 1 := World.size_alloc ..
 have e2 : ((w.alloc (.cells (arr6 x y) 43)).alloc (.cells (arr6 x2 y2) 43)).heap.size = w.heap.size + 1 + 1 := by rw [World.size_alloc, e1]
 have a1 := blk_new w (arr6 x y) 43
 have a2 := blk_new (w.alloc (.cells (arr6 x y) 43)) (arr6 x2 y2) 43
 have a3 := blk_new ((w.alloc (.cells (arr6 x y) 43)).alloc (.cells (arr6 x2 y2) 43)) cs T
 rw [e1] at a2
 rw [e2] at a3
 have a1' := (heap_alloc_old _ (.cells (arr6 x2 y2) 43) (blk_lt a1)).trans a1
 exact ⟨ba (below2 _ _ _), (heap_alloc_old _ _ (blk_lt a1')).trans a1', (heap_alloc_old _ _ (blk_lt a2)).trans a2, a3, by rw [World.size_alloc, e2]⟩
set_option maxRecDepth 100000 in
set_option maxHeartbeats 2000000 in
theorem step_any (a0 a1 p0 p1 : Rat) (k : Nat) (hk : k ≤ 256) (z : Int) (hz : min (max z 0) 256 = (k : Int)) (vc vr : Value) (w : World) (hc : IsRng w vc a0 a1) (hr : IsRng w vr p0 p1) (q0 q1 : Rat) (hq0 : a0 + p0 * (1 - a0) = q0) (hq1 : a1 + p1 * (1 - a1) = q1)
  (s1 : szR a0 68719476736) (s2 : szR p0 68719476736) (s3 : szR (1 - a0) 68719476736) (s4 : szR (p0 * (1 - a0)) 68719476736) (s5 : szR a1 68719476736) (s6 : szR p1 68719476736) (s7 : szR (1 - a1) 68719476736) (s8 : szR (p1 * (1 - a1)) 68719476736) (s9 : szR q0 68719476736) (s10 : szR q1 68719476736) (s11 : szR (-q1) 68719476736) (hcm : cmpR q0 q1 ≤ 0) :
  Calls Tryz.prog 101 #[vc, vr, .int .i64 z] w (RetRng (downQ q0 k) (upQ q1 k) w) := by
 obtain ⟨x, y, rfl, h1, h2⟩ := hc
 obtain ⟨x', y', rfl, h3, h4⟩ := hr
 have HX := Lib.hid (show IsRng w (rngV x y) a0 a1 from ⟨x, y, rfl, h1, h2⟩)
 have HY := Lib.hid (show IsRng w (rngV x' y') p0 p1 from ⟨x', y', rfl, h3, h4⟩)
 clear h1 h2 h3 h4
 have S1 := Lib.hid s1
 have S2 := Lib.hid s2
 have S3 := Lib.hid s3
 have S4 := Lib.hid s4
 have S5 := Lib.hid s5
 have S6 := Lib.hid s6
 have S7 := Lib.hid s7
 have S8 := Lib.hid s8
 have S9 := Lib.hid s9
 have S10 := Lib.hid s10
 have S11 := Lib.hid s11
 have HK := Lib.hid hk
 have HZK := Lib.hid hz
 clear hz
 have HCM := Lib.hid hcm
 have HQ0 := Lib.hid hq0
 have HQ1 := Lib.hid hq1
 clear s1 s2 s3 s4 s5 s6 s7 s8 s9 s10 s11 hk hcm hq0 hq1
 have S12 : Hid (szR q0 274877906944) := ⟨Nat.le_trans S9.out.1 (by omega), Nat.le_trans S9.out.2 (by omega)⟩
 have S13 : Hid (szR q1 274877906944) := ⟨Nat.le_trans S10.out.1 (by omega), Nat.le_trans S10.out.2 (by omega)⟩
 go_enter Tryz.func101, Tryz.ntmps101
 go_wp2_with fail
 generalize hW0 : ((w.alloc (.cells (arr6 x y) 43)).alloc (.cells (arr6 x' y') 43)).alloc (.cells _ _) = W at *
 obtain ⟨hal, hB1, hB2, hB3, hWs⟩ := boxesS w _ _ _ _ _ _ W hW0.symm
 obtain ⟨x0, x1, x2, x3, x4, x5, _, _, _, _, _, _⟩ := fac6 (x := x) (y := y) hB1
 obtain ⟨y0, y1, y2, y3, y4, y5, _, _, _, _, _, _⟩ := fac6 (x := x') (y := y') hB2
 have HB3 := Lib.hid hB3
 have HAD := Lib.hid hal.drew
 have N3 : Hid (w.heap.size + 1 + 1 ≤ W.heap.size) := by show _ ≤ _; omega
 have N0 : Hid (w.heap.size < w.heap.size + 1 + 1) := by show _ < _; omega
 have N1 : Hid (w.heap.size + 1 < w.heap.size + 1 + 1) := by show _ < _; omega
 clear hW0 hal hB1 hB2 hB3 hWs
 refine wp_region_held_drew (S := (fun w' => Below (w.heap.size + 1 + 1) W w' ∧ w'.cell? ⟨w.heap.size, 0, none⟩ = some (.bool x.b) ∧ w'.cell? ⟨w.heap.size, 1, none⟩ = some (.slice x.a x.n x.c) ∧ w'.cell? ⟨w.heap.size, 2, none⟩ = some (.slice x.d x.m x.e) ∧ w'.cell? ⟨w.heap.size, 3, none⟩ = some (.bool y.b) ∧ w'.cell? ⟨w.heap.size, 4, none⟩ = some (.slice y.a y.n y.c) ∧ w'.cell? ⟨w.heap.size, 5, none⟩ = some (.slice y.d y.m y.e) ∧ w'.cell? ⟨w.heap.size + 1, 0, none⟩ = some (.bool x'.b) ∧ w'.cell? ⟨w.heap.size + 1, 1, none⟩ = some (.slice x'.a x'.n x'.c) ∧ w'.cell? ⟨w.heap.size + 1, 2, none⟩ = some (.slice x'.d x'.m x'.e) ∧ w'.cell? ⟨w.heap.size + 1, 3, none⟩ = some (.bool y'.b) ∧ w'.cell? ⟨w.heap.size + 1, 4, none⟩ = some (.slice y'.a y'.n y'.c) ∧ w'.cell? ⟨w.heap.size + 1, 5, none⟩ = some (.slice y'.d y'.m y'.e))) (by kernel_rfl) ⟨(Below.refl _ _).drew, x0, x1, x2, x3, x4, x5, y0, y1, y2, y3, y4, y5⟩ (fun hh => ?_)
 clear x0 x1 x2 x3 x4 x5 y0 y1 y2 y3 y4 y5
 refine tk0 (i := 0) (v := ?vp0) rfl (Or.inl ⟨by rfl, ?hyp0⟩) (by assumption) ?rep0
 case hyp0 => intro w hSw; (try dsimp only at hSw); (go_simp <;> with_reducible rfl)
 try simp only [na1, na2, na3, Act.put, na4, na5, na6]
 refine tk0 (i := 1) (v := ?vp1) rfl (Or.inl ⟨by rfl, ?hyp1⟩) (by assumption) ?rep1
 case hyp1 => intro w hSw; (try dsimp only at hSw); (go_simp <;> with_reducible rfl)
 try simp only [na1, na2, na3, Act.put, na4, na5, na6]
 refine tk0 (i := 3) (v := ?vp3) rfl (Or.inl ⟨by rfl, ?hyp3⟩) (by assumption) ?rep3
 case hyp3 => intro w hSw; (try dsimp only at hSw); (go_simp <;> with_reducible rfl)
 try simp only [na1, na2, na3, Act.put, na4, na5, na6]
 refine tk0 (i := 6) (v := ?vp6) rfl (Or.inl ⟨by rfl, ?hyp6⟩) (by assumption) ?rep6
 case hyp6 => intro w hSw; (try dsimp only at hSw); (go_simp <;> with_reducible rfl)
 try simp only [na1, na2, na3, Act.put, na4, na5, na6]
 refine tk0 (i := 7) (v := ?vp7) rfl (Or.inl ⟨by rfl, ?hyp7⟩) (by assumption) ?rep7
 case hyp7 => intro w hSw; (try dsimp only at hSw); (go_simp <;> with_reducible rfl)
 try simp only [na1, na2, na3, Act.put, na4, na5, na6]
 refine tk0 (i := 9) (v := ?vp9) rfl (Or.inl ⟨by rfl, ?hyp9⟩) (by assumption) ?rep9
 case hyp9 => intro w hSw; (try dsimp only at hSw); (go_simp <;> with_reducible rfl)
 try simp only [na1, na2, na3, Act.put, na4, na5, na6]
 refine tk0 (i := 13) (v := ?vp13) rfl (Or.inl ⟨by rfl, ?hyp13⟩) (by assumption) ?rep13
 case hyp13 => intro w hSw; (try dsimp only at hSw); (go_simp <;> with_reducible rfl)
 try simp only [na1, na2, na3, Act.put, na4, na5, na6]
 refine rd1 (i := 2) rfl (fun K hK => ?_)
 go_simp
 go_wp2_with (go_at_call 72; (with_reducible refine (rlo_any a0 a1 _ _ (HX.out.below HAD.out)).mono ?_); rintro e wA ⟨vA, rfl, hvA, hbA⟩)
 refine hK.out _ _ (kd12 N3.out hbA hh) (fun hh => ?_)
 clear hK K
 try simp only [na1, na2, na3, Act.put, na4, na5, na6]
 have BA := Lib.hid (bt HAD.out hbA)
 refine rd1 (i := 4) rfl (fun K hK => ?_)
 go_simp
 go_wp2_with (go_at_call 72; (with_reducible refine (rlo_any p0 p1 _ _ (HY.out.below BA.out)).mono ?_); rintro e wB ⟨vB, rfl, hvB, hbB⟩)
 refine hK.out _ _ (kd12 N3.out hbB hh) (fun hh => ?_)
 clear hK K
 try simp only [na1, na2, na3, Act.put, na4, na5, na6]
 have BB := Lib.hid (bt BA.out hbB)
 refine rd1 (i := 5) rfl (fun K hK => ?_)
 go_simp
 go_wp2_with (go_at_call 148; (with_reducible refine (stepf_any a0 p0 _ _ _ (hvA.below hbB) hvB S1.out S2.out S3.out S4.out).mono ?_); rintro e wC ⟨vC, rfl, hvC, hbC⟩)
 refine hK.out _ _ (kd12 N3.out hbC hh) (fun hh => ?_)
 clear hK K
 try simp only [na1, na2, na3, Act.put, na4, na5, na6]
 have BC := Lib.hid (bt BB.out hbC)
 rw [HQ0.out] at hvC
 refine rd1 (i := 8) rfl (fun K hK => ?_)
 go_simp
 go_wp2_with (go_at_call 80; (with_reducible refine (rhi_any a0 a1 _ _ (HX.out.below BC.out)).mono ?_); rintro e wD ⟨vD, rfl, hvD, hbD⟩)
 refine hK.out _ _ (kd12 N3.out hbD hh) (fun hh => ?_)
 clear hK K
 try simp only [na1, na2, na3, Act.put, na4, na5, na6]
 have BD := Lib.hid (bt BC.out hbD)
 refine rd1 (i := 10) rfl (fun K hK => ?_)
 go_simp
 go_wp2_with (go_at_call 80; (with_reducible refine (rhi_any p0 p1 _ _ (HY.out.below BD.out)).mono ?_); rintro e wF ⟨vF, rfl, hvF, hbF⟩)
 refine hK.out _ _ (kd12 N3.out hbF hh) (fun hh => ?_)
 clear hK K
 try simp only [na1, na2, na3, Act.put, na4, na5, na6]
 have BF := Lib.hid (bt BD.out hbF)
 refine rd1 (i := 11) rfl (fun K hK => ?_)
 go_simp
 go_wp2_with (go_at_call 148; (with_reducible refine (stepf_any a1 p1 _ _ _ (hvD.below hbF) hvF S5.out S6.out S7.out S8.out).mono ?_); rintro e wG ⟨vG, rfl, hvG, hbG⟩)
 refine hK.out _ _ (kd12 N3.out hbG hh) (fun hh => ?_)
 clear hK K
 try simp only [na1, na2, na3, Act.put, na4, na5, na6]
 have BG := Lib.hid (bt BF.out hbG)
 rw [HQ1.out] at hvG
 refine rd1 (i := 12) rfl (fun K hK => ?_)
 go_simp
 go_wp2_with (go_at_call 116; (with_reducible refine (span_any q0 q1 _ _ _ (hvC.below (bt (bt hbD hbF) hbG)) hvG S12.out S13.out HCM.out).mono ?_); rintro e wI ⟨vI, rfl, hvI, hbI⟩)
 refine hK.out _ _ (kd12 N3.out hbI hh) (fun hh => ?_)
 clear hK K
 try simp only [na1, na2, na3, Act.put, na4, na5, na6]
 have BI := Lib.hid (bt BG.out hbI)
 refine rd1 (i := 14) rfl (fun K hK => ?_)
 go_simp
 go_wp2_with (go_at_call 46; (with_reducible refine (rround_any q0 q1 k HK.out z HZK.out _ _ hvI S9.out S11.out).mono ?_); rintro e wJ ⟨vJ, rfl, hvJ, hbJ⟩)
 refine hK.out _ _ (kd12 N3.out hbJ hh) (fun hh => ?_)
 clear hK K
 try simp only [na1, na2, na3, Act.put, na4, na5, na6]
 have BJ := Lib.hid (bt BI.out hbJ)
 obtain ⟨za, zb, rfl, hz1, hz2⟩ := hvJ
 have e0 : W.drew.heap[w.heap.size + 1 + 1]? = _ := HB3.out
 have eA := blk_keep e0 hbA (blk_lt e0)
 have eB := blk_keep eA hbB (blk_lt eA)
 have eC := blk_keep eB hbC (blk_lt eB)
 have eD := blk_keep eC hbD (blk_lt eC)
 have eF := blk_keep eD hbF (blk_lt eD)
 have eG := blk_keep eF hbG (blk_lt eF)
 have eI := blk_keep eG hbI (blk_lt eG)
 have eJ := blk_keep eI hbJ (blk_lt eI)
 have E : Hid (wJ.heap[w.heap.size + 1 + 1]? = some (.cells (arr6 r30 r30) 43 (0, 0))) := eJ
 have HV1 := Lib.hid hz1
 have HV2 := Lib.hid hz2
 obtain ⟨g0, g1, g2, g3, g4, g5, f0, f1, f2, f3, f4, f5⟩ := fac6 (x := r30) (y := r30) E.out
 clear e0 eA eB eC eD eF eG eI eJ hz1 hz2
 refine rd1 (i := 15) rfl (fun K hK => ?_)
 go_simp
 refine hK.out _ _ (ks12 (Nat.le_refl _) N0.out N0.out N0.out N0.out N0.out N0.out N1.out N1.out N1.out N1.out N1.out N1.out (below6r (Below.refl _ _) (Nat.le_refl _)) hh) (fun hh => ?_)
 clear hK K
 try simp only [na1, na2, na3, Act.put, na4, na5, na6]
 refine wpAnyH_done (by kernel_rfl) ?_ _
 obtain ⟨h0, h1, h2, h3, h4, h5, _, _, _, _, _, _⟩ := fac6 (x := za) (y := zb) (set6r (x := za) (y := zb) E.out)
 go_wp2_with fail
 refine bodyPost_ret (v := rngV za zb) (by simp [results, Tryz.results101, go_sem, h0, h1, h2, h3, h4, h5]) rfl ⟨_, rfl, ⟨za, zb, rfl, IsRat.set6r HV1.out E.out, IsRat.set6r HV2.out E.out⟩, below6r BJ.out (by omega)⟩
end Go.Proofs.YtfjcccpibhhncaaGreat

namespace Go.Proofs.YtfjcccpibhhncaaGreat
open Go.RowKit

set_option maxRecDepth 100000 in
set_option maxHeartbeats 2000000 in
theorem part_ok (lo hi : Rat) (v : Value) (w : World) (h : IsRng w v lo hi) (h0 : 0 ≤ sgnI (decide (lo.num < 0)) lo.num.natAbs) (h1 : cmpR hi 1 ≤ 0) (s1 : szR hi 274877906944) : Calls Tryz.prog 74 #[v] w (RetBool true w) := by
 have HR := Lib.hid h
 obtain ⟨x, y, rfl, _, _⟩ := h
 have c0 : decide (sgnI (decide (lo.num < 0)) lo.num.natAbs ≥ 0) = true := decide_eq_true h0
 have c1 : decide (cmpR hi 1 ≤ 0) = true := decide_eq_true h1
 have S1 := Lib.hid s1
 have H0 := Lib.hid h0
 have H1 := Lib.hid h1
 clear s1 h0 h1
 have S2 : Hid (szR 1 274877906944) := one_szR _ (by omega)
 go_enter Tryz.func74, Tryz.ntmps74
 go_wp2_with fail
 have hal := below1 w (.cells (arr6 x y) 43)
 generalize hW0 : w.alloc (.cells (arr6 x y) 43) = W at *
 have hB : W.heap[w.heap.size]? = some (.cells (arr6 x y) 43 (0, 0)) := by rw [← hW0]; exact blk_new _ _ _
 have HAL := Lib.hid hal
 clear hW0 hal
 refine (rlo_any lo hi _ _ (HR.out.below HAL.out)).mono ?_
 rintro e wA ⟨vA, rfl, hvA, hbA⟩
 have BA := Lib.hid (bt HAL.out hbA)
 have eA := blk_keep hB hbA (blk_lt hB)
 obtain ⟨a1, c1', a2, c2', rfl, _, _⟩ := hvA.opened
 clear hB hvA hbA
 go_wp2_with fail
 refine (sign_any _ _ lo.num.natAbs _ _ _ _ _).mono ?_
 rintro e wB ⟨rfl, hbB⟩
 have BB := Lib.hid (bt BA.out hbB)
 have eB := blk_keep eA hbB (blk_lt eA)
 obtain ⟨x0, x1, x2, x3, x4, x5, _, _, _, _, _, _⟩ := fac6 (x := x) (y := y) eB
 clear eA hbB
 go_wp2_with fail
 refine (rhi_any lo hi _ _ (HR.out.below BB.out)).mono ?_
 rintro e wC ⟨vC, rfl, hvC, hbC⟩
 have BC := Lib.hid (bt BB.out hbC)
 clear x0 x1 x2 x3 x4 x5 eB
 go_wp2_with fail
 refine (one_any _).mono ?_
 rintro e wD ⟨vD, rfl, hvD, hbD⟩
 have BD := Lib.hid (bt BC.out hbD)
 go_wp2_with fail
 refine (cmpRat_any hi 1 _ _ _ (hvC.below hbD) hvD S1.out S2.out).mono ?_
 rintro e wE ⟨rfl, hbE⟩
 have BE := Lib.hid (bt BD.out hbE)
 clear hvC hvD hbC hbD hbE
 go_wp2_with fail
 go_ret
 exact ⟨by simp [c1], BE.out⟩
set_option maxRecDepth 100000 in
set_option maxHeartbeats 2000000 in
theorem Step_ok (a0 a1 p0 p1 : Rat) (k : Nat) (vc vr : Value) (w : World) (hc : IsRng w vc a0 a1) (hr : IsRng w vr p0 p1) (q0 q1 : Rat)
  (P1 : Hid (∀ W v, IsRng W v a0 a1 → Calls Tryz.prog 74 #[v] W (RetBool true W))) (P2 : Hid (∀ W v, IsRng W v p0 p1 → Calls Tryz.prog 74 #[v] W (RetBool true W)))
  (HS : Hid (∀ W v u, IsRng W v a0 a1 → IsRng W u p0 p1 → Calls Tryz.prog 101 #[v, u, .int .i64 k] W (RetRng q0 q1 W))) :
  Calls Tryz.prog 52 #[vc, vr, .int .i64 k] w (RetRngE q0 q1 0 w) := by
 have HX := Lib.hid hc
 have HY := Lib.hid hr
 obtain ⟨x, y, rfl, _, _⟩ := hc
 obtain ⟨x', y', rfl, _, _⟩ := hr
 go_enter Tryz.func52, Tryz.ntmps52
 go_wp2_with fail
 generalize hW0 : ((w.alloc (.cells (arr6 x y) 43)).alloc (.cells (arr6 x' y') 43)).alloc (.cells _ _) = W at *
 obtain ⟨hal, hB1, hB2, hB3, hWs⟩ := boxesS w _ _ _ _ _ _ W hW0.symm
 have HAL := Lib.hid hal
 clear hW0 hal hWs
 refine (P1.out _ _ (HX.out.below HAL.out)).mono ?_
 rintro e wA ⟨rfl, hb⟩
 have e1 := blk_keep hB1 hb (blk_lt hB1)
 have e2 := blk_keep hB2 hb (blk_lt hB2)
 have e3 := blk_keep hB3 hb (blk_lt hB3)
 have BA := Lib.hid (bt HAL.out hb)
 obtain ⟨y0, y1, y2, y3, y4, y5, _, _, _, _, _, _⟩ := fac6 (x := x') (y := y') e2
 clear hB1 hB2 hB3 hb
 go_wp2_with fail
 refine (P2.out _ _ (HY.out.below BA.out)).mono ?_
 rintro e wB ⟨rfl, hb⟩
 have f1 := blk_keep e1 hb (blk_lt e1)
 have f2 := blk_keep e2 hb (blk_lt e2)
 have f3 := blk_keep e3 hb (blk_lt e3)
 have BB := Lib.hid (bt BA.out hb)
 clear e1 e2 e3 hb y0 y1 y2 y3 y4 y5
 obtain ⟨x0, x1, x2, x3, x4, x5, _, _, _, _, _, _⟩ := fac6 (x := x) (y := y) f1
 obtain ⟨y0, y1, y2, y3, y4, y5, _, _, _, _, _, _⟩ := fac6 (x := x') (y := y') f2
 go_wp2_with fail
 refine (HS.out _ _ _ (HX.out.below BB.out) (HY.out.below BB.out)).mono ?_
 rintro e wC ⟨v, rfl, ⟨za, zb, rfl, hz1, hz2⟩, hb⟩
 have E : Hid (wC.heap[w.heap.size + 1 + 1]? = some (.cells (arr6 r30 r30) 43 (0, 0))) := blk_keep f3 hb (blk_lt f3)
 have BC := Lib.hid (bt BB.out hb)
 have HV1 := Lib.hid hz1
 have HV2 := Lib.hid hz2
 clear x0 x1 x2 x3 x4 x5 y0 y1 y2 y3 y4 y5 f1 f2 f3 hz1 hz2 hb
 obtain ⟨g0, g1, g2, g3, g4, g5, f0, f1, f2, f3, f4, f5⟩ := fac6 (x := r30) (y := r30) E.out
 go_wp2_with fail
 obtain ⟨h0, h1, h2, h3, h4, h5, _, _, _, _, _, _⟩ := fac6 (x := za) (y := zb) (set6r (x := za) (y := zb) E.out)
 refine bodyPost_ret (v := .tuple #[rngV za zb, .int .i64 0]) (by simp [results, Tryz.results52, go_sem, h0, h1, h2, h3, h4, h5]) rfl ⟨_, rfl, ⟨za, zb, rfl, IsRat.set6r HV1.out E.out, IsRat.set6r HV2.out E.out⟩, below6r BC.out (by omega)⟩
theorem txt_half : strB (txtQ (1 / 2)) = { data := #[49, 47, 50] } := by decide +kernel
set_option maxRecDepth 100000 in
set_option maxHeartbeats 2000000 in
theorem rtext_half (v : Value) (w : World) (h : IsRng w v (1 / 2) (1 / 2)) : Calls Tryz.prog 47 #[v] w (fun e w' => e = .returned (.string { data := #[91, 49, 47, 50, 44, 49, 47, 50, 93] }) ∧ Below w.heap.size w w') := by
 have HT : Hid (∀ W v, IsRat W v (1 / 2) → Calls Tryz.prog 87 #[v] W (fun e w' => e = .returned (.string { data := #[49, 47, 50] }) ∧ Below W.heap.size W w')) := fun W v h => by
  have := textRat_any (1 / 2) v W h ⟨by decide +kernel, by decide +kernel⟩
  unfold RetStr at this
  rw [txt_half] at this
  exact this
 obtain ⟨x, y, rfl, h1, h2⟩ := h
 have HX := Lib.hid h1
 have HY := Lib.hid h2
 clear h1 h2
 go_enter Tryz.func47, Tryz.ntmps47
 go_wp2_with fail
 have hal := below1 w (.cells (arr6 x y) 43)
 generalize hW0 : w.alloc (.cells (arr6 x y) 43) = W at *
 have hB : W.heap[w.heap.size]? = some (.cells (arr6 x y) 43 (0, 0)) := by rw [← hW0]; exact blk_new _ _ _
 obtain ⟨x0, x1, x2, y0, y1, y2, _, _, _, _, _, _⟩ := fac6 (x := x) (y := y) hB
 have HAD := Lib.hid hal.drew
 have N3 : Hid (w.heap.size ≤ W.heap.size) := hal.size
 clear hW0 hal hB
 refine wp_region_held_drew (S := (fun w' => Below (w.heap.size) W w' ∧ w'.cell? ⟨w.heap.size, 0, none⟩ = some (.bool x.b) ∧ w'.cell? ⟨w.heap.size, 1, none⟩ = some (.slice x.a x.n x.c) ∧ w'.cell? ⟨w.heap.size, 2, none⟩ = some (.slice x.d x.m x.e) ∧ w'.cell? ⟨w.heap.size, 3, none⟩ = some (.bool y.b) ∧ w'.cell? ⟨w.heap.size, 4, none⟩ = some (.slice y.a y.n y.c) ∧ w'.cell? ⟨w.heap.size, 5, none⟩ = some (.slice y.d y.m y.e))) (by kernel_rfl) ⟨(Below.refl _ _).drew, x0, x1, x2, y0, y1, y2⟩ (fun hh => ?_)
 clear x0 x1 x2 y0 y1 y2
 refine tk0 (i := 0) (v := ?vp0) rfl (Or.inl ⟨by rfl, ?hyp0⟩) (by assumption) ?rep0
 case hyp0 => intro w hSw; (try dsimp only at hSw); (go_simp <;> with_reducible rfl)
 try simp only [na1, na2, na3, Act.put, na4, na5, na6]
 refine tk0 (i := 1) (v := ?vp1) rfl (Or.inl ⟨by rfl, ?hyp1⟩) (by assumption) ?rep1
 case hyp1 => intro w hSw; (try dsimp only at hSw); (go_simp <;> with_reducible rfl)
 try simp only [na1, na2, na3, Act.put, na4, na5, na6]
 refine tk0 (i := 5) (v := ?vp5) rfl (Or.inl ⟨by rfl, ?hyp5⟩) (by assumption) ?rep5
 case hyp5 => intro w hSw; (try dsimp only at hSw); (go_simp <;> with_reducible rfl)
 try simp only [na1, na2, na3, Act.put, na4, na5, na6]
 refine tk0 (i := 6) (v := ?vp6) rfl (Or.inl ⟨by rfl, ?hyp6⟩) (by assumption) ?rep6
 case hyp6 => intro w hSw; (try dsimp only at hSw); (go_simp <;> with_reducible rfl)
 try simp only [na1, na2, na3, Act.put, na4, na5, na6]
 refine rd1 (i := 2) rfl (fun K hK => ?_)
 go_simp
 go_wp2_with (go_at_call 87; (with_reducible refine (HT.out _ _ (HX.out.below HAD.out)).mono ?_); rintro e wA ⟨rfl, hbA⟩)
 refine hK.out _ _ (kd6 N3.out hbA hh) (fun hh => ?_)
 clear hK K
 try simp only [na1, na2, na3, Act.put, na4, na5, na6]
 have BA := Lib.hid (bt HAD.out hbA)
 refine tk0 (i := 3) (v := ?vp3) rfl (Or.inl ⟨by rfl, ?hyp3⟩) (by assumption) ?rep3
 case hyp3 => intro w hSw; (try dsimp only at hSw); (go_simp <;> with_reducible rfl)
 try simp only [na1, na2, na3, Act.put, na4, na5, na6]
 refine tk0 (i := 4) (v := ?vp4) rfl (Or.inl ⟨by rfl, ?hyp4⟩) (by assumption) ?rep4
 case hyp4 => intro w hSw; (try dsimp only at hSw); (go_simp <;> with_reducible rfl)
 try simp only [na1, na2, na3, Act.put, na4, na5, na6]
 refine rd1 (i := 7) rfl (fun K hK => ?_)
 go_simp
 go_wp2_with (go_at_call 87; (with_reducible refine (HT.out _ _ (HY.out.below BA.out)).mono ?_); rintro e wB ⟨rfl, hbB⟩)
 refine hK.out _ _ (kd6 N3.out hbB hh) (fun hh => ?_)
 clear hK K
 try simp only [na1, na2, na3, Act.put, na4, na5, na6]
 have BB := Lib.hid (bt BA.out hbB)
 refine tk0 (i := 8) (v := ?vp8) rfl (Or.inl ⟨by rfl, ?hyp8⟩) (by assumption) ?rep8
 case hyp8 => intro w hSw; (try dsimp only at hSw); (go_simp <;> with_reducible rfl)
 try simp only [na1, na2, na3, Act.put, na4, na5, na6]
 refine tk0 (i := 9) (v := ?vp9) rfl (Or.inl ⟨by rfl, ?hyp9⟩) (by assumption) ?rep9
 case hyp9 => intro w hSw; (try dsimp only at hSw); (go_simp <;> with_reducible rfl)
 try simp only [na1, na2, na3, Act.put, na4, na5, na6]
 refine tk0 (i := 10) (v := ?vp10) rfl (Or.inl ⟨by rfl, ?hyp10⟩) (by assumption) ?rep10
 case hyp10 => intro w hSw; (try dsimp only at hSw); (go_simp <;> with_reducible rfl)
 try simp only [na1, na2, na3, Act.put, na4, na5, na6]
 refine wpAnyH_done (by kernel_rfl) ?_ _
 have hst : (({ data := #[91] } ++ { data := #[49, 47, 50] } ++ { data := #[44] } ++ { data := #[49, 47, 50] } ++ { data := #[93] } : ByteArray)) = { data := #[91, 49, 47, 50, 44, 49, 47, 50, 93] } := by decide +kernel
 go_wp2_with fail
 go_ret
 exact ⟨by rw [hst]; rfl, BB.out⟩
def ruA5 : Ru := ⟨1, 2, 1, 1, 0, 0, 0, 2, 0, 0, 0, 0, 0⟩
theorem play_A : playE ruA5 [1, 0, 2, 0, 3, 0, 0, 0] = (⟨5, 0, 0, 0, false, false, false, false⟩, 8, 0) := by kernel_rfl
theorem down_half : downQ (1 / 2) 4 = 1 / 2 := by decide +kernel
theorem up_half : upQ (1 / 2) 4 = 1 / 2 := by decide +kernel
theorem ints_new8 (w : World) (a b c d e f g h : Int) (t : TypeId) : IntsOf (w.alloc (.cells #[.int .i64 a, .int .i64 b, .int .i64 c, .int .i64 d, .int .i64 e, .int .i64 f, .int .i64 g, .int .i64 h] t)) (.slice (some ⟨w.heap.size, 0, none⟩) 8 8) [a, b, c, d, e, f, g, h] := by
 have hB := blk_new w #[.int .i64 a, .int .i64 b, .int .i64 c, .int .i64 d, .int .i64 e, .int .i64 f, .int .i64 g, .int .i64 h] t
 refine ⟨_, 8, rfl, fun _ => ⟨w.heap.size, 0, rfl, blk_lt hB, fun i hi => ?_⟩⟩
 match i, hi with
 | 0, _ => exact blk_cell hB 0 _ rfl
 | 1, _ => exact blk_cell hB 1 _ rfl
 | 2, _ => exact blk_cell hB 2 _ rfl
 | 3, _ => exact blk_cell hB 3 _ rfl
 | 4, _ => exact blk_cell hB 4 _ rfl
 | 5, _ => exact blk_cell hB 5 _ rfl
 | 6, _ => exact blk_cell hB 6 _ rfl
 | 7, _ => exact blk_cell hB 7 _ rfl
 | i + 8, hi => simp at hi; omega
set_option maxRecDepth 100000 in
set_option maxHeartbeats 2000000 in
theorem awake05_any (w : World) : Calls Tryz.prog 12 #[] w (RetBool true w) := by
 have HP : Hid (∀ W v, IsRng W v 0 0 → Calls Tryz.prog 74 #[v] W (RetBool true W)) := fun W v h => part_ok 0 0 v W h (by decide +kernel) (by decide +kernel) ⟨by decide +kernel, by decide +kernel⟩
 have HP2 : Hid (∀ W v, IsRng W v (1 / 2) (1 / 2) → Calls Tryz.prog 74 #[v] W (RetBool true W)) := fun W v h => part_ok _ _ v W h (by decide +kernel) (by decide +kernel) ⟨by decide +kernel, by decide +kernel⟩
 have HS : Hid (∀ W v u, IsRng W v 0 0 → IsRng W u (1 / 2) (1 / 2) → Calls Tryz.prog 101 #[v, u, .int .i64 (4 : Nat)] W (RetRng (1 / 2) (1 / 2) W)) := fun W v u h1 h2 => by
  have := step_any 0 0 (1 / 2) (1 / 2) 4 (by omega) 4 (by decide) v u W h1 h2 (1 / 2) (1 / 2) (by decide +kernel) (by decide +kernel) ⟨by decide +kernel, by decide +kernel⟩ ⟨by decide +kernel, by decide +kernel⟩ ⟨by decide +kernel, by decide +kernel⟩ ⟨by decide +kernel, by decide +kernel⟩ ⟨by decide +kernel, by decide +kernel⟩ ⟨by decide +kernel, by decide +kernel⟩ ⟨by decide +kernel, by decide +kernel⟩ ⟨by decide +kernel, by decide +kernel⟩ ⟨by decide +kernel, by decide +kernel⟩ ⟨by decide +kernel, by decide +kernel⟩ ⟨by decide +kernel, by decide +kernel⟩ (by decide +kernel)
  rw [down_half, up_half] at this
  exact this
 have HST : Hid (∀ W v u, IsRng W v 0 0 → IsRng W u (1 / 2) (1 / 2) → Calls Tryz.prog 52 #[v, u, .int .i64 4] W (RetRngE (1 / 2) (1 / 2) 0 W)) := fun W v u h1 h2 => Step_ok 0 0 (1 / 2) (1 / 2) 4 v u W h1 h2 _ _ HP HP2 HS
 have HPL : Hid (∀ W v, IntsOf W v [1, 0, 2, 0, 3, 0, 0, 0] → Calls Tryz.prog 53 #[ruV ruA5, v] W (RetPl (⟨5, 0, 0, 0, false, false, false, false⟩, 8, 0) W)) := fun W v h => by
  rw [← play_A]
  exact Play_any ruA5 _ v W h
 go_enter Tryz.func12, Tryz.ntmps12
 go_wp2_with fail
 refine (new_any 1 2 _ (by omega) (by omega) (by omega) (by omega) (by omega)).mono ?_
 rintro e w1 h1
 have h1' : ∃ v, e = .returned (.tuple #[v, .int .i64 0]) ∧ IsRat w1 v (1 / 2) ∧ Below w.heap.size w w1 := h1
 obtain ⟨v, rfl, hv, hb1⟩ := h1'
 obtain ⟨x, rfl⟩ := hv.open3
 have HV := Lib.hid (hv.below (below1 w1 (.cells x.arr 41)))
 have B1 := Lib.hid (ba (o := .cells x.arr 41) hb1)
 clear h1 hv hb1
 go_wp2_with fail
 refine (only_any (1 / 2) _ _ HV.out).mono ?_
 rintro e w2 ⟨v, rfl, hv, hb2⟩
 have B2 := Lib.hid (bt B1.out hb2)
 clear hb2
 go_wp2_with fail
 refine (HST.out _ _ _ ⟨r30, r30, rfl, IsRat.zero _, IsRat.zero _⟩ hv).mono ?_
 rintro e w3 ⟨v3, rfl, ⟨za, zb, rfl, hz1, hz2⟩, hb3⟩
 have B3 := Lib.hid (ba (o := .cells (arr6 za zb) 43) (bt B2.out hb3))
 have HZ : Hid (IsRng (w3.alloc (.cells (arr6 za zb) 43)) (rngV za zb) (1 / 2) (1 / 2)) := ⟨za, zb, rfl, hz1.below (below1 _ _), hz2.below (below1 _ _)⟩
 have E3 := Lib.hid (blk_new w3 (arr6 za zb) 43)
 clear hv hb3 hz1 hz2
 go_wp2_with fail
 have HI := ints_new8 ((w3.alloc (.cells (arr6 za zb) 43)).alloc (.cells (ruA ruA5) 147)) 1 0 2 0 3 0 0 0 3
 rw [World.size_alloc, World.size_alloc] at HI
 refine (HPL.out _ _ HI).mono ?_
 rintro e w4 ⟨rfl, hb4⟩
 have h5 : Below (w3.alloc (.cells (arr6 za zb) 43)).heap.size (w3.alloc (.cells (arr6 za zb) 43)) (w4.alloc (.cells (rnA ⟨5, 0, 0, 0, false, false, false, false⟩) 150)) := ba (bt (below2 _ _ _) hb4)
 have E5 := blk_keep E3.out h5 (blk_lt E3.out)
 have HZ5 := Lib.hid (HZ.out.below h5)
 have B5 := Lib.hid (bt B3.out h5)
 obtain ⟨x0, x1, x2, x3, x4, x5, _, _, _, _, _, _⟩ := fac6 (x := za) (y := zb) E5
 clear HI h5 E5 hb4
 go_wp2_with fail
 refine (rtext_half _ _ HZ5.out).mono ?_
 rintro e w6 ⟨rfl, hb6⟩
 have E6 := blk_keep (blk_new w4 (rnA ⟨5, 0, 0, 0, false, false, false, false⟩) 150) hb6 (by rw [World.size_alloc]; omega)
 have B6 := Lib.hid (bt B5.out hb6)
 obtain ⟨g0, _, _, _, _, _, _, _⟩ := rn8 E6
 clear x0 x1 x2 x3 x4 x5 hb6 E6
 go_wp2_with fail
 go_ret
 exact ⟨rfl, B6.out⟩
end Go.Proofs.YtfjcccpibhhncaaGreat

namespace Go.Proofs.YtfjcccpibhhncaaGreat
open Go.RowKit

def partB (lo hi : Rat) : Bool := decide (0 ≤ sgnI (decide (lo.num < 0)) lo.num.natAbs) && decide (cmpR hi 1 ≤ 0)
def inB (lo hi : Rat) : Bool := hasB 0 1 lo && hasB 0 1 hi
theorem sgn_ge (q : Rat) : decide (0 ≤ sgnI (decide (q.num < 0)) q.num.natAbs) = decide (0 ≤ q) := by
 have h := sgnI_neg q
 have e : (q.num < 0) ↔ q < 0 := by rw [Rat.lt_iff]; simp
 rw [decide_eq_decide] at h ⊢
 constructor
 ·
  intro h1
  have : ¬ q < 0 := fun h2 => by have := h.2 (e.2 h2); omega
  grind
 ·
  intro h1
  have : ¬ q.num < 0 := fun h2 => by have := e.1 h2; grind
  have h3 := fun h4 => this (h.1 h4)
  omega
theorem part_in {lo hi : Rat} (h : lo ≤ hi) : partB lo hi = inB lo hi := by
 unfold partB inB hasB
 rw [sgn_ge, Bool.eq_iff_iff]
 simp only [Bool.and_eq_true, decide_eq_true_eq]
 unfold cmpR
 constructor
 ·
  rintro ⟨h1, h2⟩
  refine ⟨⟨?_, ?_⟩, ?_, ?_⟩ <;> grind
 ·
  rintro ⟨⟨h1, h2⟩, h3, h4⟩
  refine ⟨?_, ?_⟩ <;> grind
set_option maxRecDepth 100000 in
set_option maxHeartbeats 2000000 in
theorem part_any (lo hi : Rat) (v : Value) (w : World) (h : IsRng w v lo hi) (s1 : szR hi 274877906944) : Calls Tryz.prog 74 #[v] w (RetBool (partB lo hi) w) := by
 have HR := Lib.hid h
 obtain ⟨x, y, rfl, _, _⟩ := h
 have S1 := Lib.hid s1
 have HF : Hid (partB lo hi = (decide (0 ≤ sgnI (decide (lo.num < 0)) lo.num.natAbs) && decide (cmpR hi 1 ≤ 0))) := rfl
 clear s1
 have S2 : Hid (szR 1 274877906944) := one_szR _ (by omega)
 go_enter Tryz.func74, Tryz.ntmps74
 go_wp2_with fail
 have hal := below1 w (.cells (arr6 x y) 43)
 generalize hW0 : w.alloc (.cells (arr6 x y) 43) = W at *
 have hB : W.heap[w.heap.size]? = some (.cells (arr6 x y) 43 (0, 0)) := by rw [← hW0]; exact blk_new _ _ _
 have HAL := Lib.hid hal
 clear hW0 hal
 refine (rlo_any lo hi _ _ (HR.out.below HAL.out)).mono ?_
 rintro e wA ⟨vA, rfl, hvA, hbA⟩
 have BA := Lib.hid (bt HAL.out hbA)
 have eA := blk_keep hB hbA (blk_lt hB)
 have HVA := Lib.hid hvA
 obtain ⟨zA, rfl⟩ := hvA.open3
 clear hB hvA hbA
 go_wp2_with fail
 refine (signR_any lo _ _ HVA.out).mono ?_
 rintro e wB ⟨rfl, hbB⟩
 have BB := Lib.hid (bt BA.out hbB)
 have eB := blk_keep eA hbB (blk_lt eA)
 obtain ⟨x0, x1, x2, x3, x4, x5, _, _, _, _, _, _⟩ := fac6 (x := x) (y := y) eB
 clear eA hbB eB HVA
 generalize sgnI (decide (lo.num < 0)) lo.num.natAbs = sg at *
 by_cases c0 : 0 ≤ sg
 ·
  have t0 : decide (sg ≥ 0) = true := decide_eq_true c0
  have HF2 : Hid (partB lo hi = decide (cmpR hi 1 ≤ 0)) := by show _ = _; rw [HF.out, decide_eq_true c0]; rfl
  clear c0 HF
  go_wp2_with fail
  refine (rhi_any lo hi _ _ (HR.out.below BB.out)).mono ?_
  rintro e wC ⟨vC, rfl, hvC, hbC⟩
  have BC := Lib.hid (bt BB.out hbC)
  have HVC := Lib.hid hvC
  clear x0 x1 x2 x3 x4 x5 hvC hbC
  go_wp2_with fail
  refine (one_any _).mono ?_
  rintro e wD ⟨vD, rfl, hvD, hbD⟩
  have BD := Lib.hid (bt BC.out hbD)
  replace HVC := Lib.hid (HVC.out.below hbD)
  have HVD := Lib.hid hvD
  clear hvD hbD
  go_wp2_with fail
  refine (cmpRat_any hi 1 _ _ _ HVC.out HVD.out S1.out S2.out).mono ?_
  rintro e wE ⟨rfl, hbE⟩
  have BE := Lib.hid (bt BD.out hbE)
  clear hbE
  go_wp2_with fail
  go_ret
  exact ⟨by rw [HF2.out]; simp, BE.out⟩
 ·
  have t0 : decide (sg ≥ 0) = false := decide_eq_false c0
  have HF2 : Hid (partB lo hi = false) := by show _ = _; rw [HF.out, decide_eq_false c0]; rfl
  clear c0 HF
  go_wp2_with fail
  go_ret
  exact ⟨by rw [HF2.out]; rfl, BB.out⟩
theorem szQ_one (k : Nat) (hk : 2 ≤ k) : szQ 1 k := szQ_mono (szQ_of (one_szR 1 (by omega))) (by omega)
theorem szQ_zero (k : Nat) (hk : 2 ≤ k) : szQ 0 k := szQ_mono (szQ_of (szR_zero 1 (by omega))) (by omega)
theorem qinB_any (a b : Rat) (v u : Value) (w : World) (h : IsRngQ w v a b) (k : IsRngQ w u 0 1) (s1 : szQ a 17179869184) (s2 : szQ b 17179869184) : Calls Tryz.prog 77 #[v, u] w (RetBool (inB a b) w) := qin_any a b 0 1 v u w h k s1 s2 (szQ_zero _ (by omega)) (szQ_one _ (by omega))
end Go.Proofs.YtfjcccpibhhncaaGreat

namespace Go.Proofs.YtfjcccpibhhncaaGreat
open Go.RowKit

abbrev Ent := Int × Rat × Rat
def Ent7 (R : World → Value → Rat → Prop) (w : World) (b o : Nat) (e : Ent) : Prop :=
 ∃ x y : R3, w.cell? ⟨b, o, none⟩ = some (.int .i64 e.1) ∧ w.cell? ⟨b, o + 1, none⟩ = some (.bool x.b) ∧ w.cell? ⟨b, o + 2, none⟩ = some (.slice x.a x.n x.c) ∧ w.cell? ⟨b, o + 3, none⟩ = some (.slice x.d x.m x.e) ∧ w.cell? ⟨b, o + 4, none⟩ = some (.bool y.b) ∧ w.cell? ⟨b, o + 5, none⟩ = some (.slice y.a y.n y.c) ∧ w.cell? ⟨b, o + 6, none⟩ = some (.slice y.d y.m y.e) ∧ R w x.val e.2.1 ∧ R w y.val e.2.2
def TabOf (R : World → Value → Rat → Prop) (w : World) (v : Value) (es : List Ent) : Prop :=
 ∃ ao cap, v = .slice ao es.length cap ∧ (0 < es.length → ∃ b off, ao = some ⟨b, off, none⟩ ∧ b < w.heap.size ∧ ∀ i, i < es.length → Ent7 R w b (off + i * 7) (es.getD i (0, 0, 0)))
theorem Ent7.below {R : World → Value → Rat → Prop} (hR : ∀ w w' v q, R w v q → Below w.heap.size w w' → R w' v q) {w w' : World} {b o : Nat} {e : Ent} (h : Ent7 R w b o e) (hb : Below w.heap.size w w') (hl : b < w.heap.size) : Ent7 R w' b o e := by
 obtain ⟨x, y, h0, h1, h2, h3, h4, h5, h6, h7, h8⟩ := h
 have c : ∀ j v, w.cell? ⟨b, j, none⟩ = some v → w'.cell? ⟨b, j, none⟩ = some v := fun j v h => (hb.cell (p := ⟨b, j, none⟩) hl).trans h
 exact ⟨x, y, c _ _ h0, c _ _ h1, c _ _ h2, c _ _ h3, c _ _ h4, c _ _ h5, c _ _ h6, hR _ _ _ _ h7 hb, hR _ _ _ _ h8 hb⟩
theorem TabOf.below {R : World → Value → Rat → Prop} (hR : ∀ w w' v q, R w v q → Below w.heap.size w w' → R w' v q) {w w' : World} {v : Value} {es : List Ent} (h : TabOf R w v es) (hb : Below w.heap.size w w') : TabOf R w' v es := by
 obtain ⟨ao, cap, rfl, h⟩ := h
 refine ⟨ao, cap, rfl, fun hl => ?_⟩
 obtain ⟨b, off, rfl, hlt, h⟩ := h hl
 exact ⟨b, off, rfl, Nat.lt_of_lt_of_le hlt hb.size, fun i hi => (h i hi).below hR hb hlt⟩
def EntRow (R : World → Value → Rat → Prop) (w : World) (xs : List Value) (es : List Ent) : Prop :=
 xs.length = es.length * 7 ∧ ∀ j, j < es.length → ∃ x y : R3, xs[j * 7]? = some (.int .i64 (es.getD j (0, 0, 0)).1) ∧ xs[j * 7 + 1]? = some (.bool x.b) ∧ xs[j * 7 + 2]? = some (.slice x.a x.n x.c) ∧ xs[j * 7 + 3]? = some (.slice x.d x.m x.e) ∧ xs[j * 7 + 4]? = some (.bool y.b) ∧ xs[j * 7 + 5]? = some (.slice y.a y.n y.c) ∧ xs[j * 7 + 6]? = some (.slice y.d y.m y.e) ∧ R w x.val (es.getD j (0, 0, 0)).2.1 ∧ R w y.val (es.getD j (0, 0, 0)).2.2
theorem EntRow.mono {R : World → Value → Rat → Prop} {w w' : World} {xs : List Value} {es : List Ent} (h : EntRow R w xs es) (hr : ∀ v q, R w v q → R w' v q) : EntRow R w' xs es :=
 ⟨h.1, fun j hj => by obtain ⟨x, y, h0, h1, h2, h3, h4, h5, h6, h7, h8⟩ := h.2 j hj; exact ⟨x, y, h0, h1, h2, h3, h4, h5, h6, hr _ _ h7, hr _ _ h8⟩⟩
theorem EntRow.nil (R : World → Value → Rat → Prop) (w : World) : EntRow R w [] [] := ⟨rfl, fun j hj => absurd hj (by simp)⟩
theorem EntRow.snoc {R : World → Value → Rat → Prop} {w : World} {xs : List Value} {es : List Ent} (h : EntRow R w xs es) {f : Int} {x y : R3} {lo hi : Rat} (h1 : R w x.val lo) (h2 : R w y.val hi) :
  EntRow R w (xs ++ [.int .i64 f, .bool x.b, .slice x.a x.n x.c, .slice x.d x.m x.e, .bool y.b, .slice y.a y.n y.c, .slice y.d y.m y.e]) (es ++ [(f, lo, hi)]) := by
 obtain ⟨hl, h⟩ := h
 refine ⟨by simp [hl]; omega, fun j hj => ?_⟩
 rcases Nat.lt_or_ge j es.length with hj1 | hj1
 ·
  obtain ⟨x', y', g0, g1, g2, g3, g4, g5, g6, g7, g8⟩ := h j hj1
  have e : ∀ k, k < 7 → (xs ++ [.int .i64 f, .bool x.b, .slice x.a x.n x.c, .slice x.d x.m x.e, .bool y.b, .slice y.a y.n y.c, .slice y.d y.m y.e])[j * 7 + k]? = xs[j * 7 + k]? := fun k hk => List.getElem?_append_left (by omega)
  have e2 : (es ++ [(f, lo, hi)]).getD j (0, 0, 0) = es.getD j (0, 0, 0) := by simp [List.getD, List.getElem?_append_left hj1]
  rw [e2]
  exact ⟨x', y', by rw [← g0]; exact e 0 (by omega), by rw [← g1]; exact e 1 (by omega), by rw [← g2]; exact e 2 (by omega), by rw [← g3]; exact e 3 (by omega), by rw [← g4]; exact e 4 (by omega), by rw [← g5]; exact e 5 (by omega), by rw [← g6]; exact e 6 (by omega), g7, g8⟩
 ·
  obtain rfl : j = es.length := by simp at hj; omega
  have e : ∀ k, (xs ++ [.int .i64 f, .bool x.b, .slice x.a x.n x.c, .slice x.d x.m x.e, .bool y.b, .slice y.a y.n y.c, .slice y.d y.m y.e])[es.length * 7 + k]? = ([.int .i64 f, .bool x.b, .slice x.a x.n x.c, .slice x.d x.m x.e, .bool y.b, .slice y.a y.n y.c, .slice y.d y.m y.e] : List Value)[k]? := fun k => by rw [List.getElem?_append_right (by omega), hl]; congr 1; omega
  have e2 : (es ++ [(f, lo, hi)]).getD es.length (0, 0, 0) = (f, lo, hi) := by simp [List.getD]
  rw [e2]
  exact ⟨x, y, e 0, e 1, e 2, e 3, e 4, e 5, e 6, h1, h2⟩
theorem TabOf.ofRow {R : World → Value → Rat → Prop} {w : World} {base : Nat} {e : TypeId} {v : Value} {xs : List Value} {es : List Ent} (h : LRow w base e 7 v es.length xs) (ht : EntRow R w xs es) : TabOf R w v es := by
 rcases Nat.eq_zero_or_pos es.length with h0 | hp
 ·
  rcases h.1.2 with ⟨rfl, _⟩ | ⟨g, cap, cur, rfl, _⟩
  ·
   exact ⟨none, 0, by rw [h0], fun h => absurd h (by omega)⟩
  ·
   exact ⟨_, _, rfl, fun h => absurd h (by omega)⟩
 ·
  obtain ⟨g, cap, rfl⟩ := ownsRow_some h.1 hp
  have hc : ∀ j u, xs[j]? = some u → w.cell? ((⟨g, 0, none⟩ : Addr).add j) = some u := h.1.cells (g := g) rfl
  have hlt : g < w.heap.size := (h.lt rfl).1
  refine ⟨_, _, rfl, fun _ => ⟨g, 0, rfl, hlt, fun i hi => ?_⟩⟩
  obtain ⟨x, y, h0, h1, h2, h3, h4, h5, h6, h7, h8⟩ := ht.2 i hi
  have ea : ∀ j, (⟨g, 0, none⟩ : Addr).add j = ⟨g, 0 + j, none⟩ := fun j => by unfold Addr.add; split <;> simp_all
  have ec : ∀ k u, xs[i * 7 + k]? = some u → w.cell? ⟨g, 0 + i * 7 + k, none⟩ = some u := fun k u h => by rw [show 0 + i * 7 + k = 0 + (i * 7 + k) by omega, ← ea]; exact hc _ _ h
  exact ⟨x, y, ec 0 _ h0, ec 1 _ h1, ec 2 _ h2, ec 3 _ h3, ec 4 _ h4, ec 5 _ h5, ec 6 _ h6, h7, h8⟩
structure TE (w0 w : World) (va vb : Value) (xsA xsB : List Value) (esA esB : List Ent) : Prop where
 x : Below w0.heap.size w0 w
 la : LRow w w0.heap.size 173 7 va esA.length xsA
 lb : LRow w w0.heap.size 175 7 vb esB.length xsB
 ta : EntRow IsRat w xsA esA
 tb : EntRow IsR w xsB esB
theorem TE.below {w0 w w' : World} {va vb : Value} {xsA xsB : List Value} {esA esB : List Ent} (h : TE w0 w va vb xsA xsB esA esB) (hb : Below w.heap.size w w') : TE w0 w' va vb xsA xsB esA esB :=
 ⟨ext_trans h.x hb, h.la.below hb, h.lb.below hb, h.ta.mono fun _ _ hr => hr.below hb, h.tb.mono fun _ _ hr => hr.below hb⟩
theorem TE.alloc {w0 w : World} {va vb : Value} {xsA xsB : List Value} {esA esB : List Ent} (h : TE w0 w va vb xsA xsB esA esB) (o : Obj) : TE w0 (w.alloc o) va vb xsA xsB esA esB := h.below ((Below.refl _ _).alloc (Nat.le_refl _) _)
theorem TE.appendA {w0 w w' : World} {va vb va' : Value} {xsA xsB : List Value} {esA esB : List Ent} (h : TE w0 w va vb xsA xsB esA esB) {f : Int} {x y : R3} {lo hi : Rat} (h1 : IsRat w x.val lo) (h2 : IsRat w y.val hi)
  (hL : LRow w' w0.heap.size 173 7 va' (esA.length + 1) (xsA ++ [.int .i64 f, .bool x.b, .slice x.a x.n x.c, .slice x.d x.m x.e, .bool y.b, .slice y.a y.n y.c, .slice y.d y.m y.e])) (hg : w.grownBy w' va.ownBlock) : TE w0 w' va' vb (xsA ++ [.int .i64 f, .bool x.b, .slice x.a x.n x.c, .slice x.d x.m x.e, .bool y.b, .slice y.a y.n y.c, .slice y.d y.m y.e]) xsB (esA ++ [(f, lo, hi)]) esB := by
 have hnd : ∀ g, va.ownBlock = some g → NoDig w g := h.la.2
 exact ⟨h.x.grown hg h.x.size (ownBlock_base3 h.la.1), by rw [List.length_append]; exact hL, h.lb.grown hg (LRow.apart3 h.la h.lb (by decide)), (h.ta.mono fun _ _ hr => hr.grown3 hg hnd).snoc (h1.grown3 hg hnd) (h2.grown3 hg hnd), h.tb.mono fun _ _ hr => hr.grown3 hg hnd⟩
theorem TE.appendB {w0 w w' : World} {va vb vb' : Value} {xsA xsB : List Value} {esA esB : List Ent} (h : TE w0 w va vb xsA xsB esA esB) {f : Int} {x y : R3} {lo hi : Rat} (h1 : IsR w x.val lo) (h2 : IsR w y.val hi)
  (hL : LRow w' w0.heap.size 175 7 vb' (esB.length + 1) (xsB ++ [.int .i64 f, .bool x.b, .slice x.a x.n x.c, .slice x.d x.m x.e, .bool y.b, .slice y.a y.n y.c, .slice y.d y.m y.e])) (hg : w.grownBy w' vb.ownBlock) : TE w0 w' va vb' xsA (xsB ++ [.int .i64 f, .bool x.b, .slice x.a x.n x.c, .slice x.d x.m x.e, .bool y.b, .slice y.a y.n y.c, .slice y.d y.m y.e]) esA (esB ++ [(f, lo, hi)]) := by
 have hnd : ∀ g, vb.ownBlock = some g → NoDig w g := h.lb.2
 exact ⟨h.x.grown hg h.x.size (ownBlock_base3 h.lb.1), h.la.grown hg (LRow.apart3 h.lb h.la (by decide)), by rw [List.length_append]; exact hL, h.ta.mono fun _ _ hr => hr.grown3 hg hnd, (h.tb.mono fun _ _ hr => hr.grown3 hg hnd).snoc (h1.grown3 hg hnd) (h2.grown3 hg hnd)⟩
abbrev RawE := Int × (Int × Int) × (Int × Int)
def RawAt (w : World) (b o : Nat) (r : RawE) : Prop :=
 w.cell? ⟨b, o, none⟩ = some (.int .i64 r.1) ∧ w.cell? ⟨b, o + 1, none⟩ = some (.int .i64 r.2.1.1) ∧ w.cell? ⟨b, o + 2, none⟩ = some (.int .i64 r.2.1.2) ∧ w.cell? ⟨b, o + 3, none⟩ = some (.int .i64 r.2.2.1) ∧ w.cell? ⟨b, o + 4, none⟩ = some (.int .i64 r.2.2.2)
def RawsOf (w : World) (v : Value) (rs : List RawE) : Prop :=
 ∃ ao cap, v = .slice ao rs.length cap ∧ (0 < rs.length → ∃ b off, ao = some ⟨b, off, none⟩ ∧ b < w.heap.size ∧ ∀ i, i < rs.length → RawAt w b (off + i * 5) (rs.getD i (0, (0, 0), (0, 0))))
theorem RawAt.below {w w' : World} {b o : Nat} {r : RawE} {n : Nat} (h : RawAt w b o r) (hb : Below n w w') (hl : b < n) : RawAt w' b o r := by
 obtain ⟨h0, h1, h2, h3, h4⟩ := h
 have c : ∀ j v, w.cell? ⟨b, j, none⟩ = some v → w'.cell? ⟨b, j, none⟩ = some v := fun j v h => (hb.cell (p := ⟨b, j, none⟩) hl).trans h
 exact ⟨c _ _ h0, c _ _ h1, c _ _ h2, c _ _ h3, c _ _ h4⟩
theorem RawsOf.below {w w' : World} {v : Value} {rs : List RawE} (h : RawsOf w v rs) (hb : Below w.heap.size w w') : RawsOf w' v rs := by
 obtain ⟨ao, cap, rfl, h⟩ := h
 refine ⟨ao, cap, rfl, fun hl => ?_⟩
 obtain ⟨b, off, rfl, hlt, h⟩ := h hl
 exact ⟨b, off, rfl, Nat.lt_of_lt_of_le hlt hb.size, fun i hi => (h i hi).below hb hlt⟩
def hiE (r : RawE) : Rat := hiQ (fracQ r.2.1.1 r.2.1.2) (fracQ r.2.2.1 r.2.2.2)
def boxW (f n0 d0 n1 d1 : Int) (B : Nat) (w : World) : Prop := w.heap[B]? = some (.cells #[.int .i64 f, .int .i64 n0, .int .i64 d0, .int .i64 n1, .int .i64 d1] 171 (0, 0))
theorem boxW.all {f n0 d0 n1 d1 : Int} {B : Nat} {w : World} (h : boxW f n0 d0 n1 d1 B w) : boxW f n0 d0 n1 d1 B w ∧ w.cell? ⟨B, 0, none⟩ = some (.int .i64 f) ∧ w.cell? ⟨B, 1, none⟩ = some (.int .i64 n0) ∧ w.cell? ⟨B, 2, none⟩ = some (.int .i64 d0) ∧ w.cell? ⟨B, 3, none⟩ = some (.int .i64 n1) ∧ w.cell? ⟨B, 4, none⟩ = some (.int .i64 d1) :=
 ⟨h, blk_cell h 0 _ rfl, blk_cell h 1 _ rfl, blk_cell h 2 _ rfl, blk_cell h 3 _ rfl, blk_cell h 4 _ rfl⟩
theorem boxW.below {f n0 d0 n1 d1 : Int} {B : Nat} {a b : World} (hb : Below a.heap.size a b) (h : boxW f n0 d0 n1 d1 B a ∧ a.cell? ⟨B, 0, none⟩ = some (.int .i64 f) ∧ a.cell? ⟨B, 1, none⟩ = some (.int .i64 n0) ∧ a.cell? ⟨B, 2, none⟩ = some (.int .i64 d0) ∧ a.cell? ⟨B, 3, none⟩ = some (.int .i64 n1) ∧ a.cell? ⟨B, 4, none⟩ = some (.int .i64 d1)) : boxW f n0 d0 n1 d1 B b ∧ b.cell? ⟨B, 0, none⟩ = some (.int .i64 f) ∧ b.cell? ⟨B, 1, none⟩ = some (.int .i64 n0) ∧ b.cell? ⟨B, 2, none⟩ = some (.int .i64 d0) ∧ b.cell? ⟨B, 3, none⟩ = some (.int .i64 n1) ∧ b.cell? ⟨B, 4, none⟩ = some (.int .i64 d1) :=
 boxW.all (blk_keep h.1 hb (blk_lt h.1))
theorem boxW.grown {f n0 d0 n1 d1 : Int} {B : Nat} {a b : World} {row : Option Nat} (hg : a.grownBy b row) (hne : some B ≠ row) (h : boxW f n0 d0 n1 d1 B a ∧ a.cell? ⟨B, 0, none⟩ = some (.int .i64 f) ∧ a.cell? ⟨B, 1, none⟩ = some (.int .i64 n0) ∧ a.cell? ⟨B, 2, none⟩ = some (.int .i64 d0) ∧ a.cell? ⟨B, 3, none⟩ = some (.int .i64 n1) ∧ a.cell? ⟨B, 4, none⟩ = some (.int .i64 d1)) : boxW f n0 d0 n1 d1 B b ∧ b.cell? ⟨B, 0, none⟩ = some (.int .i64 f) ∧ b.cell? ⟨B, 1, none⟩ = some (.int .i64 n0) ∧ b.cell? ⟨B, 2, none⟩ = some (.int .i64 d0) ∧ b.cell? ⟨B, 3, none⟩ = some (.int .i64 n1) ∧ b.cell? ⟨B, 4, none⟩ = some (.int .i64 d1) :=
 boxW.all ((hg.block B (blk_lt h.1) hne).trans h.1)
end Go.Proofs.YtfjcccpibhhncaaGreat

namespace Go.Proofs.YtfjcccpibhhncaaGreat
open Go.RowKit

theorem TabOf.bP {w w' : World} {v : Value} {es : List Ent} (h : TabOf IsRat w v es) (hb : Below w.heap.size w w') : TabOf IsRat w' v es := h.below (fun _ _ _ _ h hb => h.below hb) hb
theorem TabOf.bQ {w w' : World} {v : Value} {es : List Ent} (h : TabOf IsR w v es) (hb : Below w.heap.size w w') : TabOf IsR w' v es := h.below (fun _ _ _ _ h hb => h.below hb) hb
theorem FrcsOf.bP {w w' : World} {v : Value} {es : List Rat} (h : FrcsOf IsRat w v es) (hb : Below w.heap.size w w') : FrcsOf IsRat w' v es := h.below (fun _ _ _ _ h hb => h.below hb) hb
theorem FrcsOf.bQ {w w' : World} {v : Value} {es : List Rat} (h : FrcsOf IsR w v es) (hb : Below w.heap.size w w') : FrcsOf IsR w' v es := h.below (fun _ _ _ _ h hb => h.below hb) hb
end Go.Proofs.YtfjcccpibhhncaaGreat

namespace Go.Proofs.YtfjcccpibhhncaaGreat
open Go.RowKit

theorem cmp_le0 {x y : Rat} : cmpR x y ≤ 0 ↔ x ≤ y := by
 unfold cmpR
 split
 ·
  constructor
  ·
   intro _; grind
  ·
   intro _; omega
 ·
  split
  ·
   constructor
   ·
    intro h; omega
   ·
    intro h; grind
  ·
   constructor
   ·
    intro _; grind
   ·
    intro _; omega
theorem cmp_lt0 {x y : Rat} : cmpR x y < 0 ↔ x < y := by
 unfold cmpR
 split
 ·
  constructor
  ·
   intro _; assumption
  ·
   intro _; omega
 ·
  split
  ·
   constructor
   ·
    intro h; omega
   ·
    intro h; grind
  ·
   constructor
   ·
    intro h; omega
   ·
    intro h; grind
theorem partB_iff {lo hi : Rat} : partB lo hi = true ↔ 0 ≤ lo ∧ hi ≤ 1 := by
 unfold partB
 rw [Bool.and_eq_true, sgn_ge, decide_eq_true_iff, decide_eq_true_iff, cmp_le0]
theorem lo_hi (a b : Rat) : loQ a b ≤ hiQ a b := by
 unfold loQ hiQ
 have h1 := @cmp_le0 a b
 have h2 := @cmp_lt0 a b
 split <;> split <;> grind
end Go.Proofs.YtfjcccpibhhncaaGreat

namespace Go.Proofs.YtfjcccpibhhncaaGreat
open Go.RowKit

theorem floorQ_eq (y : Rat) : floorQ y = (y.floor : Rat) := by
 unfold floorQ mkQ
 rw [Rat.mkRat_one, Rat.floor_def]
 congr 1
 unfold flN sg
 have hd : 0 < y.den := y.den_pos
 by_cases h : y.num < 0
 ·
  obtain ⟨m, hm⟩ : ∃ m : Nat, y.num = -(m : Int) := ⟨y.num.natAbs, by omega⟩
  rw [decide_eq_true h, if_pos rfl, hm, Int.natAbs_neg, Int.natAbs_natCast, Int.neg_ediv]
  have hb : (-(m : Int) < 0) := by rw [← hm]; exact h
  by_cases hr : m % y.den = 0
  ·
   have hdv : ((y.den : Int)) ∣ (m : Int) := Int.natCast_dvd_natCast.2 (Nat.dvd_of_mod_eq_zero hr)
   rw [if_neg (fun h => h.2 hr), if_pos hdv]
   simp
  ·
   have hdv : ¬ ((y.den : Int)) ∣ (m : Int) := fun h => hr (Nat.mod_eq_zero_of_dvd (Int.natCast_dvd_natCast.1 h))
   rw [if_pos ⟨hb, hr⟩, if_neg hdv]
   have : (y.den : Int).sign = 1 := Int.sign_eq_one_of_pos (by omega)
   rw [this]
   push_cast
   omega
 ·
  obtain ⟨m, hm⟩ : ∃ m : Nat, y.num = (m : Int) := ⟨y.num.natAbs, by omega⟩
  rw [decide_eq_false h, hm, Int.natAbs_natCast, if_neg (by simp), if_neg (fun h => absurd h.1 (by omega))]
  simp
theorem pw2_nat (k : Nat) : pw2 k 0 = (((2 ^ k : Nat) : Int) : Rat) := by
 unfold pw2 mkQ sg
 rw [Nat.pow_zero, Rat.mkRat_one]
 rfl
theorem pw2_mulinv (k : Nat) : pw2 k 0 * pw2 0 k = 1 := by
 unfold pw2 mkQ sg
 rw [Nat.pow_zero]
 simp only [Bool.false_eq_true, if_false]
 rw [Rat.mkRat_eq_div, Rat.mkRat_eq_div]
 have h : (((2 ^ k : Nat) : Int) : Rat) ≠ 0 := by
  have := Nat.two_pow_pos k
  intro h0
  have : ((2 ^ k : Nat) : Int) = 0 := by exact_mod_cast h0
  omega
 generalize 2 ^ k = m at *
 rw [show (((1 : Nat) : Int) : Rat) = 1 from rfl, show (((m : Nat) : Int) : Rat) = (m : Rat) from rfl] at *
 generalize (m : Rat) = a at *
 have e : ((1 : Nat) : Rat) = 1 := rfl
 rw [e]
 grind
theorem pw2_pos1 (k : Nat) : 0 < pw2 k 0 := by
 rw [pw2_nat]
 have := Nat.two_pow_pos k
 have h : (0 : Int) < ((2 ^ k : Nat) : Int) := by omega
 exact_mod_cast h
theorem pw2_pos2 (k : Nat) : 0 < pw2 0 k := by
 have h1 := pw2_mulinv k
 have h2 := pw2_pos1 k
 rcases Decidable.em (0 < pw2 0 k) with h | h
 ·
  exact h
 ·
  exfalso
  have h3 : pw2 0 k ≤ 0 := by grind
  have := Rat.mul_le_mul_of_nonneg_left h3 (Rat.le_of_lt h2)
  grind
theorem down_le (x : Rat) (k : Nat) : downQ x k ≤ x := by
 rw [← floor_down, floorQ_eq]
 have h := Rat.mul_le_mul_of_nonneg_right (Rat.floor_le (x * pw2 k 0)) (Rat.le_of_lt (pw2_pos2 k))
 rw [Rat.mul_assoc, pw2_mulinv, Rat.mul_one] at h
 exact h
theorem down_int {x : Rat} {n : Int} (h : (n : Rat) ≤ x) (k : Nat) : (n : Rat) ≤ downQ x k := by
 rw [← floor_down, floorQ_eq]
 have h1 := Rat.mul_le_mul_of_nonneg_right h (Rat.le_of_lt (pw2_pos1 k))
 have h2 : (((n * ((2 ^ k : Nat) : Int) : Int)) : Rat) ≤ x * pw2 k 0 := by
  rw [Rat.intCast_mul, ← pw2_nat]; exact h1
 have h3 := Rat.intCast_le_intCast.2 (Rat.le_floor_iff.2 h2)
 rw [Rat.intCast_mul, ← pw2_nat] at h3
 have h4 := Rat.mul_le_mul_of_nonneg_right h3 (Rat.le_of_lt (pw2_pos2 k))
 rw [Rat.mul_assoc, pw2_mulinv, Rat.mul_one] at h4
 exact h4
theorem up_ge (x : Rat) (k : Nat) : x ≤ upQ x k := by
 unfold upQ
 have := down_le (-x) k
 grind
theorem up_int {x : Rat} {n : Int} (h : x ≤ (n : Rat)) (k : Nat) : upQ x k ≤ (n : Rat) := by
 unfold upQ
 have h1 : ((-n : Int) : Rat) ≤ -x := by rw [Rat.intCast_neg]; grind
 have := down_int h1 k
 rw [Rat.intCast_neg] at this
 grind
def firstUp (f : Nat → Bool) : Nat → Int
 | 0 => -1
 | n + 1 => if 0 ≤ firstUp f n then firstUp f n else if f n then n else -1
theorem firstUp_stay {f : Nat → Bool} {i n : Nat} (h : 0 ≤ firstUp f i) (hn : i ≤ n) : firstUp f n = firstUp f i := by
  induction n with
  | zero => obtain rfl : i = 0 := by omega
            rfl
  | succ n ih =>
    rcases Nat.lt_or_ge i (n + 1) with h1 | h1
    · have e := ih (by omega)
      show (if 0 ≤ firstUp f n then firstUp f n else _) = _
      rw [if_pos (by rw [e]; exact h), e]
    · obtain rfl : i = n + 1 := by omega
      rfl
theorem firstUp_at {f : Nat → Bool} {i n : Nat} (h : firstUp f i = -1) (hf : f i = true) (hi : i < n) : firstUp f n = i := by
 have e : firstUp f (i + 1) = i := by
  show (if 0 ≤ firstUp f i then _ else _) = _
  rw [h, if_neg (by omega), if_pos hf]
 rw [firstUp_stay (by rw [e]; omega) hi, e]
theorem firstUp_next {f : Nat → Bool} {i : Nat} (h : firstUp f i = -1) (hf : f i = false) : firstUp f (i + 1) = -1 := by
 show (if 0 ≤ firstUp f i then _ else _) = _
 rw [h, if_neg (by omega), hf]
 rfl
end Go.Proofs.YtfjcccpibhhncaaGreat

namespace Go.Proofs.YtfjcccpibhhncaaGreat
open Go.RowKit

def fillT (t : Array Value) (ds : List Nat) (f : Nat → Value) : Array Value := ds.foldl (fun t d => t.setIfInBounds d (f d)) t
def fillA (a : Act) (ds : List Nat) (f : Nat → Value) : Act := { a with tmps := fillT a.tmps ds f }
theorem fillT_get (f : Nat → Value) (j : Nat) : ∀ (ds : List Nat) (t : Array Value), (fillT t ds f)[j]? = if j ∈ ds ∧ j < t.size then some (f j) else t[j]?
 | [], t => by simp [fillT]
 | d :: ds, t => by
  have ih := fillT_get f j ds (t.setIfInBounds d (f d))
  show (fillT (t.setIfInBounds d (f d)) ds f)[j]? = _
  rw [ih, Array.size_setIfInBounds]
  by_cases h1 : j ∈ ds ∧ j < t.size
  ·
   rw [if_pos h1, if_pos ⟨List.mem_cons_of_mem _ h1.1, h1.2⟩]
  ·
   rw [if_neg h1, Array.getElem?_setIfInBounds]
   by_cases h2 : d = j
   ·
    subst h2
    rw [if_pos rfl]
    by_cases h3 : d < t.size
    ·
     rw [if_pos h3, if_pos ⟨List.mem_cons_self, h3⟩]
    ·
     rw [if_neg h3, if_neg (fun h => h3 h.2), Array.getElem?_eq_none (by omega)]
   ·
    rw [if_neg h2, if_neg (fun h => h1 ⟨by rcases List.mem_cons.1 h.1 with h | h; exact absurd h.symm h2; exact h, h.2⟩)]
theorem fillT_size (f : Nat → Value) : ∀ (ds : List Nat) (t : Array Value), (fillT t ds f).size = t.size
 | [], t => rfl
 | d :: ds, t => by
  show (fillT (t.setIfInBounds d (f d)) ds f).size = _
  rw [fillT_size, Array.size_setIfInBounds]
theorem fillA_put {a : Act} {ds : List Nat} {f : Nat → Value} {d : Nat} {v : Value} (hd : d ∈ ds) : (fillA a ds f).put (some d) v = fillA a ds (fun e => if e = d then v else f e) := by
 have e : (fillT a.tmps ds f).setIfInBounds d v = fillT a.tmps ds (fun e => if e = d then v else f e) := by
  apply Array.ext_getElem?
  intro j
  rw [Array.getElem?_setIfInBounds, fillT_get, fillT_get, fillT_size]
  by_cases h : d = j
  ·
   subst h
   rw [if_pos rfl]
   by_cases h3 : d < a.tmps.size
   ·
    rw [if_pos h3, if_pos ⟨hd, h3⟩]; simp
   ·
    rw [if_neg h3, if_neg (fun h => h3 h.2), Array.getElem?_eq_none (by omega)]
  ·
   rw [if_neg h]
   have h' : ¬ j = d := fun e => h e.symm
   simp [h']
 unfold fillA
 show ({ a with tmps := fillT a.tmps ds f } : Act).put (some d) v = _
 unfold Act.put
 simp [e]
theorem fillA_id (a : Act) (ds : List Nat) : fillA a ds (fun d => a.tmps.getD d undef) = a := by
 unfold fillA
 have e : fillT a.tmps ds (fun d => a.tmps.getD d undef) = a.tmps := by
  apply Array.ext_getElem?
  intro j
  rw [fillT_get]
  split
  ·
   rename_i h
   rw [Array.getElem?_eq_getElem h.2, Array.getD_eq_getD_getElem?, Array.getElem?_eq_getElem h.2]
   rfl
  ·
   rfl
 rw [e]
def AllM (p : Nat → Prop) : List Nat → Prop
 | [] => True
 | i :: l => p i ∧ AllM p l
theorem AllM.at {p : Nat → Prop} {i : Nat} : ∀ {l : List Nat}, AllM p l → i ∈ l → p i
 | j :: l, h, hi => by
  rcases List.mem_cons.1 hi with rfl | hi
  ·
   exact h.1
  ·
   exact h.2.at hi
def modOk (ops : Array Oper) (l0 lM : Array Bool) (M N E : List Nat) (dst : Nat → Nat) (preds : Nat → List Nat) (ds : List Nat) : Bool :=
 l0.size == ops.size && lM.size == ops.size &&
 (List.range ops.size).all (fun i => lM.getD i true == (l0.getD i true || M.contains i)) &&
 M.all (fun i => l0.getD i true == false && (match ops[i]? with
  | some o => o.dst == some (dst i) && ds.contains (dst i) && (preds i).all (fun j => M.contains j && o.after.any (fun e => Region.binds .any e && e.on == j)) &&
    o.after.all (fun e => !Region.binds .any e || l0.getD e.on false || (M.contains e.on && Nat.blt e.on i))
  | none => false)) &&
 (List.range ops.size).all (fun i => l0.getD i true || M.contains i || (match ops[i]? with
  | some o => M.all (fun j => o.after.any (fun e => Region.binds .any e && e.on == j) || M.any (fun l => Nat.blt j l && (match ops[l]? with
    | some o' => o'.after.any (fun e => Region.binds .any e && e.on == j)
    | none => false)) || (E.contains j && (match ops[j]? with
    | some oj => oj.after.all (fun e => !Region.binds .any e || l0.getD e.on false || o.after.any (fun e' => Region.binds .any e' && e'.on == e.on))
    | none => false)))
  | none => false)) &&
 M.all (fun i => M.all (fun j => i == j || dst i != dst j)) && M.all (fun i => N.contains i || E.contains i) && Region.noSelect ops &&
 E.all (fun i => M.contains i && (match ops[i]? with
  | some oi => (List.range ops.size).all (fun j => j == i || oi.after.any (fun e => Region.binds .any e && e.on == j) || (match ops[j]? with
   | some oj => oj.after.any (fun e => Region.binds .any e && e.on == i) || oi.apart ops oj
   | none => true))
  | none => false))
section
variable {P : Program} {ops : Array Oper} {Q : Exit → Act → World → Prop}
def StepM (P : Program) (ops : Array Oper) (Q : Exit → Act → World → Prop) (a0 : Act) (ds : List Nat) (W0 : World) (PV : Nat → Value → World → Prop) (dst : Nat → Nat) (preds : Nat → List Nat) (al : List Nat) (i : Nat) : Prop :=
 ∀ o, ops[i]? = some o → ∀ f w, Below W0.heap.size W0 w → (∀ j, j ∈ preds i → PV j (f (dst j)) w) →
  ∀ K' : Act → World → Prop, Shut (∀ a' w'' v, a' = (fillA a0 ds f).put o.dst v → PV i v w'' → (i ∈ al → v = .pointer (some ⟨w.heap.size, 0, none⟩)) → Below w.heap.size w w'' → K' a' w'') →
   if Region.wanted o (yielded ops (fillA a0 ds f).tmps) = true then Oper.wp P o (fillA a0 ds f) w K' Q else K' ((fillA a0 ds f).put o.dst undef) w
theorem StepM.of {a0 : Act} {ds : List Nat} {W0 : World} {PV : Nat → Value → World → Prop} {dst : Nat → Nat} {preds : Nat → List Nat} {al : List Nat} {i : Nat} {o : Oper} (ho : ops[i]? = some o)
  (h : ∀ f w, Below W0.heap.size W0 w → (∀ j, j ∈ preds i → PV j (f (dst j)) w) →
   ∀ K' : Act → World → Prop, Shut (∀ a' w'' v, a' = (fillA a0 ds f).put o.dst v → PV i v w'' → (i ∈ al → v = .pointer (some ⟨w.heap.size, 0, none⟩)) → Below w.heap.size w w'' → K' a' w'') →
   if Region.wanted o (yielded ops (fillA a0 ds f).tmps) = true then Oper.wp P o (fillA a0 ds f) w K' Q else K' ((fillA a0 ds f).put o.dst undef) w) : StepM P ops Q a0 ds W0 PV dst preds al i :=
 fun o' ho' => by rw [ho] at ho'; cases ho'; exact h
def EagerM (P : Program) (ops : Array Oper) (a0 : Act) (ds : List Nat) (W0 : World) (PV : Nat → Value → World → Prop) (dst : Nat → Nat) (preds : Nat → List Nat) (i : Nat) : Prop :=
 ∀ o, ops[i]? = some o → ∀ f w, Below W0.heap.size W0 w → (∀ j, j ∈ preds i → PV j (f (dst j)) w) →
  ∃ v, PV i v w ∧ Region.wanted o (yielded ops (fillA a0 ds f).tmps) = true ∧ ∀ u, (execOp (fillA a0 ds f).eval o).run P u = .ok (.value v) u
theorem EagerM.of {a0 : Act} {ds : List Nat} {W0 : World} {PV : Nat → Value → World → Prop} {dst : Nat → Nat} {preds : Nat → List Nat} {i : Nat} {o : Oper} (ho : ops[i]? = some o)
  (h : ∀ f w, Below W0.heap.size W0 w → (∀ j, j ∈ preds i → PV j (f (dst j)) w) →
   ∃ v, PV i v w ∧ Region.wanted o (yielded ops (fillA a0 ds f).tmps) = true ∧ ∀ u, (execOp (fillA a0 ds f).eval o).run P u = .ok (.value v) u) : EagerM P ops a0 ds W0 PV dst preds i :=
 fun o' ho' => by rw [ho] at ho'; cases ho'; exact h
theorem wpAnyH_mod {S : World → Prop} {a0 : Act} {ds : List Nat} {l0 lM : Array Bool} {M N E : List Nat} {F : Nat} {W0 : World} {PV : Nat → Value → World → Prop} {dst : Nat → Nat} {preds : Nat → List Nat} {al : List Nat}
  (hchk : modOk ops l0 lM M N E dst preds ds = true) (hQ : ∀ c a (d : Nat) v w, Q (.panic c) (Act.put a (some d) v) w → Q (.panic c) a w)
  (hst : ∀ i v w w', Below w.heap.size w w' → PV i v w → PV i v w')
  (hal : ∀ i v w, i ∈ al → PV i v w → ∃ B, v = .pointer (some ⟨B, 0, none⟩) ∧ B < w.heap.size)
  (hS : ∀ w, Below W0.heap.size W0 w → S w)
  (hstep : AllM (StepM P ops Q a0 ds W0 PV dst preds al) N) (heag : AllM (EagerM P ops a0 ds W0 PV dst preds) E) (hEal : ∀ i, i ∈ E → i ∉ al)
  (hend : ∀ f w, Below W0.heap.size W0 w → (∀ i, i ∈ M → PV i (f (dst i)) w) → (∀ i j, i ∈ M → j ∈ M → i ∈ al → j ∈ al → i ≠ j → f (dst i) ≠ f (dst j)) → wpAnyH P .any ops Q S F lM (fillA a0 ds f) w) :
  ∀ (n : Nat) (U : List Nat) (listed : Array Bool) (f : Nat → Value) (w : World), U.length = n → listed.size = ops.size →
   (∀ i, i ∉ M → listed.getD i true = l0.getD i true) → (∀ i, i ∈ M → (listed.getD i true = false ↔ i ∈ U)) → (∀ i, i ∈ U → i ∈ M) → U.Nodup → Below W0.heap.size W0 w →
   (∀ i, i ∈ M → i ∉ U → PV i (f (dst i)) w) → (∀ i j, i ∈ M → j ∈ M → i ∉ U → j ∉ U → i ∈ al → j ∈ al → i ≠ j → f (dst i) ≠ f (dst j)) →
   (∀ i, i ∈ M → i ∉ U → ∀ o, ops[i]? = some o → ∀ e, e ∈ o.after → Region.binds .any e = true → e.on ∈ U → False) →
   wpAnyH P .any ops Q S (F + n) listed (fillA a0 ds f) w := by
 unfold modOk at hchk
 simp only [Bool.and_eq_true, beq_iff_eq, List.all_eq_true, List.mem_range] at hchk
 obtain ⟨⟨⟨⟨⟨⟨⟨⟨k1, k2⟩, k3⟩, k4⟩, k5⟩, k6⟩, k7⟩, k8⟩, k9⟩ := hchk
 intro n
 induction n with
 | zero =>
  intro U listed f w hU hsz hout hin hsub hnd hb hp hdist hdc
  obtain rfl : U = [] := List.eq_nil_of_length_eq_zero hU
  have e : listed = lM := by
   apply Array.ext (by omega)
   intro i h1 h2
   have hi : i < ops.size := by omega
   have g1 : listed.getD i true = listed[i] := by simp [Array.getD_eq_getD_getElem?, h1]
   have g2 : lM.getD i true = lM[i] := by simp [Array.getD_eq_getD_getElem?, h2]
   rw [← g1, ← g2, k3 i hi]
   by_cases hm : i ∈ M
   ·
    have := hin i hm
    have h3 : M.contains i = true := by simpa using hm
    rw [h3, Bool.or_true]
    cases h4 : listed.getD i true with
    | true => rfl
    | false => exact absurd (this.1 h4) (by simp)
   ·
    have h3 : M.contains i = false := by simpa using hm
    rw [h3, Bool.or_false, hout i hm]
  rw [e]
  exact hend f w hb (fun i hi => hp i hi (by simp)) (fun i j h1 h2 => hdist i j h1 h2 (by simp) (by simp))
 | succ n ih =>
  intro U listed f w hU hsz hout hin hsub hnd hb hp hdist hdc
  have hpre : ∀ i, i ∈ U → i ∈ Region.ready .any ops listed → ∀ o, ops[i]? = some o → ∀ j, j ∈ preds i → PV j (f (dst j)) w := by
   intro i hiU hi o ho j hj
   have hm := hsub i hiU
   have h4 := k4 i hm
   rw [ho] at h4
   simp only [Bool.and_eq_true, beq_iff_eq] at h4
   obtain ⟨_, ⟨⟨hdst, hds⟩, hpr⟩, _⟩ := h4
   rw [List.all_eq_true] at hpr
   have h6 := hpr j hj
   simp only [Bool.and_eq_true] at h6
   obtain ⟨hjM, hja⟩ := h6
   have hjM : j ∈ M := by simpa using hjM
   refine hp j hjM (fun hjU => ?_)
   obtain ⟨_, o', ho', hall⟩ := mem_ready.1 hi
   rw [ho] at ho'
   cases ho'
   rw [Array.any_eq_true'] at hja
   obtain ⟨e, he, hbe⟩ := hja
   simp only [Bool.and_eq_true, beq_iff_eq] at hbe
   have h7 := hall e he hbe.1
   rw [hbe.2] at h7
   have h8 := (hin j hjM).2 hjU
   rw [Array.getD_eq_getD_getElem?] at h7 h8
   cases hx : listed[j]? with
   | none => rw [hx] at h7; simp at h7
   | some b => rw [hx] at h7 h8; simp at h7 h8; rw [h7] at h8; cases h8
  -- behind an operation of U that was ready
  have hgo : ∀ i, i ∈ U → i ∈ Region.ready .any ops listed → ∀ o, ops[i]? = some o → ∀ w'' v, PV i v w'' → (i ∈ al → v = .pointer (some ⟨w.heap.size, 0, none⟩)) → Below w.heap.size w w'' →
    wpAnyH P .any ops Q S (F + n) (listed.setIfInBounds i true) (fillA a0 ds (fun e => if e = dst i then v else f e)) w'' := by
   intro i hiU hi o ho w'' v hv hfresh hb'
   have hm := hsub i hiU
   have hdd : ∀ j, j ∈ M → j ≠ i → dst j ≠ dst i := fun j hj hne h => by
    have := k6 j hj i hm
    simp only [Bool.or_eq_true, beq_iff_eq, bne_iff_ne] at this
    rcases this with h1 | h1
    ·
     exact hne h1
    ·
     exact h1 h
   refine ih (U.erase i) _ _ _ (by rw [List.length_erase_of_mem hiU]; omega) (by rw [Array.size_setIfInBounds]; exact hsz) (fun j hj => ?_) (fun j hj => ?_) (fun j hj => hsub j (List.mem_of_mem_erase hj)) (hnd.erase i) (hb.trans (hb'.mono hb.size)) (fun j hj hju => ?_) (fun j l hj hl hju hlu hja hla hjl => ?_) (fun j hj hju o' ho' e he hbe heU => ?_)
   ·
    have hne : i ≠ j := fun h => hj (h ▸ hm)
    rw [getD_set_ne true hne]
    exact hout j hj
   ·
    by_cases hij : i = j
    ·
     subst hij
     have hlt : i < listed.size := by rw [hsz]; exact (Array.getElem?_eq_some_iff.1 ho).1
     constructor
     ·
      intro h
      rw [Array.getD_eq_getD_getElem?, Array.getElem?_setIfInBounds] at h
      simp [hlt] at h
     ·
      intro h
      exact absurd h (List.Nodup.not_mem_erase hnd)
    ·
     rw [getD_set_ne true hij, hin j hj, List.Nodup.mem_erase_iff hnd]
     constructor
     ·
      intro h; exact ⟨fun e => hij e.symm, h⟩
     ·
      intro h; exact h.2
   ·
    by_cases hij : j = i
    ·
     subst hij
     simpa using hv
    ·
     have := hp j hj (fun h => hju ((List.Nodup.mem_erase_iff hnd).2 ⟨hij, h⟩))
     show PV j (if dst j = dst i then v else f (dst j)) w''
     rw [if_neg (hdd j hj hij)]
     exact hst j _ _ _ hb' this
   ·
    show (if dst j = dst i then v else f (dst j)) ≠ (if dst l = dst i then v else f (dst l))
    have hnew : ∀ k, k ∈ M → k ≠ i → k ∉ U.erase i → k ∈ al → i ∈ al → f (dst k) ≠ v := fun k hk hki hku hka hia => by
     have h1 := hp k hk (fun h => hku ((List.Nodup.mem_erase_iff hnd).2 ⟨hki, h⟩))
     obtain ⟨B, hB, hlt⟩ := hal k _ _ hka h1
     rw [hB, hfresh hia]
     intro h
     have h2 := congrArg (fun v => match v with | Value.pointer (some a) => a.block | _ => 0) h
     dsimp only at h2
     omega
    by_cases h1 : j = i
    ·
     subst h1
     rw [if_pos rfl, if_neg (hdd l hl (fun h => hjl h.symm))]
     exact fun h => hnew l hl (fun h => hjl h.symm) hlu hla hja h.symm
    ·
     rw [if_neg (hdd j hj h1)]
     by_cases h2 : l = i
     ·
      subst h2
      rw [if_pos rfl]
      exact hnew j hj h1 hju hja hla
     ·
      rw [if_neg (hdd l hl h2)]
      exact hdist j l hj hl (fun h => hju ((List.Nodup.mem_erase_iff hnd).2 ⟨h1, h⟩)) (fun h => hlu ((List.Nodup.mem_erase_iff hnd).2 ⟨h2, h⟩)) hja hla hjl
   ·
    have heU2 : e.on ∈ U := List.mem_of_mem_erase heU
    by_cases hij : j = i
    ·
     subst hij
     obtain ⟨_, o2, ho2, hall⟩ := mem_ready.1 hi
     rw [ho'] at ho2
     cases ho2
     have h7 := hall e he hbe
     have h8 := (hin e.on (hsub _ heU2)).2 heU2
     rw [Array.getD_eq_getD_getElem?] at h7 h8
     cases hx : listed[e.on]? with
     | none => rw [hx] at h7; simp at h7
     | some b => rw [hx] at h7 h8; simp at h7 h8; rw [h7] at h8; cases h8
    ·
     exact hdc j hj (fun h => hju ((List.Nodup.mem_erase_iff hnd).2 ⟨hij, h⟩)) o' ho' e he hbe heU2
  have hdstd : ∀ i, i ∈ M → ∀ o, ops[i]? = some o → o.dst = some (dst i) ∧ dst i ∈ ds := by
   intro i hm o ho
   have h4 := k4 i hm
   rw [ho] at h4
   simp only [Bool.and_eq_true, beq_iff_eq] at h4
   obtain ⟨_, ⟨⟨hdst, hds⟩, hpr⟩, _⟩ := h4
   exact ⟨hdst, by simpa using hds⟩
  by_cases hE : ∃ i, i ∈ E ∧ i ∈ U ∧ i ∈ Region.ready .any ops listed
  ·
   obtain ⟨i, hiE, hiU, hi⟩ := hE
   obtain ⟨_, o, ho, _⟩ := mem_ready.1 hi
   obtain ⟨hdst, hds⟩ := hdstd i (hsub i hiU) o ho
   obtain ⟨v, hv, hw, hrun⟩ := heag.at hiE o ho f w hb (hpre i hiU hi o ho)
   refine wpAnyH_first (v := v) ho (Region.noSelect_spec k8) (fun c a w h => hQ c a (dst i) v w (by rw [hdst] at h; exact h)) (F + n) listed _ w ?_ hi (.inl ⟨hw, fun u _ => hrun u⟩) (hS _ hb) ?_
   ·
    intro j oj hoj hne hun hno
    have h9 := (k9 i hiE).2
    rw [ho] at h9
    simp only [List.all_eq_true, List.mem_range] at h9
    have h10 := h9 j (Array.getElem?_eq_some_iff.1 hoj).1
    rw [hoj] at h10
    simp only [Bool.or_eq_true, beq_iff_eq, hne, false_or] at h10
    rcases h10 with h10 | h10 | h10
    ·
     exfalso
     rw [Array.any_eq_true'] at h10
     obtain ⟨e, he, hbe⟩ := h10
     simp only [Bool.and_eq_true, beq_iff_eq] at hbe
     obtain ⟨_, o2, ho2, hall⟩ := mem_ready.1 hi
     rw [ho] at ho2
     cases ho2
     have h11 := hall e he hbe.1
     rw [hbe.2] at h11
     rw [Array.getD_eq_getD_getElem?] at h11 hun
     cases hx : listed[j]? with
     | none => rw [hx] at h11; simp at h11
     | some b => rw [hx] at h11 hun; simp at h11 hun; rw [h11] at hun; cases hun
    ·
     exfalso
     rw [Array.any_eq_true'] at h10
     obtain ⟨e, he, hbe⟩ := h10
     simp only [Bool.and_eq_true, beq_iff_eq] at hbe
     exact hno e he hbe.1 hbe.2
    ·
     exact h10
   ·
    rw [hdst, fillA_put hds]
    exact hgo i hiU hi o ho w v hv (fun h => absurd h (hEal i hiE)) (Below.refl _ _)
  ·
   -- what is ready lies in U
   have hready : ∀ i, i ∈ Region.ready .any ops listed → i ∈ U := by
    intro i hi
    obtain ⟨g1, o, ho, hall⟩ := mem_ready.1 hi
    by_cases hm : i ∈ M
    ·
     exact (hin i hm).1 g1
    ·
     exfalso
     have hlt : i < ops.size := (Array.getElem?_eq_some_iff.1 ho).1
     have h5 := k5 i hlt
     rw [hout i hm] at g1
     have h3 : M.contains i = false := by simpa using hm
     rw [g1, h3, ho] at h5
     simp only [Bool.false_or, List.all_eq_true] at h5
     have hne : U ≠ [] := by intro h; rw [h] at hU; simp at hU
     have hu : U.max hne ∈ U := List.max_mem hne
     have hmax : ∀ j, j ∈ U → j ≤ U.max hne := fun j hj => List.le_max_of_mem hj
     generalize U.max hne = u at hu hmax
     have h6 := h5 u (hsub u hu)
     rw [Bool.or_eq_true, Bool.or_eq_true] at h6
     rcases h6 with (h6 | h6) | h6
     ·
      rw [Array.any_eq_true'] at h6
      obtain ⟨e, he, hbe⟩ := h6
      simp only [Bool.and_eq_true, beq_iff_eq] at hbe
      have h7 := hall e he hbe.1
      rw [hbe.2] at h7
      have h8 := (hin u (hsub u hu)).2 hu
      rw [Array.getD_eq_getD_getElem?] at h7 h8
      cases hx : listed[u]? with
      | none => rw [hx] at h7; simp at h7
      | some b => rw [hx] at h7 h8; simp at h7 h8; rw [h7] at h8; cases h8
     ·
      rw [List.any_eq_true] at h6
      obtain ⟨l, hl, h6⟩ := h6
      rw [Bool.and_eq_true] at h6
      obtain ⟨h6a, h6b⟩ := h6
      have hlt2 : u < l := by simpa using h6a
      have hlu : l ∉ U := fun h => by have := hmax l h; omega
      cases hol : ops[l]? with
      | none => rw [hol] at h6b; simp at h6b
      | some o' =>
       rw [hol] at h6b
       simp only [Array.any_eq_true'] at h6b
       obtain ⟨e, he, hbe⟩ := h6b
       simp only [Bool.and_eq_true, beq_iff_eq] at hbe
       exact hdc l hl hlu o' hol e he hbe.1 (hbe.2 ▸ hu)
     ·
      rw [Bool.and_eq_true] at h6
      obtain ⟨h6a, h6b⟩ := h6
      cases hou : ops[u]? with
      | none => rw [hou] at h6b; simp at h6b
      | some ou =>
       rw [hou] at h6b
       simp only [Array.all_eq_true_iff_forall_mem] at h6b
       refine hE ⟨u, by simpa using h6a, hu, mem_ready.2 ⟨(hin u (hsub u hu)).2 hu, ou, hou, fun e he hbe => ?_⟩⟩
       have h7 := h6b e he
       rw [hbe] at h7
       simp only [Bool.not_true, Bool.false_or, Bool.or_eq_true] at h7
       rcases h7 with h7 | h7
       ·
        by_cases hem : e.on ∈ M
        ·
         exfalso
         have h9 := (k4 e.on hem).1
         rw [Array.getD_eq_getD_getElem?] at h7 h9
         cases hx : l0[e.on]? with
         | none => rw [hx] at h7; simp at h7
         | some b => rw [hx] at h7 h9; simp at h7 h9; rw [h7] at h9; cases h9
        ·
         have h13 : l0.getD e.on true = true ∧ e.on < l0.size := by
          rw [Array.getD_eq_getD_getElem?] at h7 ⊢
          cases hx : l0[e.on]? with
          | none => rw [hx] at h7; simp at h7
          | some b => rw [hx] at h7; exact ⟨by simpa using h7, (Array.getElem?_eq_some_iff.1 hx).1⟩
         have h14 := hout e.on hem
         rw [h13.1] at h14
         rw [Array.getD_eq_getD_getElem?] at h14 ⊢
         have h15 : e.on < listed.size := by omega
         rw [Array.getElem?_eq_getElem h15] at h14 ⊢
         simpa using h14
       ·
        rw [Array.any_eq_true'] at h7
        obtain ⟨e', he', hbe'⟩ := h7
        simp only [Bool.and_eq_true, beq_iff_eq] at hbe'
        have h8 := hall e' he' hbe'.1
        rw [hbe'.2] at h8
        exact h8
   -- something is ready: the least of U
   have hmin : ∃ i, i ∈ U ∧ ∀ j, j ∈ U → i ≤ j := by
    have hne : U ≠ [] := by intro h; rw [h] at hU; simp at hU
    refine ⟨U.min hne, List.min_mem hne, fun j hj => List.min_le_of_mem hj⟩
   have hsome : Region.ready .any ops listed ≠ [] := by
    obtain ⟨i, hi, hle⟩ := hmin
    have hm := hsub i hi
    have h4 := k4 i hm
    cases ho : ops[i]? with
    | none => rw [ho] at h4; simp at h4
    | some o =>
     rw [ho] at h4
     simp only [Bool.and_eq_true, beq_iff_eq] at h4
     obtain ⟨_, ⟨⟨_, _⟩, _⟩, h7⟩ := h4
     have : i ∈ Region.ready .any ops listed := by
      rw [mem_ready]
      refine ⟨(hin i hm).2 hi, o, ho, fun e he hbe => ?_⟩
      rw [Array.all_eq_true_iff_forall_mem] at h7
      have h8 := h7 e he
      rw [hbe] at h8
      simp only [Bool.not_true, Bool.false_or, Bool.or_eq_true, Bool.and_eq_true] at h8
      have hgd : listed.getD e.on true = true → listed.getD e.on false = true ∨ ops.size ≤ e.on := fun h => by
       rw [Array.getD_eq_getD_getElem?] at h ⊢
       cases hx : listed[e.on]? with
       | none => right; have := Array.getElem?_eq_none_iff.1 hx; omega
       | some b => left; rw [hx] at h; simpa using h
      by_cases hem : e.on ∈ M
      ·
       have hlt : e.on < i := by
        rcases h8 with h8 | h8
        ·
         exfalso
         have h9 := k4 e.on hem
         have h10 := h9.1
         rw [Array.getD_eq_getD_getElem?] at h8 h10
         cases hx : l0[e.on]? with
         | none => rw [hx] at h8; simp at h8
         | some b => rw [hx] at h8 h10; simp at h8 h10; rw [h8] at h10; cases h10
        ·
         simpa using h8.2
       have hnu : e.on ∉ U := fun h => by have := hle _ h; omega
       have h11 : listed.getD e.on true = true := by
        cases h12 : listed.getD e.on true with
        | true => rfl
        | false => exact absurd ((hin e.on hem).1 h12) hnu
       rcases hgd h11 with h | h
       ·
        exact h
       ·
        exfalso
        have := k4 e.on hem
        rw [Array.getElem?_eq_none h] at this
        simp at this
      ·
       rcases h8 with h8 | h8
       ·
        have h13 : l0.getD e.on true = true := by
         rw [Array.getD_eq_getD_getElem?] at h8 ⊢
         cases hx : l0[e.on]? with
         | none => rfl
         | some b => rw [hx] at h8; simpa using h8
        have h14 := hout e.on hem
        rw [h13] at h14
        rcases hgd h14 with h | h
        ·
         exact h
        ·
         exfalso
         rw [Array.getD_eq_getD_getElem?, Array.getElem?_eq_none (by omega)] at h8
         simp at h8
       ·
        exact absurd (by simpa using h8.1) hem
     intro h
     rw [h] at this
     cases this
   refine ⟨fun h => absurd h hsome, fun i hi => ?_⟩
   have hiU := hready i hi
   have hm := hsub i hiU
   obtain ⟨_, o, ho, _⟩ := mem_ready.1 hi
   obtain ⟨hdst, hds⟩ := hdstd i hm o ho
   refine wpOp_step ho (fun K' hK => ?_)
   have hiN : i ∈ N := by
    have := k7 i hm
    rw [Bool.or_eq_true] at this
    rcases this with h | h
    ·
     simpa using h
    ·
     exact absurd ⟨i, by simpa using h, hiU, hi⟩ hE
   refine hstep.at hiN o ho f w hb (hpre i hiU hi o ho) K' ?_
   intro a' w'' v ha' hv hfresh hb'
   refine hK _ _ ⟨hS _ (hb.trans (hb'.mono hb.size)), ?_⟩
   rw [ha', hdst, fillA_put hds]
   exact hgo i hiU hi o ho w'' v hv hfresh hb'
end
section
variable {P : Program} {ops : Array Oper} {Q : Exit → Act → World → Prop}
def pickV : List (Nat × (Value → World → Prop)) → Nat → Value → World → Prop
 | [], _ => fun _ _ => True
 | (j, p) :: l, i => if i = j then p else pickV l i
def StV : List (Nat × (Value → World → Prop)) → Prop
 | [] => True
 | (_, p) :: l => (∀ v w w', Below w.heap.size w w' → p v w → p v w') ∧ StV l
theorem StV.st : ∀ {l : List (Nat × (Value → World → Prop))}, StV l → ∀ i v w w', Below w.heap.size w w' → pickV l i v w → pickV l i v w'
 | [], _, _, _, _, _, _, _ => trivial
 | (j, p) :: l, h, i, v, w, w', hb, hp => by
  unfold pickV at hp ⊢
  split
  ·
   rename_i he; rw [if_pos he] at hp; exact h.1 v w w' hb hp
  ·
   rename_i he; rw [if_neg he] at hp; exact h.2.st i v w w' hb hp
def lookN : List (Nat × Nat) → Nat → Nat
 | [], _ => 0
 | (j, d) :: l, i => if i = j then d else lookN l i
def lookL : List (Nat × List Nat) → Nat → List Nat
 | [], _ => []
 | (j, d) :: l, i => if i = j then d else lookL l i
theorem wpAnyH_modular {S : World → Prop} {a : Act} {w : World} {fuel : Nat} {l0 : Array Bool} (M N E ds : List Nat) (lM : Array Bool) (F : Nat) (dst : List (Nat × Nat)) (preds : List (Nat × List Nat)) (al : List Nat) (pv : List (Nat × (Value → World → Prop)))
  (hf : fuel = F + M.length) (hchk : modOk ops l0 lM M N E (lookN dst) (lookL preds) ds = true) (hnd : M.Nodup) (hsz : l0.size = ops.size) (hst : StV pv)
  (hal : AllM (fun i => ∀ v w, pickV pv i v w → ∃ B, v = .pointer (some ⟨B, 0, none⟩) ∧ B < w.heap.size) al)
  (hS : ∀ w', Below w.heap.size w w' → S w')
  (hstep : AllM (StepM P ops Q a ds w (pickV pv) (lookN dst) (lookL preds) al) N) (heag : AllM (EagerM P ops a ds w (pickV pv) (lookN dst) (lookL preds)) E) (hEal : ∀ i, i ∈ E → i ∉ al)
  (hend : ∀ f w', Below w.heap.size w w' → (∀ i, i ∈ M → pickV pv i (f (lookN dst i)) w') → (∀ i j, i ∈ M → j ∈ M → i ∈ al → j ∈ al → i ≠ j → f (lookN dst i) ≠ f (lookN dst j)) → wpAnyH P .any ops Q S F lM (fillA a ds f) w') (hQ : ∀ c a (d : Nat) v w, Q (.panic c) (Act.put a (some d) v) w → Q (.panic c) a w := by exact fun _ _ _ _ _ h => h) :
  wpAnyH P .any ops Q S fuel l0 a w := by
 have k4 : ∀ i, i ∈ M → l0.getD i true = false := fun i hi => by
  have h := hchk
  unfold modOk at h
  simp only [Bool.and_eq_true, beq_iff_eq, List.all_eq_true] at h
  exact (h.1.1.1.1.1.2 i hi).1
 have h := wpAnyH_mod hchk hQ hst.st (fun i v w hi h => hal.at hi v w h) hS hstep heag hEal hend M.length M l0 (fun d => a.tmps.getD d undef) w rfl hsz (fun _ _ => rfl) (fun i hi => ⟨fun _ => hi, fun _ => k4 i hi⟩) (fun _ h => h) hnd (Below.refl _ _) (fun i hi hn => absurd hi hn) (fun i j hi _ hn => absurd hi hn) (fun i hi hn => absurd hi hn)
 rw [fillA_id] at h
 rw [hf]
 exact h
end
theorem Sx.addBox {w0 w : World} {bs : List Bx} {fs : List Fx} (h : Sx w0 w bs fs) {B T : Nat} {cs : Array Value} (hB : w.heap[B]? = some (.cells cs T (0, 0))) (h1 : w0.heap.size ≤ B) (hp : cs.toList.all plainV = true) (hn : ∀ b, b ∈ bs → b.1 ≠ B) : Sx w0 w ((B, cs, T) :: bs) fs := by
 refine ⟨h.bel, fun i b hi => ?_, ?_, h.fra⟩
 ·
  match i, hi with
  | 0, hi => simp at hi; subst hi; exact ⟨hB, h1, hp⟩
  | i + 1, hi => exact h.box i b (by simpa using hi)
 ·
  rw [List.map_cons, List.nodup_cons]
  refine ⟨fun hm => ?_, h.nod⟩
  obtain ⟨b, hb1, hb2⟩ := List.mem_map.1 hm
  exact hn b hb1 hb2
theorem Sx.lt {w0 w : World} {bs : List Bx} {fs : List Fx} (h : Sx w0 w bs fs) : ∀ b, b ∈ bs → b.1 < w.heap.size := fun b hb => by
 obtain ⟨i, hi⟩ := List.mem_iff_getElem?.1 hb
 exact blk_lt (h.box i b hi).1
end Go.Proofs.YtfjcccpibhhncaaGreat

namespace Go.Proofs.YtfjcccpibhhncaaGreat
open Go.RowKit

theorem hi2 (a b : Rat) : bestUp gtB (fun i => [a, b].getD i 0) 1 = hiQ a b := by
 unfold bestUp bestUp hiQ gtB cmpR
 simp only [List.getD, List.getElem?_cons_succ, List.getElem?_cons_zero, Option.getD_some]
 grind
theorem loN_sz {a b : Rat} {k : Nat} (h1 : szR a k) (h2 : szR b k) : szR (loQ a b) k := by unfold loQ; split <;> assumption
theorem hiN_sz {a b : Rat} {k : Nat} (h1 : szR a k) (h2 : szR b k) : szR (hiQ a b) k := by unfold hiQ; split <;> assumption
end Go.Proofs.YtfjcccpibhhncaaGreat
