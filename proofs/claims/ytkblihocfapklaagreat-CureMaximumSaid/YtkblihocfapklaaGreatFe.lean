/- Part e of the lemmas and walks. -/
import Derived.Test.YtkblihocfapklaaGreatFd
set_option maxRecDepth 100000
set_option maxHeartbeats 30000000
namespace Go.Proofs.YtkblihocfapklaaGreat
open Go.RowKit
def sH (es : List lD) (i : Nat) : Int :=
 bif decide (0 < i) && decide ((es.getD i (0, 0, 0)).1 ≤ (es.getD (i - 1) (0, 0, 0)).1) then 7 else bif !g_ (es.getD i (0, 0, 0)).2.1 (es.getD i (0, 0, 0)).2.2 then 1 else
 bif decide (0 < i) && (decide (dN (es.getD i (0, 0, 0)).2.1 (es.getD (i - 1) (0, 0, 0)).2.1 < 0) || decide (dN (es.getD i (0, 0, 0)).2.2 (es.getD (i - 1) (0, 0, 0)).2.2 < 0)) then 1 else 0
def jK (es : List lD) : Nat → Int
 | 0 => 0
 | i + 1 => if jK es i ≠ 0 then jK es i else sH es i
def iG (es : List lD) : Int := if es.length < 1 ∨ 16 < es.length then 4 else jK es es.length
theorem vW {es : List lD} {i : Nat} (h : jK es i = 0) (h1 : sH es i = 0) : jK es (i + 1) = 0 := by
 show (if _ then _ else _) = (0 : Int)
 rw [h, h1]
 rfl
theorem Bj {es : List lD} {i n : Nat} (h : jK es i ≠ 0) (hn : i ≤ n) : jK es n = jK es i := by
  induction n with
  | zero => obtain rfl : i = 0 := by omega
            rfl
  | succ n ih =>
    rcases Nat.lt_or_ge i (n + 1) with h1 | h1
    · have e := ih (by omega)
      show (if jK es n ≠ 0 then jK es n else _) = _
      rw [if_pos (by rw [e]; exact h), e]
    · obtain rfl : i = n + 1 := by omega
      rfl
theorem sJ {es : List lD} {i : Nat} {e : Int} (h : jK es i = 0) (h1 : sH es i = e) (h2 : e ≠ 0) (hi : i < es.length) (hl : ¬ (es.length < 1 ∨ 16 < es.length)) : iG es = e := by
 have e1 : jK es (i + 1) = e := by
  show (if jK es i ≠ 0 then _ else _) = e
  rw [if_neg (by rw [h]; simp), h1]
 unfold iG
 rw [if_neg hl, Bj (by rw [e1]; exact h2) hi, e1]
theorem ad4 {es : List lD} {i : Nat} (h : ¬ 0 < i) : sH es i = bif !g_ (es.getD i (0, 0, 0)).2.1 (es.getD i (0, 0, 0)).2.2 then 1 else 0 := by
 unfold sH
 rw [decide_eq_false h]
 simp
theorem Su {es : List lD} {i j : Nat} (h : i = j + 1) : sH es i = bif decide ((es.getD i (0, 0, 0)).1 ≤ (es.getD j (0, 0, 0)).1) then 7 else bif !g_ (es.getD i (0, 0, 0)).2.1 (es.getD i (0, 0, 0)).2.2 then 1 else
 bif (decide (dN (es.getD i (0, 0, 0)).2.1 (es.getD j (0, 0, 0)).2.1 < 0) || decide (dN (es.getD i (0, 0, 0)).2.2 (es.getD j (0, 0, 0)).2.2 < 0)) then 1 else 0 := by
 unfold sH
 rw [decide_eq_true (show 0 < i by omega), show i - 1 = j by omega]
 simp
theorem Ed (es : List lD) (vt : Value) (w : World) (ht : kN aA w vt es) (hl : es.length ≤ 1000) (hI : Pq es) (hZ : Jq es) :
  Calls Tryz.prog 39 #[vt] w (yN (iG es) w) := by
 have HS := ae (Sx.init w)
 have HI := ae hI
 have HZ := ae hZ
 obtain ⟨ao, cap, rfl, hE⟩ := ht
 have HE := ae hE
 clear hE hI hZ
 by_cases h1 : es.length < 1
 ·
  have HR : Hid (iG es = 4) := by show _ = _; unfold iG; rw [if_pos (.inl h1)]
  have t1 : decide ((es.length : Int) < 1) = true := decide_eq_true (by omega)
  go_enter Tryz.func39, Tryz.ntmps39
  go_wp2_with fail
  go_ret
  exact ⟨by rw [HR.out] <;> rfl, HS.out.bel⟩
 by_cases h2 : 16 < es.length
 ·
  have HR : Hid (iG es = 4) := by show _ = _; unfold iG; rw [if_pos (.inr h2)]
  have t1 : decide ((es.length : Int) < 1) = false := decide_eq_false (by omega)
  have t2 : decide ((es.length : Int) > 16) = true := decide_eq_true (by omega)
  clear h1 h2
  go_enter Tryz.func39, Tryz.ntmps39
  go_wp2_with fail
  go_ret
  exact ⟨by rw [HR.out] <;> rfl, HS.out.bel⟩
 ·
  have Ae : Hid (¬ (es.length < 1 ∨ 16 < es.length)) := by show ¬ _; omega
  have t1 : decide ((es.length : Int) < 1) = false := decide_eq_false (by omega)
  have t2 : decide ((es.length : Int) > 16) = false := decide_eq_false (by omega)
  clear h1 h2
  go_enter Tryz.func39, Tryz.ntmps39
  go_wp2_with fail
  go_loopw [15] (fun u15 wr => ∃ (i : Nat), i ≤ es.length ∧ u15 = .int .i64 i ∧ Hid (jK es i = 0) ∧ Hid (Sx w wr [] []))
   (fun u _ => es.length - (intOf u).toNat)
  case atStart => exact ⟨0, Nat.zero_le _, rfl, ae rfl, ae (HS.out.bare)⟩
  case round =>
   obtain ⟨Rf, ajA⟩ : ∃ z, z = wr := ⟨_, rfl⟩
   subst ajA
   clear HS
   obtain ⟨i, hi, rfl, VG, HS⟩ := hrel
   by_cases hlt : i < es.length
   ·
    have hlt' : (i : Int) < es.length := by omega
    have hge' : (0 : Int) ≤ i := by omega
    have gq := ae hlt
    obtain ⟨b, off, rfl, hbl, hEE⟩ := HE.out (by omega)
    have fU := ae hbl
    clear hbl
    obtain ⟨Ex, Ey, Eg0, Eg1, Eg2, Eg3, Eg4, Eg5, Eg6, Eh1, Eh2⟩ := hEE i hlt
    have E0 := ae Eg0
    have E1 := ae Eg1
    have E2 := ae Eg2
    have E3 := ae Eg3
    have E4 := ae Eg4
    have E5 := ae Eg5
    have E6 := ae Eg6
    clear Eg0 Eg1 Eg2 Eg3 Eg4 Eg5 Eg6
    replace HS := ae ((HS.out.az (Eh1.below HS.out.bel)).az (Eh2.below HS.out.bel))
    clear Eh1 Eh2
    have KU := ae (HZ.out i)
    by_cases hp : 0 < i
    ·
     obtain ⟨j, hj⟩ : ∃ j, i = j + 1 := ⟨i - 1, by omega⟩
     have hjl : j < es.length := by omega
     obtain ⟨Dx, Dy, Dg0, Dg1, Dg2, Dg3, Dg4, Dg5, Dg6, Dh1, Dh2⟩ := hEE j hjl
     have D0 := ae Dg0
     have D1 := ae Dg1
     have D2 := ae Dg2
     have D3 := ae Dg3
     have D4 := ae Dg4
     have D5 := ae Dg5
     have D6 := ae Dg6
     clear Dg0 Dg1 Dg2 Dg3 Dg4 Dg5 Dg6
     replace HS := ae ((HS.out.az (Dh1.below HS.out.bel)).az (Dh2.below HS.out.bel))
     clear Dh1 Dh2
     have HF := ae (Su (es := es) hj)
     have HSY := ae (HZ.out j)
     have hw : IntKind.i64.wrap ((i : Int) - 1) = (j : Int) := (IntWalk.i64_in _ (by omega)).trans (by omega)
     have hj1 : (0 : Int) ≤ j := by omega
     have hj2 : (j : Int) < es.length := by omega
     have tp1 : decide ((i : Int) > 0) = true := decide_eq_true (by omega)
     have tp2 : decide (0 < i) = true := decide_eq_true hp
     have hpI : (0 : Int) < i := by omega
     clear hjl hj
     clear hEE hlt
     generalize (es.getD i (0, 0, 0)).1 = f at *
     generalize (es.getD i (0, 0, 0)).2.1 = lo at *
     generalize (es.getD i (0, 0, 0)).2.2 = hi at *
     generalize (es.getD j (0, 0, 0)).1 = fp at *
     generalize (es.getD j (0, 0, 0)).2.1 = lop at *
     generalize (es.getD j (0, 0, 0)).2.2 = hip at *
     have Ec0 := (HS.out.bel.cell (p := ⟨b, off + i * 7, none⟩) fU.out).trans E0.out
     have Ec1 := (HS.out.bel.cell (p := ⟨b, off + i * 7 + 1, none⟩) fU.out).trans E1.out
     have Ec2 := (HS.out.bel.cell (p := ⟨b, off + i * 7 + 2, none⟩) fU.out).trans E2.out
     have Ec3 := (HS.out.bel.cell (p := ⟨b, off + i * 7 + 3, none⟩) fU.out).trans E3.out
     have Ec4 := (HS.out.bel.cell (p := ⟨b, off + i * 7 + 4, none⟩) fU.out).trans E4.out
     have Ec5 := (HS.out.bel.cell (p := ⟨b, off + i * 7 + 5, none⟩) fU.out).trans E5.out
     have Ec6 := (HS.out.bel.cell (p := ⟨b, off + i * 7 + 6, none⟩) fU.out).trans E6.out
     go_wp2_with fail
     clear Ec0 Ec1 Ec2 Ec3 Ec4 Ec5 Ec6
     generalize hW2 : (Rf).alloc (.cells _ _) = W2 at *
     replace HS : Hid (Sx w W2 [(Rf.heap.size, #[.int .i64 f, .bool Ex.b, .slice Ex.a Ex.n Ex.c, .slice Ex.d Ex.m Ex.e, .bool Ey.b, .slice Ey.a Ey.n Ey.c, .slice Ey.d Ey.m Ey.e], 74)] [(true, Dy.val, hip), (true, Dx.val, lop), (true, Ey.val, hi), (true, Ex.val, lo)]) := by subst hW2; exact (HS.out).alloc (B := Rf.heap.size) rfl (by rfl)
     clear hW2
     refine wp_region_held_drew (S := (fun w' => Sx w w' [(Rf.heap.size, #[.int .i64 f, .bool Ex.b, .slice Ex.a Ex.n Ex.c, .slice Ex.d Ex.m Ex.e, .bool Ey.b, .slice Ey.a Ey.n Ey.c, .slice Ey.d Ey.m Ey.e], 74)] [])) (by kernel_rfl) ((HS.out.drew).bare) (fun hh => ?_)
     replace HS := ae HS.out.drew
     refine bW (i := 0) (v := ?akQ) rfl (Or.inl ⟨by first | rfl | kernel_rfl, ?P5⟩) (by assumption) ?akm
     case P5 => (intro u aH; (go_simp <;> with_reducible rfl))
     try simp only [ag]
     refine bW (i := 1) (v := ?akR) rfl (Or.inl ⟨by first | rfl | kernel_rfl, ?P6⟩) (by assumption) ?akn
     case P6 => (intro u aH; (go_simp <;> with_reducible rfl))
     try simp only [ag]
     refine bW (i := 2) (v := ?akS) rfl (Or.inl ⟨by first | rfl | kernel_rfl, ?P7⟩) (by assumption) ?ako
     case P7 => (intro u aH; (go_simp <;> with_reducible rfl))
     try simp only [ag]
     refine bW (i := 3) (v := ?akD) rfl (Or.inl ⟨by first | rfl | kernel_rfl, ?Nb⟩) (by assumption) ?agM
     case Nb => (intro u aH; (go_simp <;> with_reducible rfl))
     try simp only [ag]
     refine bW (i := 4) (v := ?akE) rfl (Or.inl ⟨by first | rfl | kernel_rfl, ?Nc⟩) (by assumption) ?agN
     case Nc => (intro u aH; (try dsimp only at aH); have fH := (aH.at 0 _ _ _ rfl); have kH := af fH 0 (.int .i64 f) rfl; have kJ := af fH 1 (.bool Ex.b) rfl; have kK := af fH 2 (.slice Ex.a Ex.n Ex.c) rfl; have qN := af fH 3 (.slice Ex.d Ex.m Ex.e) rfl; have ru := af fH 4 (.bool Ey.b) rfl; have ry := af fH 5 (.slice Ey.a Ey.n Ey.c) rfl; have Tn := af fH 6 (.slice Ey.d Ey.m Ey.e) rfl; clear fH; clear aH; (go_simp <;> with_reducible rfl))
     try simp only [ag]
     refine bW (i := 5) (v := ?akF) rfl (Or.inl ⟨by first | rfl | kernel_rfl, ?Nh⟩) (by assumption) ?agO
     case Nh => (intro u aH; (go_simp <;> with_reducible rfl))
     try simp only [ag]
     refine bW (i := 6) (v := ?akG) rfl (Or.inl ⟨by first | rfl | kernel_rfl, ?Nj⟩) (by assumption) ?agP
     case Nj => (intro u aH; (go_simp <;> with_reducible rfl))
     try simp only [ag]
     refine bW (i := 7) (v := ?akH) rfl (Or.inl ⟨by first | rfl | kernel_rfl, ?Nk⟩) (by assumption) ?agQ
     case Nk => (intro u aH; (go_simp <;> with_reducible rfl))
     try simp only [ag]
     refine bW (i := 8) (v := ?akI) rfl (Or.inl ⟨by first | rfl | kernel_rfl, ?Nl⟩) (by assumption) ?agR
     case Nl => (intro u aH; (go_simp <;> with_reducible rfl))
     try simp only [ag]
     refine bW (i := 9) (v := ?akJ) rfl (Or.inl ⟨by first | rfl | kernel_rfl, ?Np⟩) (by assumption) ?agS
     case Np => (intro u aH; (go_simp <;> with_reducible rfl))
     try simp only [ag]
     refine bW (i := 10) (v := ?ahh) rfl (Or.inl ⟨by first | rfl | kernel_rfl, ?JZ⟩) (by assumption) ?afs
     case JZ => (intro u aH; (try dsimp only at aH); have Vy := (aH.bel.cell (p := ⟨b, off + j * 7, none⟩) fU.out).trans D0.out; have Vz := (aH.bel.cell (p := ⟨b, off + j * 7 + 1, none⟩) fU.out).trans D1.out; have VA := (aH.bel.cell (p := ⟨b, off + j * 7 + 2, none⟩) fU.out).trans D2.out; have VB := (aH.bel.cell (p := ⟨b, off + j * 7 + 3, none⟩) fU.out).trans D3.out; have VC := (aH.bel.cell (p := ⟨b, off + j * 7 + 4, none⟩) fU.out).trans D4.out; have VD := (aH.bel.cell (p := ⟨b, off + j * 7 + 5, none⟩) fU.out).trans D5.out; have VE := (aH.bel.cell (p := ⟨b, off + j * 7 + 6, none⟩) fU.out).trans D6.out; clear aH; (go_simp <;> with_reducible rfl))
     try simp only [ag]
     by_cases Vo : f ≤ fp
     ·
      have t27 : decide (f ≤ fp) = true := decide_eq_true Vo
      have T27 := ae Vo
      clear Vo
      refine bW (i := 11) (v := ?ahi) rfl (Or.inl ⟨by first | rfl | kernel_rfl, ?J3⟩) (by assumption) ?aft
      case J3 => (intro u aH; (go_simp <;> with_reducible rfl))
      try simp only [ag]
      refine bW (i := 12) (v := ?ahk) rfl (Or.inl ⟨by first | rfl | kernel_rfl, ?J5⟩) (by assumption) ?afv
      case J5 => (intro u aH; (go_simp <;> with_reducible rfl))
      try simp only [ag]
      refine wpAnyH_done (by kernel_rfl) ?_ _
      have bg := (HS.out.at 0 _ _ _ rfl)
      have iy := af bg 0 (.int .i64 f) rfl
      have iL := af bg 1 (.bool Ex.b) rfl
      have jD := af bg 2 (.slice Ex.a Ex.n Ex.c) rfl
      have pg := af bg 3 (.slice Ex.d Ex.m Ex.e) rfl
      have qo := af bg 4 (.bool Ey.b) rfl
      have qp := af bg 5 (.slice Ey.a Ey.n Ey.c) rfl
      have uf := af bg 6 (.slice Ey.d Ey.m Ey.e) rfl
      have jI := ah bg 0
      have jU := ah bg 1
      have kz := ah bg 2
      have qx := ah bg 3
      have qy := ah bg 4
      have qA := ah bg 5
      have ug := ah bg 6
      have rG := ai bg
      clear bg
      have Vy := (HS.out.bel.cell (p := ⟨b, off + j * 7, none⟩) fU.out).trans D0.out
      have Vz := (HS.out.bel.cell (p := ⟨b, off + j * 7 + 1, none⟩) fU.out).trans D1.out
      have VA := (HS.out.bel.cell (p := ⟨b, off + j * 7 + 2, none⟩) fU.out).trans D2.out
      have VB := (HS.out.bel.cell (p := ⟨b, off + j * 7 + 3, none⟩) fU.out).trans D3.out
      have VC := (HS.out.bel.cell (p := ⟨b, off + j * 7 + 4, none⟩) fU.out).trans D4.out
      have VD := (HS.out.bel.cell (p := ⟨b, off + j * 7 + 5, none⟩) fU.out).trans D5.out
      have VE := (HS.out.bel.cell (p := ⟨b, off + j * 7 + 6, none⟩) fU.out).trans D6.out
      go_wp2_with fail
      clear iy iL jD pg qo qp uf jI jU kz qx qy qA ug rG Vy Vz VA VB VC VD VE
      have HR : Hid (iG es = 7) := sJ VG.out (by first | (rw [HF.out]; simp only [t27, Bool.and_true, Bool.true_and, Bool.and_false, Bool.false_and, Bool.or_true, Bool.true_or, Bool.or_false, Bool.false_or, Bool.not_true, Bool.not_false, cond_true, cond_false]) | (rw [HF.out]; simp [t27])) (by omega) gq.out Ae.out
      go_ret
      exact ⟨by rw [HR.out] <;> rfl, HS.out.bel⟩
     ·
      have t27 : decide (f ≤ fp) = false := decide_eq_false Vo
      have T27 := ae Vo
      clear Vo
      refine bW (i := 11) (v := ?ahj) rfl (Or.inl ⟨by first | rfl | kernel_rfl, ?J4⟩) (by assumption) ?afu
      case J4 => (intro u aH; (go_simp <;> with_reducible rfl))
      try simp only [ag]
      refine bW (i := 12) (v := ?ahl) rfl (Or.inl ⟨by first | rfl | kernel_rfl, ?J6⟩) (by assumption) ?afw
      case J6 => (intro u aH; (go_simp <;> with_reducible rfl))
      try simp only [ag]
      refine wpAnyH_done (by kernel_rfl) ?_ _
      have bg := (HS.out.at 0 _ _ _ rfl)
      have iy := af bg 0 (.int .i64 f) rfl
      have iL := af bg 1 (.bool Ex.b) rfl
      have jD := af bg 2 (.slice Ex.a Ex.n Ex.c) rfl
      have pg := af bg 3 (.slice Ex.d Ex.m Ex.e) rfl
      have qo := af bg 4 (.bool Ey.b) rfl
      have qp := af bg 5 (.slice Ey.a Ey.n Ey.c) rfl
      have uf := af bg 6 (.slice Ey.d Ey.m Ey.e) rfl
      have jI := ah bg 0
      have jU := ah bg 1
      have kz := ah bg 2
      have qx := ah bg 3
      have qy := ah bg 4
      have qA := ah bg 5
      have ug := ah bg 6
      have rG := ai bg
      clear bg
      have Vy := (HS.out.bel.cell (p := ⟨b, off + j * 7, none⟩) fU.out).trans D0.out
      have Vz := (HS.out.bel.cell (p := ⟨b, off + j * 7 + 1, none⟩) fU.out).trans D1.out
      have VA := (HS.out.bel.cell (p := ⟨b, off + j * 7 + 2, none⟩) fU.out).trans D2.out
      have VB := (HS.out.bel.cell (p := ⟨b, off + j * 7 + 3, none⟩) fU.out).trans D3.out
      have VC := (HS.out.bel.cell (p := ⟨b, off + j * 7 + 4, none⟩) fU.out).trans D4.out
      have VD := (HS.out.bel.cell (p := ⟨b, off + j * 7 + 5, none⟩) fU.out).trans D5.out
      have VE := (HS.out.bel.cell (p := ⟨b, off + j * 7 + 6, none⟩) fU.out).trans D6.out
      go_wp2_with fail
      clear iy iL jD pg qo qp uf jI jU kz qx qy qA ug rG Vy Vz VA VB VC VD VE
      refine wp_region_held_drew (S := (fun w' => Sx w w' [(Rf.heap.size, #[.int .i64 f, .bool Ex.b, .slice Ex.a Ex.n Ex.c, .slice Ex.d Ex.m Ex.e, .bool Ey.b, .slice Ey.a Ey.n Ey.c, .slice Ey.d Ey.m Ey.e], 74)] [])) (by kernel_rfl) ((HS.out.drew).bare) (fun hh => ?_)
      replace HS := ae HS.out.drew
      refine bW (i := 0) (v := ?ag') rfl (Or.inl ⟨by first | rfl | kernel_rfl, ?JP⟩) (by assumption) ?afj
      case JP => (intro u aH; (go_simp <;> with_reducible rfl))
      try simp only [ag]
      refine bW (i := 1) (v := ?ag_) rfl (Or.inl ⟨by first | rfl | kernel_rfl, ?JQ⟩) (by assumption) ?afk
      case JQ => (intro u aH; (try dsimp only at aH); have fH := (aH.at 0 _ _ _ rfl); have kH := af fH 0 (.int .i64 f) rfl; have kJ := af fH 1 (.bool Ex.b) rfl; have kK := af fH 2 (.slice Ex.a Ex.n Ex.c) rfl; have qN := af fH 3 (.slice Ex.d Ex.m Ex.e) rfl; have ru := af fH 4 (.bool Ey.b) rfl; have ry := af fH 5 (.slice Ey.a Ey.n Ey.c) rfl; have Tn := af fH 6 (.slice Ey.d Ey.m Ey.e) rfl; clear fH; clear aH; (go_simp <;> with_reducible rfl))
      try simp only [ag]
      refine rdA (i := 2) rfl (fun K hK => ?_)
      go_simp
      cases t39 : g_ lo hi with
      | true =>
       have a41 := HS.out.p 3 _ _ rfl
       have a42 := HS.out.p 2 _ _ rfl
       go_wp2_with (go_at_call 28; (with_reducible refine (tu lo hi _ _ (gB a41 a42) (aj KU.out.2 (by omega))).mono ?_); rw [t39]; rintro e w40 ⟨rfl, aiK⟩)
       refine hK.out _ _ (Sx.below hh aiK) (fun hh => ?_)
       clear hK K
       try simp only [ag]
       replace HS := ae (HS.out.below aiK)
       clear aiK a41 a42
       refine bW (i := 3) (v := ?aha) rfl (Or.inl ⟨by first | rfl | kernel_rfl, ?JR⟩) (by assumption) ?afl
       case JR => (intro u aH; (go_simp <;> with_reducible rfl))
       try simp only [ag]
       refine bW (i := 4) (v := ?ahb) rfl (Or.inl ⟨by first | rfl | kernel_rfl, ?JS⟩) (by assumption) ?afm
       case JS => (intro u aH; (go_simp <;> with_reducible rfl))
       try simp only [ag]
       refine bW (i := 5) (v := ?ahc) rfl (Or.inl ⟨by first | rfl | kernel_rfl, ?JU⟩) (by assumption) ?afn
       case JU => (intro u aH; (go_simp <;> with_reducible rfl))
       try simp only [ag]
       refine bW (i := 6) (v := ?ahd) rfl (Or.inl ⟨by first | rfl | kernel_rfl, ?JV⟩) (by assumption) ?afo
       case JV => (intro u aH; (go_simp <;> with_reducible rfl))
       try simp only [ag]
       refine bW (i := 7) (v := ?ahe) rfl (Or.inl ⟨by first | rfl | kernel_rfl, ?JW⟩) (by assumption) ?afp
       case JW => (intro u aH; (go_simp <;> with_reducible rfl))
       try simp only [ag]
       refine bW (i := 8) (v := ?ahf) rfl (Or.inl ⟨by first | rfl | kernel_rfl, ?JX⟩) (by assumption) ?afq
       case JX => (intro u aH; (go_simp <;> with_reducible rfl))
       try simp only [ag]
       refine bW (i := 9) (v := ?ahg) rfl (Or.inl ⟨by first | rfl | kernel_rfl, ?JY⟩) (by assumption) ?afr
       case JY => (intro u aH; (try dsimp only at aH); have fH := (aH.at 0 _ _ _ rfl); have kH := af fH 0 (.int .i64 f) rfl; have kJ := af fH 1 (.bool Ex.b) rfl; have kK := af fH 2 (.slice Ex.a Ex.n Ex.c) rfl; have qN := af fH 3 (.slice Ex.d Ex.m Ex.e) rfl; have ru := af fH 4 (.bool Ey.b) rfl; have ry := af fH 5 (.slice Ey.a Ey.n Ey.c) rfl; have Tn := af fH 6 (.slice Ey.d Ey.m Ey.e) rfl; clear fH; clear aH; (go_simp <;> with_reducible rfl))
       try simp only [ag]
       refine bW (i := 11) (v := ?afJ) rfl (Or.inl ⟨by first | rfl | kernel_rfl, ?GK⟩) (by assumption) ?acE
       case GK => (intro u aH; (go_simp <;> with_reducible rfl))
       try simp only [ag]
       refine bW (i := 12) (v := ?afK) rfl (Or.inl ⟨by first | rfl | kernel_rfl, ?GL⟩) (by assumption) ?acF
       case GL => (intro u aH; (go_simp <;> with_reducible rfl))
       try simp only [ag]
       refine bW (i := 13) (v := ?afL) rfl (Or.inl ⟨by first | rfl | kernel_rfl, ?GM⟩) (by assumption) ?acG
       case GM => (intro u aH; (go_simp <;> with_reducible rfl))
       try simp only [ag]
       refine bW (i := 14) (v := ?afM) rfl (Or.inl ⟨by first | rfl | kernel_rfl, ?GN⟩) (by assumption) ?acH
       case GN => (intro u aH; (go_simp <;> with_reducible rfl))
       try simp only [ag]
       refine bW (i := 15) (v := ?afN) rfl (Or.inl ⟨by first | rfl | kernel_rfl, ?GR⟩) (by assumption) ?acI
       case GR => (intro u aH; (go_simp <;> with_reducible rfl))
       try simp only [ag]
       refine bW (i := 16) (v := ?afO) rfl (Or.inl ⟨by first | rfl | kernel_rfl, ?GU⟩) (by assumption) ?acJ
       case GU => (intro u aH; (try dsimp only at aH); have Vy := (aH.bel.cell (p := ⟨b, off + j * 7, none⟩) fU.out).trans D0.out; have Vz := (aH.bel.cell (p := ⟨b, off + j * 7 + 1, none⟩) fU.out).trans D1.out; have VA := (aH.bel.cell (p := ⟨b, off + j * 7 + 2, none⟩) fU.out).trans D2.out; have VB := (aH.bel.cell (p := ⟨b, off + j * 7 + 3, none⟩) fU.out).trans D3.out; have VC := (aH.bel.cell (p := ⟨b, off + j * 7 + 4, none⟩) fU.out).trans D4.out; have VD := (aH.bel.cell (p := ⟨b, off + j * 7 + 5, none⟩) fU.out).trans D5.out; have VE := (aH.bel.cell (p := ⟨b, off + j * 7 + 6, none⟩) fU.out).trans D6.out; clear aH; (go_simp <;> with_reducible rfl))
       try simp only [ag]
       refine rdA (i := 10) rfl (fun K hK => ?_)
       go_simp
       have a70 := HS.out.p 3 _ _ rfl
       have a71 := HS.out.p 2 _ _ rfl
       go_wp2_with (go_at_call 47; (with_reducible refine (ny lo hi _ _ (gB a70 a71)).mono ?_); rintro e w69 ⟨v69, rfl, PY, MN⟩; obtain ⟨z69, rfl⟩ := PY.bn)
       refine hK.out _ _ (Sx.below hh MN) (fun hh => ?_)
       clear hK K
       try simp only [ag]
       replace HS := ae (HS.out.below MN)
       clear MN a70 a71
       replace HS := ae (HS.out.az PY)
       clear PY
       refine rdA (i := 17) rfl (fun K hK => ?_)
       go_simp
       have a73 := HS.out.p 2 _ _ rfl
       have a74 := HS.out.p 1 _ _ rfl
       go_wp2_with (go_at_call 47; (with_reducible refine (ny lop hip _ _ (gB a73 a74)).mono ?_); rintro e w72 ⟨v72, rfl, ajz, aiM⟩; obtain ⟨z72, rfl⟩ := ajz.bn)
       refine hK.out _ _ (Sx.below hh aiM) (fun hh => ?_)
       clear hK K
       try simp only [ag]
       replace HS := ae (HS.out.below aiM)
       clear aiM a73 a74
       replace HS := ae (HS.out.az ajz)
       clear ajz
       refine rdA (i := 18) rfl (fun K hK => ?_)
       go_simp
       obtain ⟨c75, amf⟩ : ∃ c, c = dN lo lop := ⟨_, rfl⟩
       have OC := ae amf
       clear amf
       have a76 := HS.out.p 1 _ _ rfl
       have a77 := HS.out.p 0 _ _ rfl
       go_wp2_with (go_at_call 36; (with_reducible refine (iM lo lop _ _ _ a76 a77 (aj KU.out.1 (by omega)) (aj HSY.out.1 (by omega))).mono ?_); rw [← OC.out]; rintro e w75 ⟨rfl, aiN⟩)
       refine hK.out _ _ (Sx.below hh aiN) (fun hh => ?_)
       clear hK K
       try simp only [ag]
       replace HS := ae (HS.out.below aiN)
       clear aiN a76 a77
       by_cases Vq : c75 < 0
       ·
        have t79 : decide (c75 < 0) = true := decide_eq_true Vq
        have T79 := ae Vq
        clear Vq
        refine bW (i := 19) (v := ?afP) rfl (Or.inl ⟨by first | rfl | kernel_rfl, ?GV⟩) (by assumption) ?acK
        case GV => (intro u aH; (go_simp <;> with_reducible rfl))
        try simp only [ag]
        refine bW (i := 20) (v := ?afQ) rfl (Or.inl ⟨by first | rfl | kernel_rfl, ?GX⟩) (by assumption) ?acL
        case GX => (intro u aH; (go_simp <;> with_reducible rfl))
        try simp only [ag]
        refine bW (i := 21) (v := undef) rfl (Or.inr ⟨by first | rfl | kernel_rfl, rfl⟩) (by assumption) ?acM
        try simp only [ag]
        refine bW (i := 22) (v := undef) rfl (Or.inr ⟨by first | rfl | kernel_rfl, rfl⟩) (by assumption) ?acN
        try simp only [ag]
        refine bW (i := 23) (v := undef) rfl (Or.inr ⟨by first | rfl | kernel_rfl, rfl⟩) (by assumption) ?acO
        try simp only [ag]
        refine bW (i := 24) (v := undef) rfl (Or.inr ⟨by first | rfl | kernel_rfl, rfl⟩) (by assumption) ?acP
        try simp only [ag]
        refine bW (i := 25) (v := undef) rfl (Or.inr ⟨by first | rfl | kernel_rfl, rfl⟩) (by assumption) ?acQ
        try simp only [ag]
        refine bW (i := 26) (v := undef) rfl (Or.inr ⟨by first | rfl | kernel_rfl, rfl⟩) (by assumption) ?acR
        try simp only [ag]
        refine bW (i := 27) (v := undef) rfl (Or.inr ⟨by first | rfl | kernel_rfl, rfl⟩) (by assumption) ?acS
        try simp only [ag]
        refine bW (i := 28) (v := undef) rfl (Or.inr ⟨by first | rfl | kernel_rfl, rfl⟩) (by assumption) ?acT
        try simp only [ag]
        refine bW (i := 29) (v := undef) rfl (Or.inr ⟨by first | rfl | kernel_rfl, rfl⟩) (by assumption) ?acU
        try simp only [ag]
        refine bW (i := 30) (v := undef) rfl (Or.inr ⟨by first | rfl | kernel_rfl, rfl⟩) (by assumption) ?acV
        try simp only [ag]
        refine bW (i := 31) (v := undef) rfl (Or.inr ⟨by first | rfl | kernel_rfl, rfl⟩) (by assumption) ?acW
        try simp only [ag]
        refine bW (i := 32) (v := undef) rfl (Or.inr ⟨by first | rfl | kernel_rfl, rfl⟩) (by assumption) ?acX
        try simp only [ag]
        refine bW (i := 33) (v := ?afR) rfl (Or.inl ⟨by first | rfl | kernel_rfl, ?GY⟩) (by assumption) ?acY
        case GY => (intro u aH; (go_simp <;> with_reducible rfl))
        try simp only [ag]
        refine bW (i := 34) (v := ?afS) rfl (Or.inl ⟨by first | rfl | kernel_rfl, ?GZ⟩) (by assumption) ?acZ
        case GZ => (intro u aH; (go_simp <;> with_reducible rfl))
        try simp only [ag]
        refine bW (i := 35) (v := ?adA) rfl (Or.inl ⟨by first | rfl | kernel_rfl, ?FK⟩) (by assumption) ?ab2
        case FK => (intro u aH; (go_simp <;> with_reducible rfl))
        try simp only [ag]
        refine wpAnyH_done (by kernel_rfl) ?_ _
        have bg := (HS.out.at 0 _ _ _ rfl)
        have iy := af bg 0 (.int .i64 f) rfl
        have iL := af bg 1 (.bool Ex.b) rfl
        have jD := af bg 2 (.slice Ex.a Ex.n Ex.c) rfl
        have pg := af bg 3 (.slice Ex.d Ex.m Ex.e) rfl
        have qo := af bg 4 (.bool Ey.b) rfl
        have qp := af bg 5 (.slice Ey.a Ey.n Ey.c) rfl
        have uf := af bg 6 (.slice Ey.d Ey.m Ey.e) rfl
        have jI := ah bg 0
        have jU := ah bg 1
        have kz := ah bg 2
        have qx := ah bg 3
        have qy := ah bg 4
        have qA := ah bg 5
        have ug := ah bg 6
        have rG := ai bg
        clear bg
        have Vy := (HS.out.bel.cell (p := ⟨b, off + j * 7, none⟩) fU.out).trans D0.out
        have Vz := (HS.out.bel.cell (p := ⟨b, off + j * 7 + 1, none⟩) fU.out).trans D1.out
        have VA := (HS.out.bel.cell (p := ⟨b, off + j * 7 + 2, none⟩) fU.out).trans D2.out
        have VB := (HS.out.bel.cell (p := ⟨b, off + j * 7 + 3, none⟩) fU.out).trans D3.out
        have VC := (HS.out.bel.cell (p := ⟨b, off + j * 7 + 4, none⟩) fU.out).trans D4.out
        have VD := (HS.out.bel.cell (p := ⟨b, off + j * 7 + 5, none⟩) fU.out).trans D5.out
        have VE := (HS.out.bel.cell (p := ⟨b, off + j * 7 + 6, none⟩) fU.out).trans D6.out
        go_wp2_with fail
        clear iy iL jD pg qo qp uf jI jU kz qx qy qA ug rG Vy Vz VA VB VC VD VE
        have HR : Hid (iG es = 1) := sJ VG.out (by first | (rw [HF.out]; simp only [← OC.out, t27, t39, t79, Bool.and_true, Bool.true_and, Bool.and_false, Bool.false_and, Bool.or_true, Bool.true_or, Bool.or_false, Bool.false_or, Bool.not_true, Bool.not_false, cond_true, cond_false]) | (rw [HF.out]; simp [← OC.out, t27, t39, t79])) (by omega) gq.out Ae.out
        go_ret
        exact ⟨by rw [HR.out] <;> rfl, HS.out.bel⟩
       ·
        have t79 : decide (c75 < 0) = false := decide_eq_false Vq
        have T79 := ae Vq
        clear Vq
        refine bW (i := 19) (v := ?adk) rfl (Or.inl ⟨by first | rfl | kernel_rfl, ?Fa⟩) (by assumption) ?abu
        case Fa => (intro u aH; (go_simp <;> with_reducible rfl))
        try simp only [ag]
        refine bW (i := 20) (v := ?adl) rfl (Or.inl ⟨by first | rfl | kernel_rfl, ?Fb⟩) (by assumption) ?abw
        case Fb => (intro u aH; (go_simp <;> with_reducible rfl))
        try simp only [ag]
        refine bW (i := 21) (v := ?adm) rfl (Or.inl ⟨by first | rfl | kernel_rfl, ?Fe⟩) (by assumption) ?aby
        case Fe => (intro u aH; (go_simp <;> with_reducible rfl))
        try simp only [ag]
        refine bW (i := 22) (v := ?adn) rfl (Or.inl ⟨by first | rfl | kernel_rfl, ?Ff⟩) (by assumption) ?abA
        case Ff => (intro u aH; (try dsimp only at aH); have fH := (aH.at 0 _ _ _ rfl); have kH := af fH 0 (.int .i64 f) rfl; have kJ := af fH 1 (.bool Ex.b) rfl; have kK := af fH 2 (.slice Ex.a Ex.n Ex.c) rfl; have qN := af fH 3 (.slice Ex.d Ex.m Ex.e) rfl; have ru := af fH 4 (.bool Ey.b) rfl; have ry := af fH 5 (.slice Ey.a Ey.n Ey.c) rfl; have Tn := af fH 6 (.slice Ey.d Ey.m Ey.e) rfl; clear fH; clear aH; (go_simp <;> with_reducible rfl))
        try simp only [ag]
        refine bW (i := 24) (v := ?ado) rfl (Or.inl ⟨by first | rfl | kernel_rfl, ?Fg⟩) (by assumption) ?abD
        case Fg => (intro u aH; (go_simp <;> with_reducible rfl))
        try simp only [ag]
        refine bW (i := 25) (v := ?adp) rfl (Or.inl ⟨by first | rfl | kernel_rfl, ?Fh⟩) (by assumption) ?abG
        case Fh => (intro u aH; (go_simp <;> with_reducible rfl))
        try simp only [ag]
        refine bW (i := 26) (v := ?adq) rfl (Or.inl ⟨by first | rfl | kernel_rfl, ?Fj⟩) (by assumption) ?abI
        case Fj => (intro u aH; (go_simp <;> with_reducible rfl))
        try simp only [ag]
        refine bW (i := 27) (v := ?adr) rfl (Or.inl ⟨by first | rfl | kernel_rfl, ?Fp⟩) (by assumption) ?abK
        case Fp => (intro u aH; (go_simp <;> with_reducible rfl))
        try simp only [ag]
        refine bW (i := 28) (v := ?ads) rfl (Or.inl ⟨by first | rfl | kernel_rfl, ?Fq⟩) (by assumption) ?abM
        case Fq => (intro u aH; (go_simp <;> with_reducible rfl))
        try simp only [ag]
        refine bW (i := 29) (v := ?adt) rfl (Or.inl ⟨by first | rfl | kernel_rfl, ?Fv⟩) (by assumption) ?abO
        case Fv => (intro u aH; (try dsimp only at aH); have Vy := (aH.bel.cell (p := ⟨b, off + j * 7, none⟩) fU.out).trans D0.out; have Vz := (aH.bel.cell (p := ⟨b, off + j * 7 + 1, none⟩) fU.out).trans D1.out; have VA := (aH.bel.cell (p := ⟨b, off + j * 7 + 2, none⟩) fU.out).trans D2.out; have VB := (aH.bel.cell (p := ⟨b, off + j * 7 + 3, none⟩) fU.out).trans D3.out; have VC := (aH.bel.cell (p := ⟨b, off + j * 7 + 4, none⟩) fU.out).trans D4.out; have VD := (aH.bel.cell (p := ⟨b, off + j * 7 + 5, none⟩) fU.out).trans D5.out; have VE := (aH.bel.cell (p := ⟨b, off + j * 7 + 6, none⟩) fU.out).trans D6.out; clear aH; (go_simp <;> with_reducible rfl))
        try simp only [ag]
        refine rdA (i := 23) rfl (fun K hK => ?_)
        go_simp
        have aln := HS.out.p 5 _ _ rfl
        have alo := HS.out.p 4 _ _ rfl
        go_wp2_with (go_at_call 48; (with_reducible refine (oL lo hi _ _ (gB aln alo)).mono ?_); rintro e avl ⟨auL, rfl, ZP, Zg⟩; obtain ⟨avr, rfl⟩ := ZP.bn)
        refine hK.out _ _ (Sx.below hh Zg) (fun hh => ?_)
        clear hK K
        try simp only [ag]
        replace HS := ae (HS.out.below Zg)
        clear Zg aln alo
        replace HS := ae (HS.out.az ZP)
        clear ZP
        refine rdA (i := 30) rfl (fun K hK => ?_)
        go_simp
        have a124 := HS.out.p 4 _ _ rfl
        have alp := HS.out.p 3 _ _ rfl
        go_wp2_with (go_at_call 48; (with_reducible refine (oL lop hip _ _ (gB a124 alp)).mono ?_); rintro e avm ⟨auM, rfl, ZQ, Zh⟩; obtain ⟨avs, rfl⟩ := ZQ.bn)
        refine hK.out _ _ (Sx.below hh Zh) (fun hh => ?_)
        clear hK K
        try simp only [ag]
        replace HS := ae (HS.out.below Zh)
        clear Zh a124 alp
        replace HS := ae (HS.out.az ZQ)
        clear ZQ
        refine rdA (i := 31) rfl (fun K hK => ?_)
        go_simp
        obtain ⟨aih, aga⟩ : ∃ c, c = dN hi hip := ⟨_, rfl⟩
        have KR := ae aga
        clear aga
        have a127 := HS.out.p 1 _ _ rfl
        have alq := HS.out.p 0 _ _ rfl
        go_wp2_with (go_at_call 36; (with_reducible refine (iM hi hip _ _ _ a127 alq (aj KU.out.2 (by omega)) (aj HSY.out.2 (by omega))).mono ?_); rw [← KR.out]; rintro e avn ⟨rfl, Zi⟩)
        refine hK.out _ _ (Sx.below hh Zi) (fun hh => ?_)
        clear hK K
        try simp only [ag]
        replace HS := ae (HS.out.below Zi)
        clear Zi a127 alq
        by_cases IL : aih < 0
        ·
         have t130 : decide (aih < 0) = true := decide_eq_true IL
         have ao2 := ae IL
         clear IL
         refine bW (i := 32) (v := ?adu) rfl (Or.inl ⟨by first | rfl | kernel_rfl, ?Fz⟩) (by assumption) ?abS
         case Fz => (intro u aH; (go_simp <;> with_reducible rfl))
         try simp only [ag]
         refine bW (i := 33) (v := ?adw) rfl (Or.inl ⟨by first | rfl | kernel_rfl, ?FC⟩) (by assumption) ?abV
         case FC => (intro u aH; (go_simp <;> with_reducible rfl))
         try simp only [ag]
         refine bW (i := 34) (v := ?ady) rfl (Or.inl ⟨by first | rfl | kernel_rfl, ?FH⟩) (by assumption) ?abY
         case FH => (intro u aH; (go_simp <;> with_reducible rfl))
         try simp only [ag]
         refine bW (i := 35) (v := ?adB) rfl (Or.inl ⟨by first | rfl | kernel_rfl, ?FM⟩) (by assumption) ?ab3
         case FM => (intro u aH; (go_simp <;> with_reducible rfl))
         try simp only [ag]
         refine wpAnyH_done (by kernel_rfl) ?_ _
         have bg := (HS.out.at 0 _ _ _ rfl)
         have iy := af bg 0 (.int .i64 f) rfl
         have iL := af bg 1 (.bool Ex.b) rfl
         have jD := af bg 2 (.slice Ex.a Ex.n Ex.c) rfl
         have pg := af bg 3 (.slice Ex.d Ex.m Ex.e) rfl
         have qo := af bg 4 (.bool Ey.b) rfl
         have qp := af bg 5 (.slice Ey.a Ey.n Ey.c) rfl
         have uf := af bg 6 (.slice Ey.d Ey.m Ey.e) rfl
         have jI := ah bg 0
         have jU := ah bg 1
         have kz := ah bg 2
         have qx := ah bg 3
         have qy := ah bg 4
         have qA := ah bg 5
         have ug := ah bg 6
         have rG := ai bg
         clear bg
         have Vy := (HS.out.bel.cell (p := ⟨b, off + j * 7, none⟩) fU.out).trans D0.out
         have Vz := (HS.out.bel.cell (p := ⟨b, off + j * 7 + 1, none⟩) fU.out).trans D1.out
         have VA := (HS.out.bel.cell (p := ⟨b, off + j * 7 + 2, none⟩) fU.out).trans D2.out
         have VB := (HS.out.bel.cell (p := ⟨b, off + j * 7 + 3, none⟩) fU.out).trans D3.out
         have VC := (HS.out.bel.cell (p := ⟨b, off + j * 7 + 4, none⟩) fU.out).trans D4.out
         have VD := (HS.out.bel.cell (p := ⟨b, off + j * 7 + 5, none⟩) fU.out).trans D5.out
         have VE := (HS.out.bel.cell (p := ⟨b, off + j * 7 + 6, none⟩) fU.out).trans D6.out
         go_wp2_with fail
         clear iy iL jD pg qo qp uf jI jU kz qx qy qA ug rG Vy Vz VA VB VC VD VE
         have HR : Hid (iG es = 1) := sJ VG.out (by first | (rw [HF.out]; simp only [← OC.out, ← KR.out, t27, t39, t79, t130, Bool.and_true, Bool.true_and, Bool.and_false, Bool.false_and, Bool.or_true, Bool.true_or, Bool.or_false, Bool.false_or, Bool.not_true, Bool.not_false, cond_true, cond_false]) | (rw [HF.out]; simp [← OC.out, ← KR.out, t27, t39, t79, t130])) (by omega) gq.out Ae.out
         go_ret
         exact ⟨by rw [HR.out] <;> rfl, HS.out.bel⟩
        ·
         have t130 : decide (aih < 0) = false := decide_eq_false IL
         have ao2 := ae IL
         clear IL
         refine bW (i := 32) (v := ?adv) rfl (Or.inl ⟨by first | rfl | kernel_rfl, ?FB⟩) (by assumption) ?abT
         case FB => (intro u aH; (go_simp <;> with_reducible rfl))
         try simp only [ag]
         refine bW (i := 33) (v := ?adx) rfl (Or.inl ⟨by first | rfl | kernel_rfl, ?FD⟩) (by assumption) ?abW
         case FD => (intro u aH; (go_simp <;> with_reducible rfl))
         try simp only [ag]
         refine bW (i := 34) (v := ?adz) rfl (Or.inl ⟨by first | rfl | kernel_rfl, ?FI⟩) (by assumption) ?abZ
         case FI => (intro u aH; (go_simp <;> with_reducible rfl))
         try simp only [ag]
         refine bW (i := 35) (v := ?adC) rfl (Or.inl ⟨by first | rfl | kernel_rfl, ?FN⟩) (by assumption) ?ab4
         case FN => (intro u aH; (go_simp <;> with_reducible rfl))
         try simp only [ag]
         refine wpAnyH_done (by kernel_rfl) ?_ _
         have bg := (HS.out.at 0 _ _ _ rfl)
         have iy := af bg 0 (.int .i64 f) rfl
         have iL := af bg 1 (.bool Ex.b) rfl
         have jD := af bg 2 (.slice Ex.a Ex.n Ex.c) rfl
         have pg := af bg 3 (.slice Ex.d Ex.m Ex.e) rfl
         have qo := af bg 4 (.bool Ey.b) rfl
         have qp := af bg 5 (.slice Ey.a Ey.n Ey.c) rfl
         have uf := af bg 6 (.slice Ey.d Ey.m Ey.e) rfl
         have jI := ah bg 0
         have jU := ah bg 1
         have kz := ah bg 2
         have qx := ah bg 3
         have qy := ah bg 4
         have qA := ah bg 5
         have ug := ah bg 6
         have rG := ai bg
         clear bg
         have Vy := (HS.out.bel.cell (p := ⟨b, off + j * 7, none⟩) fU.out).trans D0.out
         have Vz := (HS.out.bel.cell (p := ⟨b, off + j * 7 + 1, none⟩) fU.out).trans D1.out
         have VA := (HS.out.bel.cell (p := ⟨b, off + j * 7 + 2, none⟩) fU.out).trans D2.out
         have VB := (HS.out.bel.cell (p := ⟨b, off + j * 7 + 3, none⟩) fU.out).trans D3.out
         have VC := (HS.out.bel.cell (p := ⟨b, off + j * 7 + 4, none⟩) fU.out).trans D4.out
         have VD := (HS.out.bel.cell (p := ⟨b, off + j * 7 + 5, none⟩) fU.out).trans D5.out
         have VE := (HS.out.bel.cell (p := ⟨b, off + j * 7 + 6, none⟩) fU.out).trans D6.out
         go_wp2_with fail
         clear iy iL jD pg qo qp uf jI jU kz qx qy qA ug rG Vy Vz VA VB VC VD VE
         exact ⟨⟨i + 1, by have := gq.out; omega, by go_num, ae (vW VG.out (by first | (rw [HF.out]; simp only [← OC.out, ← KR.out, t27, t39, t79, t130, Bool.and_true, Bool.true_and, Bool.and_false, Bool.false_and, Bool.or_true, Bool.true_or, Bool.or_false, Bool.false_or, Bool.not_true, Bool.not_false, cond_true, cond_false]) | (rw [HF.out]; simp [← OC.out, ← KR.out, t27, t39, t79, t130]))), ae ((HS.out).erase 0)⟩, bU gq.out⟩
      | false =>
       have a146 := HS.out.p 3 _ _ rfl
       have alr := HS.out.p 2 _ _ rfl
       go_wp2_with (go_at_call 28; (with_reducible refine (tu lo hi _ _ (gB a146 alr) (aj KU.out.2 (by omega))).mono ?_); rw [t39]; rintro e avo ⟨rfl, Zk⟩)
       refine hK.out _ _ (Sx.below hh Zk) (fun hh => ?_)
       clear hK K
       try simp only [ag]
       replace HS := ae (HS.out.below Zk)
       clear Zk a146 alr
       refine bW (i := 3) (v := ?afT) rfl (Or.inl ⟨by first | rfl | kernel_rfl, ?G7⟩) (by assumption) ?ac0
       case G7 => (intro u aH; (go_simp <;> with_reducible rfl))
       try simp only [ag]
       refine bW (i := 4) (v := ?afU) rfl (Or.inl ⟨by first | rfl | kernel_rfl, ?G8⟩) (by assumption) ?ac1
       case G8 => (intro u aH; (go_simp <;> with_reducible rfl))
       try simp only [ag]
       refine bW (i := 5) (v := undef) rfl (Or.inr ⟨by first | rfl | kernel_rfl, rfl⟩) (by assumption) ?ac2
       try simp only [ag]
       refine bW (i := 6) (v := undef) rfl (Or.inr ⟨by first | rfl | kernel_rfl, rfl⟩) (by assumption) ?ac3
       try simp only [ag]
       refine bW (i := 7) (v := undef) rfl (Or.inr ⟨by first | rfl | kernel_rfl, rfl⟩) (by assumption) ?ac4
       try simp only [ag]
       refine bW (i := 8) (v := undef) rfl (Or.inr ⟨by first | rfl | kernel_rfl, rfl⟩) (by assumption) ?ac5
       try simp only [ag]
       refine bW (i := 9) (v := undef) rfl (Or.inr ⟨by first | rfl | kernel_rfl, rfl⟩) (by assumption) ?ac6
       try simp only [ag]
       refine bW (i := 10) (v := undef) rfl (Or.inr ⟨by first | rfl | kernel_rfl, rfl⟩) (by assumption) ?abk
       try simp only [ag]
       refine bW (i := 11) (v := undef) rfl (Or.inr ⟨by first | rfl | kernel_rfl, rfl⟩) (by assumption) ?abl
       try simp only [ag]
       refine bW (i := 12) (v := undef) rfl (Or.inr ⟨by first | rfl | kernel_rfl, rfl⟩) (by assumption) ?abm
       try simp only [ag]
       refine bW (i := 13) (v := undef) rfl (Or.inr ⟨by first | rfl | kernel_rfl, rfl⟩) (by assumption) ?abn
       try simp only [ag]
       refine bW (i := 14) (v := undef) rfl (Or.inr ⟨by first | rfl | kernel_rfl, rfl⟩) (by assumption) ?abo
       try simp only [ag]
       refine bW (i := 15) (v := undef) rfl (Or.inr ⟨by first | rfl | kernel_rfl, rfl⟩) (by assumption) ?abp
       try simp only [ag]
       refine bW (i := 16) (v := undef) rfl (Or.inr ⟨by first | rfl | kernel_rfl, rfl⟩) (by assumption) ?abq
       try simp only [ag]
       refine bW (i := 17) (v := undef) rfl (Or.inr ⟨by first | rfl | kernel_rfl, rfl⟩) (by assumption) ?abr
       try simp only [ag]
       refine bW (i := 18) (v := undef) rfl (Or.inr ⟨by first | rfl | kernel_rfl, rfl⟩) (by assumption) ?abt
       try simp only [ag]
       refine bW (i := 19) (v := undef) rfl (Or.inr ⟨by first | rfl | kernel_rfl, rfl⟩) (by assumption) ?abv
       try simp only [ag]
       refine bW (i := 20) (v := undef) rfl (Or.inr ⟨by first | rfl | kernel_rfl, rfl⟩) (by assumption) ?abx
       try simp only [ag]
       refine bW (i := 21) (v := undef) rfl (Or.inr ⟨by first | rfl | kernel_rfl, rfl⟩) (by assumption) ?abz
       try simp only [ag]
       refine bW (i := 22) (v := undef) rfl (Or.inr ⟨by first | rfl | kernel_rfl, rfl⟩) (by assumption) ?abB
       try simp only [ag]
       refine bW (i := 23) (v := undef) rfl (Or.inr ⟨by first | rfl | kernel_rfl, rfl⟩) (by assumption) ?abC
       try simp only [ag]
       refine bW (i := 24) (v := undef) rfl (Or.inr ⟨by first | rfl | kernel_rfl, rfl⟩) (by assumption) ?abE
       try simp only [ag]
       refine bW (i := 25) (v := undef) rfl (Or.inr ⟨by first | rfl | kernel_rfl, rfl⟩) (by assumption) ?abH
       try simp only [ag]
       refine bW (i := 26) (v := undef) rfl (Or.inr ⟨by first | rfl | kernel_rfl, rfl⟩) (by assumption) ?abJ
       try simp only [ag]
       refine bW (i := 27) (v := undef) rfl (Or.inr ⟨by first | rfl | kernel_rfl, rfl⟩) (by assumption) ?abL
       try simp only [ag]
       refine bW (i := 28) (v := undef) rfl (Or.inr ⟨by first | rfl | kernel_rfl, rfl⟩) (by assumption) ?abN
       try simp only [ag]
       refine bW (i := 29) (v := undef) rfl (Or.inr ⟨by first | rfl | kernel_rfl, rfl⟩) (by assumption) ?abP
       try simp only [ag]
       refine bW (i := 30) (v := undef) rfl (Or.inr ⟨by first | rfl | kernel_rfl, rfl⟩) (by assumption) ?abQ
       try simp only [ag]
       refine bW (i := 31) (v := undef) rfl (Or.inr ⟨by first | rfl | kernel_rfl, rfl⟩) (by assumption) ?abR
       try simp only [ag]
       refine bW (i := 32) (v := undef) rfl (Or.inr ⟨by first | rfl | kernel_rfl, rfl⟩) (by assumption) ?abU
       try simp only [ag]
       refine bW (i := 33) (v := undef) rfl (Or.inr ⟨by first | rfl | kernel_rfl, rfl⟩) (by assumption) ?abX
       try simp only [ag]
       refine bW (i := 34) (v := undef) rfl (Or.inr ⟨by first | rfl | kernel_rfl, rfl⟩) (by assumption) ?ab1
       try simp only [ag]
       refine bW (i := 35) (v := ?adD) rfl (Or.inl ⟨by first | rfl | kernel_rfl, ?FO⟩) (by assumption) ?ab5
       case FO => (intro u aH; (go_simp <;> with_reducible rfl))
       try simp only [ag]
       refine wpAnyH_done (by kernel_rfl) ?_ _
       have bg := (HS.out.at 0 _ _ _ rfl)
       have iy := af bg 0 (.int .i64 f) rfl
       have iL := af bg 1 (.bool Ex.b) rfl
       have jD := af bg 2 (.slice Ex.a Ex.n Ex.c) rfl
       have pg := af bg 3 (.slice Ex.d Ex.m Ex.e) rfl
       have qo := af bg 4 (.bool Ey.b) rfl
       have qp := af bg 5 (.slice Ey.a Ey.n Ey.c) rfl
       have uf := af bg 6 (.slice Ey.d Ey.m Ey.e) rfl
       have jI := ah bg 0
       have jU := ah bg 1
       have kz := ah bg 2
       have qx := ah bg 3
       have qy := ah bg 4
       have qA := ah bg 5
       have ug := ah bg 6
       have rG := ai bg
       clear bg
       go_wp2_with fail
       clear iy iL jD pg qo qp uf jI jU kz qx qy qA ug rG
       have HR : Hid (iG es = 1) := sJ VG.out (by first | (rw [HF.out]; simp only [t27, t39, Bool.and_true, Bool.true_and, Bool.and_false, Bool.false_and, Bool.or_true, Bool.true_or, Bool.or_false, Bool.false_or, Bool.not_true, Bool.not_false, cond_true, cond_false]) | (rw [HF.out]; simp [t27, t39])) (by omega) gq.out Ae.out
       go_ret
       exact ⟨by rw [HR.out] <;> rfl, HS.out.bel⟩
    ·
     have HF := ae (ad4 (es := es) hp)
     have tp1 : decide ((i : Int) > 0) = false := decide_eq_false (by omega)
     have tp2 : decide (0 < i) = false := decide_eq_false hp
     have hpI : ¬ (0 : Int) < i := by omega
     clear hEE hlt hp
     generalize (es.getD i (0, 0, 0)).1 = f at *
     generalize (es.getD i (0, 0, 0)).2.1 = lo at *
     generalize (es.getD i (0, 0, 0)).2.2 = hi at *
     have Ec0 := (HS.out.bel.cell (p := ⟨b, off + i * 7, none⟩) fU.out).trans E0.out
     have Ec1 := (HS.out.bel.cell (p := ⟨b, off + i * 7 + 1, none⟩) fU.out).trans E1.out
     have Ec2 := (HS.out.bel.cell (p := ⟨b, off + i * 7 + 2, none⟩) fU.out).trans E2.out
     have Ec3 := (HS.out.bel.cell (p := ⟨b, off + i * 7 + 3, none⟩) fU.out).trans E3.out
     have Ec4 := (HS.out.bel.cell (p := ⟨b, off + i * 7 + 4, none⟩) fU.out).trans E4.out
     have Ec5 := (HS.out.bel.cell (p := ⟨b, off + i * 7 + 5, none⟩) fU.out).trans E5.out
     have Ec6 := (HS.out.bel.cell (p := ⟨b, off + i * 7 + 6, none⟩) fU.out).trans E6.out
     go_wp2_with fail
     clear Ec0 Ec1 Ec2 Ec3 Ec4 Ec5 Ec6
     generalize af8 : (Rf).alloc (.cells _ _) = ao5 at *
     replace HS : Hid (Sx w ao5 [(Rf.heap.size, #[.int .i64 f, .bool Ex.b, .slice Ex.a Ex.n Ex.c, .slice Ex.d Ex.m Ex.e, .bool Ey.b, .slice Ey.a Ey.n Ey.c, .slice Ey.d Ey.m Ey.e], 74)] [(true, Ey.val, hi), (true, Ex.val, lo)]) := by subst af8; exact (HS.out).alloc (B := Rf.heap.size) rfl (by rfl)
     clear af8
     refine wp_region_held_drew (S := (fun w' => Sx w w' [(Rf.heap.size, #[.int .i64 f, .bool Ex.b, .slice Ex.a Ex.n Ex.c, .slice Ex.d Ex.m Ex.e, .bool Ey.b, .slice Ey.a Ey.n Ey.c, .slice Ey.d Ey.m Ey.e], 74)] [])) (by kernel_rfl) ((HS.out.drew).bare) (fun hh => ?_)
     replace HS := ae HS.out.drew
     refine bW (i := 0) (v := ?ac7) rfl (Or.inl ⟨by first | rfl | kernel_rfl, ?EO⟩) (by assumption) ?aaT
     case EO => (intro u aH; (go_simp <;> with_reducible rfl))
     try simp only [ag]
     refine bW (i := 1) (v := ?ac8) rfl (Or.inl ⟨by first | rfl | kernel_rfl, ?EP⟩) (by assumption) ?aaU
     case EP => (intro u aH; (go_simp <;> with_reducible rfl))
     try simp only [ag]
     refine bW (i := 2) (v := ?ac9) rfl (Or.inl ⟨by first | rfl | kernel_rfl, ?ER⟩) (by assumption) ?aaV
     case ER => (intro u aH; (go_simp <;> with_reducible rfl))
     try simp only [ag]
     refine bW (i := 3) (v := undef) rfl (Or.inr ⟨by first | rfl | kernel_rfl, rfl⟩) (by assumption) ?aaW
     try simp only [ag]
     refine bW (i := 4) (v := undef) rfl (Or.inr ⟨by first | rfl | kernel_rfl, rfl⟩) (by assumption) ?aaX
     try simp only [ag]
     refine bW (i := 5) (v := undef) rfl (Or.inr ⟨by first | rfl | kernel_rfl, rfl⟩) (by assumption) ?aaY
     try simp only [ag]
     refine bW (i := 6) (v := undef) rfl (Or.inr ⟨by first | rfl | kernel_rfl, rfl⟩) (by assumption) ?aaZ
     try simp only [ag]
     refine bW (i := 7) (v := undef) rfl (Or.inr ⟨by first | rfl | kernel_rfl, rfl⟩) (by assumption) ?aa0
     try simp only [ag]
     refine bW (i := 8) (v := undef) rfl (Or.inr ⟨by first | rfl | kernel_rfl, rfl⟩) (by assumption) ?aa1
     try simp only [ag]
     refine bW (i := 9) (v := undef) rfl (Or.inr ⟨by first | rfl | kernel_rfl, rfl⟩) (by assumption) ?aa2
     try simp only [ag]
     refine bW (i := 10) (v := undef) rfl (Or.inr ⟨by first | rfl | kernel_rfl, rfl⟩) (by assumption) ?VK
     try simp only [ag]
     refine bW (i := 11) (v := undef) rfl (Or.inr ⟨by first | rfl | kernel_rfl, rfl⟩) (by assumption) ?VL
     try simp only [ag]
     refine bW (i := 12) (v := ?acs) rfl (Or.inl ⟨by first | rfl | kernel_rfl, ?Cc⟩) (by assumption) ?VM
     case Cc => (intro u aH; (go_simp <;> with_reducible rfl))
     try simp only [ag]
     refine wpAnyH_done (by kernel_rfl) ?_ _
     go_wp2_with fail
     refine wp_region_held_drew (S := (fun w' => Sx w w' [(Rf.heap.size, #[.int .i64 f, .bool Ex.b, .slice Ex.a Ex.n Ex.c, .slice Ex.d Ex.m Ex.e, .bool Ey.b, .slice Ey.a Ey.n Ey.c, .slice Ey.d Ey.m Ey.e], 74)] [])) (by kernel_rfl) ((HS.out.drew).bare) (fun hh => ?_)
     replace HS := ae HS.out.drew
     refine bW (i := 0) (v := ?ac') rfl (Or.inl ⟨by first | rfl | kernel_rfl, ?ES⟩) (by assumption) ?aa3
     case ES => (intro u aH; (go_simp <;> with_reducible rfl))
     try simp only [ag]
     refine bW (i := 1) (v := ?ac_) rfl (Or.inl ⟨by first | rfl | kernel_rfl, ?ET⟩) (by assumption) ?aa4
     case ET => (intro u aH; (try dsimp only at aH); have fH := (aH.at 0 _ _ _ rfl); have kH := af fH 0 (.int .i64 f) rfl; have kJ := af fH 1 (.bool Ex.b) rfl; have kK := af fH 2 (.slice Ex.a Ex.n Ex.c) rfl; have qN := af fH 3 (.slice Ex.d Ex.m Ex.e) rfl; have ru := af fH 4 (.bool Ey.b) rfl; have ry := af fH 5 (.slice Ey.a Ey.n Ey.c) rfl; have Tn := af fH 6 (.slice Ey.d Ey.m Ey.e) rfl; clear fH; clear aH; (go_simp <;> with_reducible rfl))
     try simp only [ag]
     refine rdA (i := 2) rfl (fun K hK => ?_)
     go_simp
     cases t208 : g_ lo hi with
     | true =>
      have a210 := HS.out.p 1 _ _ rfl
      have als := HS.out.p 0 _ _ rfl
      go_wp2_with (go_at_call 28; (with_reducible refine (tu lo hi _ _ (gB a210 als) (aj KU.out.2 (by omega))).mono ?_); rw [t208]; rintro e avp ⟨rfl, Zl⟩)
      refine hK.out _ _ (Sx.below hh Zl) (fun hh => ?_)
      clear hK K
      try simp only [ag]
      replace HS := ae (HS.out.below Zl)
      clear Zl a210 als
      refine bW (i := 3) (v := ?ada) rfl (Or.inl ⟨by first | rfl | kernel_rfl, ?EU⟩) (by assumption) ?aa5
      case EU => (intro u aH; (go_simp <;> with_reducible rfl))
      try simp only [ag]
      refine bW (i := 4) (v := ?ade) rfl (Or.inl ⟨by first | rfl | kernel_rfl, ?EY⟩) (by assumption) ?aa7
      case EY => (intro u aH; (go_simp <;> with_reducible rfl))
      try simp only [ag]
      refine bW (i := 5) (v := ?adg) rfl (Or.inl ⟨by first | rfl | kernel_rfl, ?E8⟩) (by assumption) ?aa9
      case E8 => (intro u aH; (go_simp <;> with_reducible rfl))
      try simp only [ag]
      refine bW (i := 6) (v := ?adh) rfl (Or.inl ⟨by first | rfl | kernel_rfl, ?E9⟩) (by assumption) ?aa_
      case E9 => (intro u aH; (go_simp <;> with_reducible rfl))
      try simp only [ag]
      refine bW (i := 7) (v := ?adi) rfl (Or.inl ⟨by first | rfl | kernel_rfl, ?E_⟩) (by assumption) ?abd
      case E_ => (intro u aH; (go_simp <;> with_reducible rfl))
      try simp only [ag]
      refine bW (i := 8) (v := undef) rfl (Or.inr ⟨by first | rfl | kernel_rfl, rfl⟩) (by assumption) ?abf
      try simp only [ag]
      refine bW (i := 9) (v := undef) rfl (Or.inr ⟨by first | rfl | kernel_rfl, rfl⟩) (by assumption) ?abh
      try simp only [ag]
      refine bW (i := 10) (v := undef) rfl (Or.inr ⟨by first | rfl | kernel_rfl, rfl⟩) (by assumption) ?VN
      try simp only [ag]
      refine bW (i := 11) (v := undef) rfl (Or.inr ⟨by first | rfl | kernel_rfl, rfl⟩) (by assumption) ?VP
      try simp only [ag]
      refine bW (i := 12) (v := undef) rfl (Or.inr ⟨by first | rfl | kernel_rfl, rfl⟩) (by assumption) ?VR
      try simp only [ag]
      refine bW (i := 13) (v := undef) rfl (Or.inr ⟨by first | rfl | kernel_rfl, rfl⟩) (by assumption) ?VT
      try simp only [ag]
      refine bW (i := 14) (v := undef) rfl (Or.inr ⟨by first | rfl | kernel_rfl, rfl⟩) (by assumption) ?VV
      try simp only [ag]
      refine bW (i := 15) (v := undef) rfl (Or.inr ⟨by first | rfl | kernel_rfl, rfl⟩) (by assumption) ?VX
      try simp only [ag]
      refine bW (i := 16) (v := undef) rfl (Or.inr ⟨by first | rfl | kernel_rfl, rfl⟩) (by assumption) ?VZ
      try simp only [ag]
      refine bW (i := 17) (v := undef) rfl (Or.inr ⟨by first | rfl | kernel_rfl, rfl⟩) (by assumption) ?V4
      try simp only [ag]
      refine bW (i := 18) (v := undef) rfl (Or.inr ⟨by first | rfl | kernel_rfl, rfl⟩) (by assumption) ?V6
      try simp only [ag]
      refine bW (i := 19) (v := undef) rfl (Or.inr ⟨by first | rfl | kernel_rfl, rfl⟩) (by assumption) ?V8
      try simp only [ag]
      refine bW (i := 20) (v := undef) rfl (Or.inr ⟨by first | rfl | kernel_rfl, rfl⟩) (by assumption) ?V_
      try simp only [ag]
      refine bW (i := 21) (v := undef) rfl (Or.inr ⟨by first | rfl | kernel_rfl, rfl⟩) (by assumption) ?Wh
      try simp only [ag]
      refine bW (i := 22) (v := undef) rfl (Or.inr ⟨by first | rfl | kernel_rfl, rfl⟩) (by assumption) ?Wj
      try simp only [ag]
      refine bW (i := 23) (v := undef) rfl (Or.inr ⟨by first | rfl | kernel_rfl, rfl⟩) (by assumption) ?Wn
      try simp only [ag]
      refine bW (i := 24) (v := undef) rfl (Or.inr ⟨by first | rfl | kernel_rfl, rfl⟩) (by assumption) ?Wq
      try simp only [ag]
      refine bW (i := 25) (v := undef) rfl (Or.inr ⟨by first | rfl | kernel_rfl, rfl⟩) (by assumption) ?Wu
      try simp only [ag]
      refine bW (i := 26) (v := undef) rfl (Or.inr ⟨by first | rfl | kernel_rfl, rfl⟩) (by assumption) ?Wx
      try simp only [ag]
      refine bW (i := 27) (v := undef) rfl (Or.inr ⟨by first | rfl | kernel_rfl, rfl⟩) (by assumption) ?WA
      try simp only [ag]
      refine bW (i := 28) (v := undef) rfl (Or.inr ⟨by first | rfl | kernel_rfl, rfl⟩) (by assumption) ?WC
      try simp only [ag]
      refine bW (i := 29) (v := undef) rfl (Or.inr ⟨by first | rfl | kernel_rfl, rfl⟩) (by assumption) ?WG
      try simp only [ag]
      refine bW (i := 30) (v := undef) rfl (Or.inr ⟨by first | rfl | kernel_rfl, rfl⟩) (by assumption) ?WI
      try simp only [ag]
      refine bW (i := 31) (v := undef) rfl (Or.inr ⟨by first | rfl | kernel_rfl, rfl⟩) (by assumption) ?WL
      try simp only [ag]
      refine bW (i := 32) (v := undef) rfl (Or.inr ⟨by first | rfl | kernel_rfl, rfl⟩) (by assumption) ?WN
      try simp only [ag]
      refine bW (i := 33) (v := undef) rfl (Or.inr ⟨by first | rfl | kernel_rfl, rfl⟩) (by assumption) ?WQ
      try simp only [ag]
      refine bW (i := 34) (v := ?acu) rfl (Or.inl ⟨by first | rfl | kernel_rfl, ?Ce⟩) (by assumption) ?WS
      case Ce => (intro u aH; (go_simp <;> with_reducible rfl))
      try simp only [ag]
      refine bW (i := 35) (v := ?acv) rfl (Or.inl ⟨by first | rfl | kernel_rfl, ?Cf⟩) (by assumption) ?WU
      case Cf => (intro u aH; (go_simp <;> with_reducible rfl))
      try simp only [ag]
      refine wpAnyH_done (by kernel_rfl) ?_ _
      have bg := (HS.out.at 0 _ _ _ rfl)
      have iy := af bg 0 (.int .i64 f) rfl
      have iL := af bg 1 (.bool Ex.b) rfl
      have jD := af bg 2 (.slice Ex.a Ex.n Ex.c) rfl
      have pg := af bg 3 (.slice Ex.d Ex.m Ex.e) rfl
      have qo := af bg 4 (.bool Ey.b) rfl
      have qp := af bg 5 (.slice Ey.a Ey.n Ey.c) rfl
      have uf := af bg 6 (.slice Ey.d Ey.m Ey.e) rfl
      have jI := ah bg 0
      have jU := ah bg 1
      have kz := ah bg 2
      have qx := ah bg 3
      have qy := ah bg 4
      have qA := ah bg 5
      have ug := ah bg 6
      have rG := ai bg
      clear bg
      go_wp2_with fail
      clear iy iL jD pg qo qp uf jI jU kz qx qy qA ug rG
      exact ⟨⟨i + 1, by have := gq.out; omega, by go_num, ae (vW VG.out (by first | (rw [HF.out]; simp only [t208, Bool.and_true, Bool.true_and, Bool.and_false, Bool.false_and, Bool.or_true, Bool.true_or, Bool.or_false, Bool.false_or, Bool.not_true, Bool.not_false, cond_true, cond_false]) | (rw [HF.out]; simp [t208]))), ae ((HS.out).erase 0)⟩, bU gq.out⟩
     | false =>
      have alu := HS.out.p 1 _ _ rfl
      have alv := HS.out.p 0 _ _ rfl
      go_wp2_with (go_at_call 28; (with_reducible refine (tu lo hi _ _ (gB alu alv) (aj KU.out.2 (by omega))).mono ?_); rw [t208]; rintro e avq ⟨rfl, Zm⟩)
      refine hK.out _ _ (Sx.below hh Zm) (fun hh => ?_)
      clear hK K
      try simp only [ag]
      replace HS := ae (HS.out.below Zm)
      clear Zm alu alv
      refine bW (i := 3) (v := ?adb) rfl (Or.inl ⟨by first | rfl | kernel_rfl, ?EW⟩) (by assumption) ?aa6
      case EW => (intro u aH; (go_simp <;> with_reducible rfl))
      try simp only [ag]
      refine bW (i := 4) (v := ?adf) rfl (Or.inl ⟨by first | rfl | kernel_rfl, ?EZ⟩) (by assumption) ?aa8
      case EZ => (intro u aH; (go_simp <;> with_reducible rfl))
      try simp only [ag]
      refine bW (i := 5) (v := undef) rfl (Or.inr ⟨by first | rfl | kernel_rfl, rfl⟩) (by assumption) ?aa'
      try simp only [ag]
      refine bW (i := 6) (v := undef) rfl (Or.inr ⟨by first | rfl | kernel_rfl, rfl⟩) (by assumption) ?abb
      try simp only [ag]
      refine bW (i := 7) (v := undef) rfl (Or.inr ⟨by first | rfl | kernel_rfl, rfl⟩) (by assumption) ?abe
      try simp only [ag]
      refine bW (i := 8) (v := undef) rfl (Or.inr ⟨by first | rfl | kernel_rfl, rfl⟩) (by assumption) ?abg
      try simp only [ag]
      refine bW (i := 9) (v := undef) rfl (Or.inr ⟨by first | rfl | kernel_rfl, rfl⟩) (by assumption) ?abj
      try simp only [ag]
      refine bW (i := 10) (v := undef) rfl (Or.inr ⟨by first | rfl | kernel_rfl, rfl⟩) (by assumption) ?VO
      try simp only [ag]
      refine bW (i := 11) (v := undef) rfl (Or.inr ⟨by first | rfl | kernel_rfl, rfl⟩) (by assumption) ?VQ
      try simp only [ag]
      refine bW (i := 12) (v := undef) rfl (Or.inr ⟨by first | rfl | kernel_rfl, rfl⟩) (by assumption) ?VS
      try simp only [ag]
      refine bW (i := 13) (v := undef) rfl (Or.inr ⟨by first | rfl | kernel_rfl, rfl⟩) (by assumption) ?VU
      try simp only [ag]
      refine bW (i := 14) (v := undef) rfl (Or.inr ⟨by first | rfl | kernel_rfl, rfl⟩) (by assumption) ?VW
      try simp only [ag]
      refine bW (i := 15) (v := undef) rfl (Or.inr ⟨by first | rfl | kernel_rfl, rfl⟩) (by assumption) ?VY
      try simp only [ag]
      refine bW (i := 16) (v := undef) rfl (Or.inr ⟨by first | rfl | kernel_rfl, rfl⟩) (by assumption) ?V3
      try simp only [ag]
      refine bW (i := 17) (v := undef) rfl (Or.inr ⟨by first | rfl | kernel_rfl, rfl⟩) (by assumption) ?V5
      try simp only [ag]
      refine bW (i := 18) (v := undef) rfl (Or.inr ⟨by first | rfl | kernel_rfl, rfl⟩) (by assumption) ?V7
      try simp only [ag]
      refine bW (i := 19) (v := undef) rfl (Or.inr ⟨by first | rfl | kernel_rfl, rfl⟩) (by assumption) ?V9
      try simp only [ag]
      refine bW (i := 20) (v := undef) rfl (Or.inr ⟨by first | rfl | kernel_rfl, rfl⟩) (by assumption) ?We
      try simp only [ag]
      refine bW (i := 21) (v := undef) rfl (Or.inr ⟨by first | rfl | kernel_rfl, rfl⟩) (by assumption) ?Wi
      try simp only [ag]
      refine bW (i := 22) (v := undef) rfl (Or.inr ⟨by first | rfl | kernel_rfl, rfl⟩) (by assumption) ?Wl
      try simp only [ag]
      refine bW (i := 23) (v := undef) rfl (Or.inr ⟨by first | rfl | kernel_rfl, rfl⟩) (by assumption) ?Wp
      try simp only [ag]
      refine bW (i := 24) (v := undef) rfl (Or.inr ⟨by first | rfl | kernel_rfl, rfl⟩) (by assumption) ?Ws
      try simp only [ag]
      refine bW (i := 25) (v := undef) rfl (Or.inr ⟨by first | rfl | kernel_rfl, rfl⟩) (by assumption) ?Wv
      try simp only [ag]
      refine bW (i := 26) (v := undef) rfl (Or.inr ⟨by first | rfl | kernel_rfl, rfl⟩) (by assumption) ?Wy
      try simp only [ag]
      refine bW (i := 27) (v := undef) rfl (Or.inr ⟨by first | rfl | kernel_rfl, rfl⟩) (by assumption) ?WB
      try simp only [ag]
      refine bW (i := 28) (v := undef) rfl (Or.inr ⟨by first | rfl | kernel_rfl, rfl⟩) (by assumption) ?WE
      try simp only [ag]
      refine bW (i := 29) (v := undef) rfl (Or.inr ⟨by first | rfl | kernel_rfl, rfl⟩) (by assumption) ?WH
      try simp only [ag]
      refine bW (i := 30) (v := undef) rfl (Or.inr ⟨by first | rfl | kernel_rfl, rfl⟩) (by assumption) ?WJ
      try simp only [ag]
      refine bW (i := 31) (v := undef) rfl (Or.inr ⟨by first | rfl | kernel_rfl, rfl⟩) (by assumption) ?WM
      try simp only [ag]
      refine bW (i := 32) (v := undef) rfl (Or.inr ⟨by first | rfl | kernel_rfl, rfl⟩) (by assumption) ?WO
      try simp only [ag]
      refine bW (i := 33) (v := undef) rfl (Or.inr ⟨by first | rfl | kernel_rfl, rfl⟩) (by assumption) ?WR
      try simp only [ag]
      refine bW (i := 34) (v := undef) rfl (Or.inr ⟨by first | rfl | kernel_rfl, rfl⟩) (by assumption) ?WT
      try simp only [ag]
      refine bW (i := 35) (v := ?acw) rfl (Or.inl ⟨by first | rfl | kernel_rfl, ?Ci⟩) (by assumption) ?WV
      case Ci => (intro u aH; (go_simp <;> with_reducible rfl))
      try simp only [ag]
      refine wpAnyH_done (by kernel_rfl) ?_ _
      have bg := (HS.out.at 0 _ _ _ rfl)
      have iy := af bg 0 (.int .i64 f) rfl
      have iL := af bg 1 (.bool Ex.b) rfl
      have jD := af bg 2 (.slice Ex.a Ex.n Ex.c) rfl
      have pg := af bg 3 (.slice Ex.d Ex.m Ex.e) rfl
      have qo := af bg 4 (.bool Ey.b) rfl
      have qp := af bg 5 (.slice Ey.a Ey.n Ey.c) rfl
      have uf := af bg 6 (.slice Ey.d Ey.m Ey.e) rfl
      have jI := ah bg 0
      have jU := ah bg 1
      have kz := ah bg 2
      have qx := ah bg 3
      have qy := ah bg 4
      have qA := ah bg 5
      have ug := ah bg 6
      have rG := ai bg
      clear bg
      go_wp2_with fail
      clear iy iL jD pg qo qp uf jI jU kz qx qy qA ug rG
      have HR : Hid (iG es = 1) := sJ VG.out (by first | (rw [HF.out]; simp only [t208, Bool.and_true, Bool.true_and, Bool.and_false, Bool.false_and, Bool.or_true, Bool.true_or, Bool.or_false, Bool.false_or, Bool.not_true, Bool.not_false, cond_true, cond_false]) | (rw [HF.out]; simp [t208])) (by omega) gq.out Ae.out
      go_ret
      exact ⟨by rw [HR.out] <;> rfl, HS.out.bel⟩
   ·
    obtain rfl : i = es.length := by omega
    have HR : Hid (iG es = 0) := by show _ = _; unfold iG; rw [if_neg Ae.out]; exact VG.out
    go_wp2_with fail
    go_ret
    exact ⟨by rw [HR.out] <;> rfl, HS.out.bel⟩
theorem k_ {x y : Rat} : dN x y ≤ 0 ↔ x ≤ y := by
 unfold dN
 split
 ·
  constructor
  · intro _; grind
  · intro _; omega
 ·
  split
  ·
   constructor
   · intro h; omega
   · intro h; grind
  ·
   constructor
   · intro _; grind
   · intro _; omega
theorem oJ {x y : Rat} : dN x y < 0 ↔ x < y := by
 unfold dN
 split
 ·
  constructor
  · intro _; assumption
  · intro _; omega
 ·
  split
  ·
   constructor
   · intro h; omega
   · intro h; grind
  ·
   constructor
   · intro h; omega
   · intro h; grind
theorem mJ {lo hi : Rat} : g_ lo hi = true ↔ 0 ≤ lo ∧ hi ≤ 1 := by
 unfold g_
 rw [Bool.and_eq_true, KJ, decide_eq_true_iff, decide_eq_true_iff, k_]
def Pv (es : List lD) : Prop := ∀ i, i < es.length → (es.getD i (0, 0, 0)).2.1 ≤ (es.getD i (0, 0, 0)).2.2
theorem YN {es : List lD} (h : iG es = 0) {i : Nat} (hi : i < es.length) : sH es i = 0 := by
 unfold iG at h
 split at h
 · exact absurd h (by decide)
 ·
  rcases Decidable.em (sH es i = 0) with h0 | h0
  · exact h0
  ·
   exfalso
   have hs : ∀ n, n ≤ es.length → jK es n = 0 := fun n hn => by
    rcases Decidable.em (jK es n = 0) with h1 | h1
    · exact h1
    · exact absurd ((Bj h1 hn).symm.trans h) h1
   have h1 := hs (i + 1) hi
   have h2 := hs i (by omega)
   rw [show jK es (i + 1) = if jK es i ≠ 0 then jK es i else sH es i from rfl, h2] at h1
   exact h0 h1
theorem Sr {es : List lD} (h : iG es = 0) {i : Nat} (hi : i < es.length) : 0 ≤ (es.getD i (0, 0, 0)).2.1 ∧ (es.getD i (0, 0, 0)).2.2 ≤ 1 := by
 have h1 := YN h hi
 rw [← mJ]
 rcases Bool.eq_false_or_eq_true (g_ (es.getD i (0, 0, 0)).2.1 (es.getD i (0, 0, 0)).2.2) with hp | hp
 · exact hp
 ·
  exfalso
  unfold sH at h1
  rw [hp] at h1
  revert h1
  cases (decide (0 < i) && decide ((es.getD i (0, 0, 0)).1 ≤ (es.getD (i - 1) (0, 0, 0)).1)) <;> simp
theorem ad3 {es : List lD} (h : iG es = 0) {i : Nat} (hi : i + 1 < es.length) : (es.getD i (0, 0, 0)).2.1 ≤ (es.getD (i + 1) (0, 0, 0)).2.1 ∧ (es.getD i (0, 0, 0)).2.2 ≤ (es.getD (i + 1) (0, 0, 0)).2.2 := by
 have h1 := YN h hi
 rw [Su rfl] at h1
 have e1 : decide (dN (es.getD (i + 1) (0, 0, 0)).2.1 (es.getD i (0, 0, 0)).2.1 < 0) = false ∧ decide (dN (es.getD (i + 1) (0, 0, 0)).2.2 (es.getD i (0, 0, 0)).2.2 < 0) = false := by
  revert h1
  cases decide ((es.getD (i + 1) (0, 0, 0)).1 ≤ (es.getD i (0, 0, 0)).1) <;> cases g_ (es.getD (i + 1) (0, 0, 0)).2.1 (es.getD (i + 1) (0, 0, 0)).2.2 <;> cases decide (dN (es.getD (i + 1) (0, 0, 0)).2.1 (es.getD i (0, 0, 0)).2.1 < 0) <;> cases decide (dN (es.getD (i + 1) (0, 0, 0)).2.2 (es.getD i (0, 0, 0)).2.2 < 0) <;> simp
 have e2 := of_decide_eq_false e1.1
 have e3 := of_decide_eq_false e1.2
 rw [oJ] at e2 e3
 exact ⟨by grind, by grind⟩
theorem agW {es : List lD} (h : iG es = 0) (t : Rat) : ∀ n, n < es.length → (p_ es t n).1 ≤ (es.getD n (0, 0, 0)).2.1
 | 0, hn => (Sr h hn).1
 | n + 1, hn => by
  have h1 := (ad3 h hn).1
  rw [KF]
  split
  · exact h1
  ·
   have := agW h t n (by omega)
   grind
theorem TM {es : List lD} (h : iG es = 0) (ho : Pv es) {t t' : Rat} (ht : t ≤ t') : ∀ n, n ≤ es.length → (p_ es t n).1 ≤ (p_ es t' n).2
 | 0, _ => by show (0 : Rat) ≤ 0; grind
 | n + 1, hn => by
  have ih := TM h ho ht n (by omega)
  have h1 := ho n (by omega)
  have h2 := agW h t n (by omega)
  rw [KF, QR]
  have c1 := @k_ ((es.getD n (0, 0, 0)).1 : Rat) t
  have c2 := @k_ ((es.getD n (0, 0, 0)).1 : Rat) t'
  by_cases k1 : dN ((es.getD n (0, 0, 0)).1 : Rat) t ≤ 0
  ·
   have := c1.1 k1
   have k2 : dN ((es.getD n (0, 0, 0)).1 : Rat) t' ≤ 0 := c2.2 (by grind)
   rw [if_pos k1, if_pos k2]
   exact h1
  ·
   rw [if_neg k1]
   by_cases k2 : dN ((es.getD n (0, 0, 0)).1 : Rat) t' ≤ 0
   ·
    rw [if_pos k2]
    grind
   ·
    rw [if_neg k2]
    exact ih
theorem agX {es : List lD} (h : iG es = 0) (ho : Pv es) {t t' : Rat} (ht : t ≤ t') : dN (fJ es t).1 (fJ es t').2 ≤ 0 := k_.2 (TM h ho ht es.length (Nat.le_refl _))
theorem zV {a b c d : Rat} (h0 : 0 ≤ c) (h1 : a ≤ b) (h2 : c ≤ d) (h3 : 0 ≤ b) : a * c ≤ b * d := by
 have e1 : a * c ≤ b * c := Rat.mul_le_mul_of_nonneg_right h1 h0
 have e2 : b * c ≤ b * d := Rat.mul_le_mul_of_nonneg_left h2 h3
 grind
theorem Vl {a b p q : Rat} (h1 : g_ a b = true) (h2 : g_ p q = true) (hab : a ≤ b) (hpq : p ≤ q) : dN (a + p * (1 - a)) (b + q * (1 - b)) ≤ 0 := by
 rw [mJ] at h1 h2
 rw [k_]
 have := zV (a := 1 - b) (b := 1 - a) (c := 1 - q) (d := 1 - p) (by grind) (by grind) (by grind) (by grind)
 grind
theorem Vk (a b p q : Rat) (k : Nat) (hk : k ≤ 256) (z : Int) (hz : min (max z 0) 256 = (k : Int)) (vc vr : Value) (w : World) (hc : cZ w vc a b) (hr : cZ w vr p q) (h1 : g_ a b = true) (h2 : g_ p q = true) (hab : a ≤ b) (hpq : p ≤ q)
  (s0 : bQ a 10000) (s1 : bQ b 10000) (s2 : bQ p 10000) (s3 : bQ q 10000) : Calls Tryz.prog 29 #[vc, vr, .int .i64 z] w (iK (gK (a + p * (1 - a)) k) (yu (b + q * (1 - b)) k) w) :=
 Oj a b p q k hk z hz vc vr w hc hr _ _ rfl rfl (aj s0 (by omega)) (aj s2 (by omega)) (aj (oP (jb 1 (by omega)) s0) (by omega)) (aj (gZ s2 (oP (jb 1 (by omega)) s0)) (by omega))
  (aj s1 (by omega)) (aj s3 (by omega)) (aj (oP (jb 1 (by omega)) s1) (by omega)) (aj (gZ s3 (oP (jb 1 (by omega)) s1)) (by omega)) (aj (Kz s0 s2) (by omega)) (aj (Kz s1 s3) (by omega)) (yj (aj (Kz s1 s3) (by omega))) (Vl h1 h2 hab hpq)
theorem qc (y : Rat) : Js y = (y.floor : Rat) := by
 unfold Js pK
 rw [Rat.mkRat_one, Rat.floor_def]
 congr 1
 unfold flN sg
 have hd : 0 < y.den := y.den_pos
 by_cases h : y.num < 0
 ·
  obtain ⟨m, hm⟩ : ∃ m : Nat, y.num = -(m : Int) := ⟨y.num.natAbs, by omega⟩
  rw [decide_eq_true h, if_pos rfl, hm, Int.natAbs_neg, Int.natAbs_natCast, Int.neg_ediv]
  have hb : (-(m : Int) < 0) := by rw [← hm]; exact h
  by_cases hr : m % y.den = 0
  ·
   have hdv : ((y.den : Int)) ∣ (m : Int) := Int.natCast_dvd_natCast.2 (Nat.dvd_of_mod_eq_zero hr)
   rw [if_neg (fun h => h.2 hr), if_pos hdv]
   simp
  ·
   have hdv : ¬ ((y.den : Int)) ∣ (m : Int) := fun h => hr (Nat.mod_eq_zero_of_dvd (Int.natCast_dvd_natCast.1 h))
   rw [if_pos ⟨hb, hr⟩, if_neg hdv]
   have : (y.den : Int).sign = 1 := Int.sign_eq_one_of_pos (by omega)
   rw [this]
   push_cast
   omega
 ·
  obtain ⟨m, hm⟩ : ∃ m : Nat, y.num = (m : Int) := ⟨y.num.natAbs, by omega⟩
  rw [decide_eq_false h, hm, Int.natAbs_natCast, if_neg (by simp), if_neg (fun h => absurd h.1 (by omega))]
  simp
theorem uG (k : Nat) : yD k 0 = (((2 ^ k : Nat) : Int) : Rat) := by
 unfold yD pK sg
 rw [Nat.pow_zero, Rat.mkRat_one]
 rfl
theorem y_ (k : Nat) : yD k 0 * yD 0 k = 1 := by
 unfold yD pK sg
 rw [Nat.pow_zero]
 simp only [Bool.false_eq_true, if_false]
 rw [Rat.mkRat_eq_div, Rat.mkRat_eq_div]
 have h : (((2 ^ k : Nat) : Int) : Rat) ≠ 0 := by
  have := Nat.two_pow_pos k
  intro h0
  have : ((2 ^ k : Nat) : Int) = 0 := by exact_mod_cast h0
  omega
 generalize 2 ^ k = m at *
 rw [show (((1 : Nat) : Int) : Rat) = 1 from rfl, show (((m : Nat) : Int) : Rat) = (m : Rat) from rfl] at *
 generalize (m : Rat) = a at *
 have e : ((1 : Nat) : Rat) = 1 := rfl
 rw [e]
 grind
theorem qM (k : Nat) : 0 < yD k 0 := by
 rw [uG]
 have := Nat.two_pow_pos k
 have h : (0 : Int) < ((2 ^ k : Nat) : Int) := by omega
 exact_mod_cast h
theorem Gi (k : Nat) : 0 < yD 0 k := by
 have h1 := y_ k
 have h2 := qM k
 rcases Decidable.em (0 < yD 0 k) with h | h
 · exact h
 ·
  exfalso
  have h3 : yD 0 k ≤ 0 := by grind
  have := Rat.mul_le_mul_of_nonneg_left h3 (Rat.le_of_lt h2)
  grind
theorem CU (x : Rat) (k : Nat) : gK x k ≤ x := by
 rw [← n_, qc]
 have h := Rat.mul_le_mul_of_nonneg_right (Rat.floor_le (x * yD k 0)) (Rat.le_of_lt (Gi k))
 rw [Rat.mul_assoc, y_, Rat.mul_one] at h
 exact h
theorem Ih {x y : Rat} (h : x ≤ y) (k : Nat) : gK x k ≤ gK y k := by
 rw [← n_, ← n_, qc, qc]
 refine Rat.mul_le_mul_of_nonneg_right ?_ (Rat.le_of_lt (Gi k))
 have h1 := Rat.mul_le_mul_of_nonneg_right h (Rat.le_of_lt (qM k))
 exact Rat.intCast_le_intCast.2 (Rat.le_floor_iff.2 (Rat.le_trans (Rat.floor_le _) h1))
theorem Eh {x : Rat} {n : Int} (h : (n : Rat) ≤ x) (k : Nat) : (n : Rat) ≤ gK x k := by
 rw [← n_, qc]
 have h1 := Rat.mul_le_mul_of_nonneg_right h (Rat.le_of_lt (qM k))
 have h2 : (((n * ((2 ^ k : Nat) : Int) : Int)) : Rat) ≤ x * yD k 0 := by
  rw [Rat.intCast_mul, ← uG]; exact h1
 have h3 := Rat.intCast_le_intCast.2 (Rat.le_floor_iff.2 h2)
 rw [Rat.intCast_mul, ← uG] at h3
 have h4 := Rat.mul_le_mul_of_nonneg_right h3 (Rat.le_of_lt (Gi k))
 rw [Rat.mul_assoc, y_, Rat.mul_one] at h4
 exact h4
theorem acp (x : Rat) (k : Nat) : x ≤ yu x k := by
 unfold yu
 have := CU (-x) k
 grind
theorem afH {x y : Rat} (h : x ≤ y) (k : Nat) : yu x k ≤ yu y k := by
 unfold yu
 have := Ih (x := -y) (y := -x) (by grind) k
 grind
theorem acr {x : Rat} {n : Int} (h : x ≤ (n : Rat)) (k : Nat) : yu x k ≤ (n : Rat) := by
 unfold yu
 have h1 : ((-n : Int) : Rat) ≤ -x := by rw [Rat.intCast_neg]; grind
 have := Eh h1 k
 rw [Rat.intCast_neg] at this
 grind
theorem zG {x : Rat} {k : Nat} (hk : k ≤ 256) (h0 : -1 ≤ x) (h1 : x ≤ 1) : bQ (gK x k) 20 := by
 rw [← n_, qc]
 refine aj (gZ (j := 5) (uK ?_ (by omega)) (TQ (show 0 ≤ 256 by omega) hk)) (by omega)
 have e1 := Rat.mul_le_mul_of_nonneg_right h0 (Rat.le_of_lt (qM k))
 have e2 := Rat.mul_le_mul_of_nonneg_right h1 (Rat.le_of_lt (qM k))
 have f1 : (-((2 ^ k : Nat) : Int)) ≤ (x * yD k 0).floor := Rat.le_floor_iff.2 (by rw [Rat.intCast_neg, ← uG]; grind)
 have f2 : (x * yD k 0).floor ≤ ((2 ^ k : Nat) : Int) := Rat.intCast_le_intCast.1 (by rw [← uG]; have := Rat.floor_le (x * yD k 0); grind)
 have h2 : 2 ^ k ≤ 2 ^ 256 := Nat.pow_le_pow_right (by omega) hk
 have h3 : 2 ^ 256 < ak ^ 5 := by unfold ak; decide +kernel
 omega
theorem Q3 {x : Rat} {k : Nat} (hk : k ≤ 256) (h0 : -1 ≤ x) (h1 : x ≤ 1) : bQ (yu x k) 20 := by
 unfold yu
 exact yj (zG hk (by grind) (by grind))
theorem KG {es : List lD} (h : iG es = 0) (t : Rat) : ∀ n, n ≤ es.length → 0 ≤ (p_ es t n).1 ∧ (p_ es t n).2 ≤ 1
 | 0, _ => by show (0 : Rat) ≤ 0 ∧ (0 : Rat) ≤ 1; grind
 | n + 1, hn => by
  rw [KF, QR]
  have h1 := Sr h (show n < es.length by omega)
  have h2 := KG h t n (by omega)
  by_cases k1 : dN ((es.getD n (0, 0, 0)).1 : Rat) t ≤ 0
  · rw [if_pos k1, if_pos k1]; exact h1
  · rw [if_neg k1, if_neg k1]; exact h2
def dS (f : Nat → Bool) : Nat → Int
 | 0 => -1
 | n + 1 => if 0 ≤ dS f n then dS f n else if f n then n else -1
theorem zI {f : Nat → Bool} {i n : Nat} (h : 0 ≤ dS f i) (hn : i ≤ n) : dS f n = dS f i := by
  induction n with
  | zero => obtain rfl : i = 0 := by omega
            rfl
  | succ n ih =>
    rcases Nat.lt_or_ge i (n + 1) with h1 | h1
    · have e := ih (by omega)
      show (if 0 ≤ dS f n then dS f n else _) = _
      rw [if_pos (by rw [e]; exact h), e]
    · obtain rfl : i = n + 1 := by omega
      rfl
theorem Px {f : Nat → Bool} {i n : Nat} (h : dS f i = -1) (hf : f i = true) (hi : i < n) : dS f n = i := by
 have e : dS f (i + 1) = i := by
  show (if 0 ≤ dS f i then _ else _) = _
  rw [h, if_neg (by omega), if_pos hf]
 rw [zI (by rw [e]; omega) hi, e]
theorem uy {f : Nat → Bool} {i : Nat} (h : dS f i = -1) (hf : f i = false) : dS f (i + 1) = -1 := by
 show (if 0 ≤ dS f i then _ else _) = _
 rw [h, if_neg (by omega), hf]
 rfl
def aT (t : Array Value) (ds : List Nat) (f : Nat → Value) : Array Value := ds.foldl (fun t d => t.setIfInBounds d (f d)) t
def aQ (a : Act) (ds : List Nat) (f : Nat → Value) : Act := { a with tmps := aT a.tmps ds f }
theorem xR (f : Nat → Value) (j : Nat) : ∀ (ds : List Nat) (t : Array Value), (aT t ds f)[j]? = if j ∈ ds ∧ j < t.size then some (f j) else t[j]?
 | [], t => by simp [aT]
 | d :: ds, t => by
  have ih := xR f j ds (t.setIfInBounds d (f d))
  show (aT (t.setIfInBounds d (f d)) ds f)[j]? = _
  rw [ih, Array.size_setIfInBounds]
  by_cases h1 : j ∈ ds ∧ j < t.size
  · rw [if_pos h1, if_pos ⟨List.mem_cons_of_mem _ h1.1, h1.2⟩]
  ·
   rw [if_neg h1, Array.getElem?_setIfInBounds]
   by_cases h2 : d = j
   ·
    subst h2
    rw [if_pos rfl]
    by_cases h3 : d < t.size
    · rw [if_pos h3, if_pos ⟨List.mem_cons_self, h3⟩]
    · rw [if_neg h3, if_neg (fun h => h3 h.2), Array.getElem?_eq_none (by omega)]
   · rw [if_neg h2, if_neg (fun h => h1 ⟨by rcases List.mem_cons.1 h.1 with h | h; exact absurd h.symm h2; exact h, h.2⟩)]
theorem Em (f : Nat → Value) : ∀ (ds : List Nat) (t : Array Value), (aT t ds f).size = t.size
 | [], t => rfl
 | d :: ds, t => by
  show (aT (t.setIfInBounds d (f d)) ds f).size = _
  rw [Em, Array.size_setIfInBounds]
theorem Ii {a : Act} {ds : List Nat} {f : Nat → Value} {d : Nat} {v : Value} (hd : d ∈ ds) : (aQ a ds f).put (some d) v = aQ a ds (fun e => if e = d then v else f e) := by
 have e : (aT a.tmps ds f).setIfInBounds d v = aT a.tmps ds (fun e => if e = d then v else f e) := by
  apply Array.ext_getElem?
  intro j
  rw [Array.getElem?_setIfInBounds, xR, xR, Em]
  by_cases h : d = j
  ·
   subst h
   rw [if_pos rfl]
   by_cases h3 : d < a.tmps.size
   · rw [if_pos h3, if_pos ⟨hd, h3⟩]; simp
   · rw [if_neg h3, if_neg (fun h => h3 h.2), Array.getElem?_eq_none (by omega)]
  ·
   rw [if_neg h]
   have h' : ¬ j = d := fun e => h e.symm
   simp [h']
 unfold aQ
 show ({ a with tmps := aT a.tmps ds f } : Act).put (some d) v = _
 unfold Act.put
 simp [e]
theorem Y0 (a : Act) (ds : List Nat) : aQ a ds (fun d => a.tmps.getD d undef) = a := by
 unfold aQ
 have e : aT a.tmps ds (fun d => a.tmps.getD d undef) = a.tmps := by
  apply Array.ext_getElem?
  intro j
  rw [xR]
  split
  ·
   rename_i h
   rw [Array.getElem?_eq_getElem h.2, Array.getD_eq_getD_getElem?, Array.getElem?_eq_getElem h.2]
   rfl
  · rfl
 rw [e]
def KQ (p : Nat → Prop) : List Nat → Prop
 | [] => True
 | i :: l => p i ∧ KQ p l
theorem KQ.at {p : Nat → Prop} {i : Nat} : ∀ {l : List Nat}, KQ p l → i ∈ l → p i
 | j :: l, h, hi => by
  rcases List.mem_cons.1 hi with rfl | hi
  · exact h.1
  · exact h.2.at hi
def S_ (ops : Array Oper) (l0 lM : Array Bool) (M N E : List Nat) (dst : Nat → Nat) (mM : Nat → List Nat) (ds : List Nat) : Bool :=
 l0.size == ops.size && lM.size == ops.size &&
 (List.range ops.size).all (fun i => lM.getD i true == (l0.getD i true || M.contains i)) &&
 M.all (fun i => l0.getD i true == false && (match ops[i]? with
  | some o => o.dst == some (dst i) && ds.contains (dst i) && (mM i).all (fun j => M.contains j && o.after.any (fun e => Region.binds .any e && e.on == j)) &&
    o.after.all (fun e => !Region.binds .any e || l0.getD e.on false || (M.contains e.on && Nat.blt e.on i))
  | none => false)) &&
 (List.range ops.size).all (fun i => l0.getD i true || M.contains i || (match ops[i]? with
  | some o => o.after.any (fun e => Region.binds .any e && (l0.getD e.on true == false && M.contains e.on == false)) || M.all (fun j => o.after.any (fun e => Region.binds .any e && e.on == j) || M.any (fun l => Nat.blt j l && (match ops[l]? with
    | some o' => o'.after.any (fun e => Region.binds .any e && e.on == j)
    | none => false)) || (E.contains j && (match ops[j]? with
    | some oj => oj.after.all (fun e => !Region.binds .any e || l0.getD e.on false || o.after.any (fun e' => Region.binds .any e' && e'.on == e.on))
    | none => false)))
  | none => false)) &&
 M.all (fun i => M.all (fun j => i == j || dst i != dst j)) && M.all (fun i => N.contains i || E.contains i) && Region.noSelect ops &&
 E.all (fun i => M.contains i && (match ops[i]? with
  | some oi => (List.range ops.size).all (fun j => j == i || oi.after.any (fun e => Region.binds .any e && e.on == j) || (match ops[j]? with
   | some oj => oj.after.any (fun e => Region.binds .any e && e.on == i) || oi.apart ops oj
   | none => true))
  | none => false))
section
variable {P : Program} {ops : Array Oper} {Q : Exit → Act → World → Prop}
def dI (P : Program) (ops : Array Oper) (Q : Exit → Act → World → Prop) (a0 : Act) (ds : List Nat) (W0 : World) (PV : Nat → Value → World → Prop) (dst : Nat → Nat) (mM : Nat → List Nat) (al : List Nat) (i : Nat) : Prop :=
 ∀ o, ops[i]? = some o → ∀ f w, Below W0.heap.size W0 w → (∀ j, j ∈ mM i → PV j (f (dst j)) w) →
  ∀ K' : Act → World → Prop, Shut (∀ a' w'' v, a' = (aQ a0 ds f).put o.dst v → PV i v w'' → (i ∈ al → v = .pointer (some ⟨w.heap.size, 0, none⟩)) → Below w.heap.size w w'' → K' a' w'') →
   if Region.wanted o (yielded ops (aQ a0 ds f).tmps) = true then Oper.wp P o (aQ a0 ds f) w K' Q else K' ((aQ a0 ds f).put o.dst undef) w
theorem dI.of {a0 : Act} {ds : List Nat} {W0 : World} {PV : Nat → Value → World → Prop} {dst : Nat → Nat} {mM : Nat → List Nat} {al : List Nat} {i : Nat} {o : Oper} (ho : ops[i]? = some o)
  (h : ∀ f w, Below W0.heap.size W0 w → (∀ j, j ∈ mM i → PV j (f (dst j)) w) →
   ∀ K' : Act → World → Prop, Shut (∀ a' w'' v, a' = (aQ a0 ds f).put o.dst v → PV i v w'' → (i ∈ al → v = .pointer (some ⟨w.heap.size, 0, none⟩)) → Below w.heap.size w w'' → K' a' w'') →
   if Region.wanted o (yielded ops (aQ a0 ds f).tmps) = true then Oper.wp P o (aQ a0 ds f) w K' Q else K' ((aQ a0 ds f).put o.dst undef) w) : dI P ops Q a0 ds W0 PV dst mM al i :=
 fun o' ho' => by rw [ho] at ho'; cases ho'; exact h
def mY (P : Program) (ops : Array Oper) (a0 : Act) (ds : List Nat) (W0 : World) (PV : Nat → Value → World → Prop) (dst : Nat → Nat) (mM : Nat → List Nat) (i : Nat) : Prop :=
 ∀ o, ops[i]? = some o → ∀ f w, Below W0.heap.size W0 w → (∀ j, j ∈ mM i → PV j (f (dst j)) w) →
  ∃ v, PV i v w ∧ Region.wanted o (yielded ops (aQ a0 ds f).tmps) = true ∧ ∀ u, (execOp (aQ a0 ds f).eval o).run P u = .ok (.value v) u
theorem mY.of {a0 : Act} {ds : List Nat} {W0 : World} {PV : Nat → Value → World → Prop} {dst : Nat → Nat} {mM : Nat → List Nat} {i : Nat} {o : Oper} (ho : ops[i]? = some o)
  (h : ∀ f w, Below W0.heap.size W0 w → (∀ j, j ∈ mM i → PV j (f (dst j)) w) →
   ∃ v, PV i v w ∧ Region.wanted o (yielded ops (aQ a0 ds f).tmps) = true ∧ ∀ u, (execOp (aQ a0 ds f).eval o).run P u = .ok (.value v) u) : mY P ops a0 ds W0 PV dst mM i :=
 fun o' ho' => by rw [ho] at ho'; cases ho'; exact h
theorem Q_ {S : World → Prop} {a0 : Act} {ds : List Nat} {l0 lM : Array Bool} {M N E : List Nat} {F : Nat} {W0 : World} {PV : Nat → Value → World → Prop} {dst : Nat → Nat} {mM : Nat → List Nat} {al : List Nat}
  (UD : S_ ops l0 lM M N E dst mM ds = true) (hQ : ∀ c a (d : Nat) v w, Q (.panic c) (Act.put a (some d) v) w → Q (.panic c) a w)
  (hst : ∀ i v w w', Below w.heap.size w w' → PV i v w → PV i v w')
  (hal : ∀ i v w, i ∈ al → PV i v w → ∃ B, v = .pointer (some ⟨B, 0, none⟩) ∧ B < w.heap.size)
  (hS : ∀ w, Below W0.heap.size W0 w → S w)
  (hstep : KQ (dI P ops Q a0 ds W0 PV dst mM al) N) (aiQ : KQ (mY P ops a0 ds W0 PV dst mM) E) (ain : ∀ i, i ∈ E → i ∉ al)
  (hend : ∀ f w, Below W0.heap.size W0 w → (∀ i, i ∈ M → PV i (f (dst i)) w) → (∀ i j, i ∈ M → j ∈ M → i ∈ al → j ∈ al → i ≠ j → f (dst i) ≠ f (dst j)) → wpAnyH P .any ops Q S F lM (aQ a0 ds f) w) :
  ∀ (n : Nat) (U : List Nat) (listed : Array Bool) (f : Nat → Value) (w : World), U.length = n → listed.size = ops.size →
   (∀ i, i ∉ M → listed.getD i true = l0.getD i true) → (∀ i, i ∈ M → (listed.getD i true = false ↔ i ∈ U)) → (∀ i, i ∈ U → i ∈ M) → U.Nodup → Below W0.heap.size W0 w →
   (∀ i, i ∈ M → i ∉ U → PV i (f (dst i)) w) → (∀ i j, i ∈ M → j ∈ M → i ∉ U → j ∉ U → i ∈ al → j ∈ al → i ≠ j → f (dst i) ≠ f (dst j)) →
   (∀ i, i ∈ M → i ∉ U → ∀ o, ops[i]? = some o → ∀ e, e ∈ o.after → Region.binds .any e = true → e.on ∈ U → False) →
   wpAnyH P .any ops Q S (F + n) listed (aQ a0 ds f) w := by
 unfold S_ at UD
 simp only [Bool.and_eq_true, beq_iff_eq, List.all_eq_true, List.mem_range] at UD
 obtain ⟨⟨⟨⟨⟨⟨⟨⟨k1, k2⟩, k3⟩, k4⟩, k5⟩, k6⟩, k7⟩, k8⟩, k9⟩ := UD
 intro n
 induction n with
 | zero =>
  intro U listed f w hU hsz hout hin hsub hnd hb hp Zr hdc
  obtain rfl : U = [] := List.eq_nil_of_length_eq_zero hU
  have e : listed = lM := by
   apply Array.ext (by omega)
   intro i h1 h2
   have hi : i < ops.size := by omega
   have g1 : listed.getD i true = listed[i] := by simp [Array.getD_eq_getD_getElem?, h1]
   have g2 : lM.getD i true = lM[i] := by simp [Array.getD_eq_getD_getElem?, h2]
   rw [← g1, ← g2, k3 i hi]
   by_cases hm : i ∈ M
   ·
    have := hin i hm
    have h3 : M.contains i = true := by simpa using hm
    rw [h3, Bool.or_true]
    cases h4 : listed.getD i true with
    | true => rfl
    | false => exact absurd (this.1 h4) (by simp)
   ·
    have h3 : M.contains i = false := by simpa using hm
    rw [h3, Bool.or_false, hout i hm]
  rw [e]
  exact hend f w hb (fun i hi => hp i hi (by simp)) (fun i j h1 h2 => Zr i j h1 h2 (by simp) (by simp))
 | succ n ih =>
  intro U listed f w hU hsz hout hin hsub hnd hb hp Zr hdc
  have hpre : ∀ i, i ∈ U → i ∈ Region.ready .any ops listed → ∀ o, ops[i]? = some o → ∀ j, j ∈ mM i → PV j (f (dst j)) w := by
   intro i UJ hi o ho j hj
   have hm := hsub i UJ
   have h4 := k4 i hm
   rw [ho] at h4
   simp only [Bool.and_eq_true, beq_iff_eq] at h4
   obtain ⟨_, ⟨⟨hdst, hds⟩, hpr⟩, _⟩ := h4
   rw [List.all_eq_true] at hpr
   have h6 := hpr j hj
   simp only [Bool.and_eq_true] at h6
   obtain ⟨hjM, hja⟩ := h6
   have hjM : j ∈ M := by simpa using hjM
   refine hp j hjM (fun hjU => ?_)
   obtain ⟨_, o', ho', hall⟩ := mem_ready.1 hi
   rw [ho] at ho'
   cases ho'
   rw [Array.any_eq_true'] at hja
   obtain ⟨e, he, hbe⟩ := hja
   simp only [Bool.and_eq_true, beq_iff_eq] at hbe
   have h7 := hall e he hbe.1
   rw [hbe.2] at h7
   have h8 := (hin j hjM).2 hjU
   rw [Array.getD_eq_getD_getElem?] at h7 h8
   cases hx : listed[j]? with
   | none => rw [hx] at h7; simp at h7
   | some b => rw [hx] at h7 h8; simp at h7 h8; rw [h7] at h8; cases h8
  -- behind an operation of U that was ready
  have hgo : ∀ i, i ∈ U → i ∈ Region.ready .any ops listed → ∀ o, ops[i]? = some o → ∀ w'' v, PV i v w'' → (i ∈ al → v = .pointer (some ⟨w.heap.size, 0, none⟩)) → Below w.heap.size w w'' →
    wpAnyH P .any ops Q S (F + n) (listed.setIfInBounds i true) (aQ a0 ds (fun e => if e = dst i then v else f e)) w'' := by
   intro i UJ hi o ho w'' v hv hfresh hb'
   have hm := hsub i UJ
   have hdd : ∀ j, j ∈ M → j ≠ i → dst j ≠ dst i := fun j hj hne h => by
    have := k6 j hj i hm
    simp only [Bool.or_eq_true, beq_iff_eq, bne_iff_ne] at this
    rcases this with h1 | h1
    · exact hne h1
    · exact h1 h
   refine ih (U.erase i) _ _ _ (by rw [List.length_erase_of_mem UJ]; omega) (by rw [Array.size_setIfInBounds]; exact hsz) (fun j hj => ?_) (fun j hj => ?_) (fun j hj => hsub j (List.mem_of_mem_erase hj)) (hnd.erase i) (hb.trans (hb'.mono hb.size)) (fun j hj hju => ?_) (fun j l hj hl hju VI hja hla hjl => ?_) (fun j hj hju o' ho' e he hbe heU => ?_)
   ·
    have hne : i ≠ j := fun h => hj (h ▸ hm)
    rw [getD_set_ne true hne]
    exact hout j hj
   ·
    by_cases hij : i = j
    ·
     subst hij
     have hlt : i < listed.size := by rw [hsz]; exact (Array.getElem?_eq_some_iff.1 ho).1
     constructor
     ·
      intro h
      rw [Array.getD_eq_getD_getElem?, Array.getElem?_setIfInBounds] at h
      simp [hlt] at h
     ·
      intro h
      exact absurd h (List.Nodup.not_mem_erase hnd)
    ·
     rw [getD_set_ne true hij, hin j hj, List.Nodup.mem_erase_iff hnd]
     constructor
     · intro h; exact ⟨fun e => hij e.symm, h⟩
     · intro h; exact h.2
   ·
    by_cases hij : j = i
    ·
     subst hij
     simpa using hv
    ·
     have := hp j hj (fun h => hju ((List.Nodup.mem_erase_iff hnd).2 ⟨hij, h⟩))
     show PV j (if dst j = dst i then v else f (dst j)) w''
     rw [if_neg (hdd j hj hij)]
     exact hst j _ _ _ hb' this
   ·
    show (if dst j = dst i then v else f (dst j)) ≠ (if dst l = dst i then v else f (dst l))
    have hnew : ∀ k, k ∈ M → k ≠ i → k ∉ U.erase i → k ∈ al → i ∈ al → f (dst k) ≠ v := fun k hk hki hku hka hia => by
     have h1 := hp k hk (fun h => hku ((List.Nodup.mem_erase_iff hnd).2 ⟨hki, h⟩))
     obtain ⟨B, hB, hlt⟩ := hal k _ _ hka h1
     rw [hB, hfresh hia]
     intro h
     have h2 := congrArg (fun v => match v with | Value.pointer (some a) => a.block | _ => 0) h
     dsimp only at h2
     omega
    by_cases h1 : j = i
    ·
     subst h1
     rw [if_pos rfl, if_neg (hdd l hl (fun h => hjl h.symm))]
     exact fun h => hnew l hl (fun h => hjl h.symm) VI hla hja h.symm
    ·
     rw [if_neg (hdd j hj h1)]
     by_cases h2 : l = i
     ·
      subst h2
      rw [if_pos rfl]
      exact hnew j hj h1 hju hja hla
     ·
      rw [if_neg (hdd l hl h2)]
      exact Zr j l hj hl (fun h => hju ((List.Nodup.mem_erase_iff hnd).2 ⟨h1, h⟩)) (fun h => VI ((List.Nodup.mem_erase_iff hnd).2 ⟨h2, h⟩)) hja hla hjl
   ·
    have aiP : e.on ∈ U := List.mem_of_mem_erase heU
    by_cases hij : j = i
    ·
     subst hij
     obtain ⟨_, o2, ho2, hall⟩ := mem_ready.1 hi
     rw [ho'] at ho2
     cases ho2
     have h7 := hall e he hbe
     have h8 := (hin e.on (hsub _ aiP)).2 aiP
     rw [Array.getD_eq_getD_getElem?] at h7 h8
     cases hx : listed[e.on]? with
     | none => rw [hx] at h7; simp at h7
     | some b => rw [hx] at h7 h8; simp at h7 h8; rw [h7] at h8; cases h8
    · exact hdc j hj (fun h => hju ((List.Nodup.mem_erase_iff hnd).2 ⟨hij, h⟩)) o' ho' e he hbe aiP
  have agb : ∀ i, i ∈ M → ∀ o, ops[i]? = some o → o.dst = some (dst i) ∧ dst i ∈ ds := by
   intro i hm o ho
   have h4 := k4 i hm
   rw [ho] at h4
   simp only [Bool.and_eq_true, beq_iff_eq] at h4
   obtain ⟨_, ⟨⟨hdst, hds⟩, hpr⟩, _⟩ := h4
   exact ⟨hdst, by simpa using hds⟩
  by_cases hE : ∃ i, i ∈ E ∧ i ∈ U ∧ i ∈ Region.ready .any ops listed
  ·
   obtain ⟨i, hiE, UJ, hi⟩ := hE
   obtain ⟨_, o, ho, _⟩ := mem_ready.1 hi
   obtain ⟨hdst, hds⟩ := agb i (hsub i UJ) o ho
   obtain ⟨v, hv, hw, hrun⟩ := aiQ.at hiE o ho f w hb (hpre i UJ hi o ho)
   refine wpAnyH_first (v := v) ho (Region.noSelect_spec k8) (fun c a w h => hQ c a (dst i) v w (by rw [hdst] at h; exact h)) (F + n) listed _ w ?_ hi (.inl ⟨hw, fun u _ => hrun u⟩) (hS _ hb) ?_
   ·
    intro j oj hoj hne hun hno
    have h9 := (k9 i hiE).2
    rw [ho] at h9
    simp only [List.all_eq_true, List.mem_range] at h9
    have h10 := h9 j (Array.getElem?_eq_some_iff.1 hoj).1
    rw [hoj] at h10
    simp only [Bool.or_eq_true, beq_iff_eq, hne, false_or] at h10
    rcases h10 with h10 | h10 | h10
    ·
     exfalso
     rw [Array.any_eq_true'] at h10
     obtain ⟨e, he, hbe⟩ := h10
     simp only [Bool.and_eq_true, beq_iff_eq] at hbe
     obtain ⟨_, o2, ho2, hall⟩ := mem_ready.1 hi
     rw [ho] at ho2
     cases ho2
     have h11 := hall e he hbe.1
     rw [hbe.2] at h11
     rw [Array.getD_eq_getD_getElem?] at h11 hun
     cases hx : listed[j]? with
     | none => rw [hx] at h11; simp at h11
     | some b => rw [hx] at h11 hun; simp at h11 hun; rw [h11] at hun; cases hun
    ·
     exfalso
     rw [Array.any_eq_true'] at h10
     obtain ⟨e, he, hbe⟩ := h10
     simp only [Bool.and_eq_true, beq_iff_eq] at hbe
     exact hno e he hbe.1 hbe.2
    · exact h10
   ·
    rw [hdst, Ii hds]
    exact hgo i UJ hi o ho w v hv (fun h => absurd h (ain i hiE)) (Below.refl _ _)
  ·
   -- what is ready lies in U
   have aju : ∀ i, i ∈ Region.ready .any ops listed → i ∈ U := by
    intro i hi
    obtain ⟨g1, o, ho, hall⟩ := mem_ready.1 hi
    by_cases hm : i ∈ M
    · exact (hin i hm).1 g1
    ·
     exfalso
     have hlt : i < ops.size := (Array.getElem?_eq_some_iff.1 ho).1
     have h5 := k5 i hlt
     rw [hout i hm] at g1
     have h3 : M.contains i = false := by simpa using hm
     rw [g1, h3, ho] at h5
     simp only [Bool.false_or] at h5
     rw [Bool.or_eq_true] at h5
     rcases h5 with h5 | h5
     ·
      rw [Array.any_eq_true'] at h5
      obtain ⟨e, he, hbe⟩ := h5
      simp only [Bool.and_eq_true, beq_iff_eq] at hbe
      obtain ⟨hb1, hb2, hb3⟩ := hbe
      have h7 := hall e he hb1
      have hem : e.on ∉ M := by simpa using hb3
      have h8 := hout e.on hem
      rw [hb2] at h8
      rw [Array.getD_eq_getD_getElem?] at h7 h8
      cases hx : listed[e.on]? with
      | none => rw [hx] at h7; simp at h7
      | some b => rw [hx] at h7 h8; simp at h7 h8; rw [h7] at h8; cases h8
     rw [List.all_eq_true] at h5
     have hne : U ≠ [] := by intro h; rw [h] at hU; simp at hU
     have hu : U.max hne ∈ U := List.max_mem hne
     have hmax : ∀ j, j ∈ U → j ≤ U.max hne := fun j hj => List.le_max_of_mem hj
     generalize U.max hne = u at hu hmax
     have h6 := h5 u (hsub u hu)
     rw [Bool.or_eq_true, Bool.or_eq_true] at h6
     rcases h6 with (h6 | h6) | h6
     ·
      rw [Array.any_eq_true'] at h6
      obtain ⟨e, he, hbe⟩ := h6
      simp only [Bool.and_eq_true, beq_iff_eq] at hbe
      have h7 := hall e he hbe.1
      rw [hbe.2] at h7
      have h8 := (hin u (hsub u hu)).2 hu
      rw [Array.getD_eq_getD_getElem?] at h7 h8
      cases hx : listed[u]? with
      | none => rw [hx] at h7; simp at h7
      | some b => rw [hx] at h7 h8; simp at h7 h8; rw [h7] at h8; cases h8
     ·
      rw [List.any_eq_true] at h6
      obtain ⟨l, hl, h6⟩ := h6
      rw [Bool.and_eq_true] at h6
      obtain ⟨h6a, Y7⟩ := h6
      have hlt2 : u < l := by simpa using h6a
      have VI : l ∉ U := fun h => by have := hmax l h; omega
      cases hol : ops[l]? with
      | none => rw [hol] at Y7; simp at Y7
      | some o' =>
       rw [hol] at Y7
       simp only [Array.any_eq_true'] at Y7
       obtain ⟨e, he, hbe⟩ := Y7
       simp only [Bool.and_eq_true, beq_iff_eq] at hbe
       exact hdc l hl VI o' hol e he hbe.1 (hbe.2 ▸ hu)
     ·
      rw [Bool.and_eq_true] at h6
      obtain ⟨h6a, Y7⟩ := h6
      cases hou : ops[u]? with
      | none => rw [hou] at Y7; simp at Y7
      | some ou =>
       rw [hou] at Y7
       simp only [Array.all_eq_true_iff_forall_mem] at Y7
       refine hE ⟨u, by simpa using h6a, hu, mem_ready.2 ⟨(hin u (hsub u hu)).2 hu, ou, hou, fun e he hbe => ?_⟩⟩
       have h7 := Y7 e he
       rw [hbe] at h7
       simp only [Bool.not_true, Bool.false_or, Bool.or_eq_true] at h7
       rcases h7 with h7 | h7
       ·
        by_cases hem : e.on ∈ M
        ·
         exfalso
         have h9 := (k4 e.on hem).1
         rw [Array.getD_eq_getD_getElem?] at h7 h9
         cases hx : l0[e.on]? with
         | none => rw [hx] at h7; simp at h7
         | some b => rw [hx] at h7 h9; simp at h7 h9; rw [h7] at h9; cases h9
        ·
         have h13 : l0.getD e.on true = true ∧ e.on < l0.size := by
          rw [Array.getD_eq_getD_getElem?] at h7 ⊢
          cases hx : l0[e.on]? with
          | none => rw [hx] at h7; simp at h7
          | some b => rw [hx] at h7; exact ⟨by simpa using h7, (Array.getElem?_eq_some_iff.1 hx).1⟩
         have h14 := hout e.on hem
         rw [h13.1] at h14
         rw [Array.getD_eq_getD_getElem?] at h14 ⊢
         have h15 : e.on < listed.size := by omega
         rw [Array.getElem?_eq_getElem h15] at h14 ⊢
         simpa using h14
       ·
        rw [Array.any_eq_true'] at h7
        obtain ⟨e', he', aiO⟩ := h7
        simp only [Bool.and_eq_true, beq_iff_eq] at aiO
        have h8 := hall e' he' aiO.1
        rw [aiO.2] at h8
        exact h8
   -- something is ready: the least of U
   have hmin : ∃ i, i ∈ U ∧ ∀ j, j ∈ U → i ≤ j := by
    have hne : U ≠ [] := by intro h; rw [h] at hU; simp at hU
    refine ⟨U.min hne, List.min_mem hne, fun j hj => List.min_le_of_mem hj⟩
   have hsome : Region.ready .any ops listed ≠ [] := by
    obtain ⟨i, hi, hle⟩ := hmin
    have hm := hsub i hi
    have h4 := k4 i hm
    cases ho : ops[i]? with
    | none => rw [ho] at h4; simp at h4
    | some o =>
     rw [ho] at h4
     simp only [Bool.and_eq_true, beq_iff_eq] at h4
     obtain ⟨_, ⟨⟨_, _⟩, _⟩, h7⟩ := h4
     have : i ∈ Region.ready .any ops listed := by
      rw [mem_ready]
      refine ⟨(hin i hm).2 hi, o, ho, fun e he hbe => ?_⟩
      rw [Array.all_eq_true_iff_forall_mem] at h7
      have h8 := h7 e he
      rw [hbe] at h8
      simp only [Bool.not_true, Bool.false_or, Bool.or_eq_true, Bool.and_eq_true] at h8
      have hgd : listed.getD e.on true = true → listed.getD e.on false = true ∨ ops.size ≤ e.on := fun h => by
       rw [Array.getD_eq_getD_getElem?] at h ⊢
       cases hx : listed[e.on]? with
       | none => right; have := Array.getElem?_eq_none_iff.1 hx; omega
       | some b => left; rw [hx] at h; simpa using h
      by_cases hem : e.on ∈ M
      ·
       have hlt : e.on < i := by
        rcases h8 with h8 | h8
        ·
         exfalso
         have h9 := k4 e.on hem
         have h10 := h9.1
         rw [Array.getD_eq_getD_getElem?] at h8 h10
         cases hx : l0[e.on]? with
         | none => rw [hx] at h8; simp at h8
         | some b => rw [hx] at h8 h10; simp at h8 h10; rw [h8] at h10; cases h10
        · simpa using h8.2
       have hnu : e.on ∉ U := fun h => by have := hle _ h; omega
       have h11 : listed.getD e.on true = true := by
        cases h12 : listed.getD e.on true with
        | true => rfl
        | false => exact absurd ((hin e.on hem).1 h12) hnu
       rcases hgd h11 with h | h
       · exact h
       ·
        exfalso
        have := k4 e.on hem
        rw [Array.getElem?_eq_none h] at this
        simp at this
      ·
       rcases h8 with h8 | h8
       ·
        have h13 : l0.getD e.on true = true := by
         rw [Array.getD_eq_getD_getElem?] at h8 ⊢
         cases hx : l0[e.on]? with
         | none => rfl
         | some b => rw [hx] at h8; simpa using h8
        have h14 := hout e.on hem
        rw [h13] at h14
        rcases hgd h14 with h | h
        · exact h
        ·
         exfalso
         rw [Array.getD_eq_getD_getElem?, Array.getElem?_eq_none (by omega)] at h8
         simp at h8
       · exact absurd (by simpa using h8.1) hem
     intro h
     rw [h] at this
     cases this
   refine ⟨fun h => absurd h hsome, fun i hi => ?_⟩
   have UJ := aju i hi
   have hm := hsub i UJ
   obtain ⟨_, o, ho, _⟩ := mem_ready.1 hi
   obtain ⟨hdst, hds⟩ := agb i hm o ho
   refine wpOp_step ho (fun K' hK => ?_)
   have hiN : i ∈ N := by
    have := k7 i hm
    rw [Bool.or_eq_true] at this
    rcases this with h | h
    · simpa using h
    · exact absurd ⟨i, by simpa using h, UJ, hi⟩ hE
   refine hstep.at hiN o ho f w hb (hpre i UJ hi o ho) K' ?_
   intro a' w'' v ha' hv hfresh hb'
   refine hK _ _ ⟨hS _ (hb.trans (hb'.mono hb.size)), ?_⟩
   rw [ha', hdst, Ii hds]
   exact hgo i UJ hi o ho w'' v hv hfresh hb'
end
section
variable {P : Program} {ops : Array Oper} {Q : Exit → Act → World → Prop}
def Bz : List (Nat × (Value → World → Prop)) → Nat → Value → World → Prop
 | [], _ => fun _ _ => True
 | (j, p) :: l, i => if i = j then p else Bz l i
def StV : List (Nat × (Value → World → Prop)) → Prop
 | [] => True
 | (_, p) :: l => (∀ v w w', Below w.heap.size w w' → p v w → p v w') ∧ StV l
theorem StV.st : ∀ {l : List (Nat × (Value → World → Prop))}, StV l → ∀ i v w w', Below w.heap.size w w' → Bz l i v w → Bz l i v w'
 | [], _, _, _, _, _, _, _ => trivial
 | (j, p) :: l, h, i, v, w, w', hb, hp => by
  unfold Bz at hp ⊢
  split
  · rename_i he; rw [if_pos he] at hp; exact h.1 v w w' hb hp
  · rename_i he; rw [if_neg he] at hp; exact h.2.st i v w w' hb hp
def FX : List (Nat × Nat) → Nat → Nat
 | [], _ => 0
 | (j, d) :: l, i => if i = j then d else FX l i
def SV : List (Nat × List Nat) → Nat → List Nat
 | [], _ => []
 | (j, d) :: l, i => if i = j then d else SV l i
theorem dY {S : World → Prop} {a : Act} {w : World} {fuel : Nat} {l0 : Array Bool} (M N E ds : List Nat) (lM : Array Bool) (F : Nat) (dst : List (Nat × Nat)) (mM : List (Nat × List Nat)) (al : List Nat) (pv : List (Nat × (Value → World → Prop)))
  (hf : fuel = F + M.length) (UD : S_ ops l0 lM M N E (FX dst) (SV mM) ds = true) (hnd : M.Nodup) (hsz : l0.size = ops.size) (hst : StV pv)
  (hal : KQ (fun i => ∀ v w, Bz pv i v w → ∃ B, v = .pointer (some ⟨B, 0, none⟩) ∧ B < w.heap.size) al)
  (hS : ∀ w', Below w.heap.size w w' → S w')
  (hstep : KQ (dI P ops Q a ds w (Bz pv) (FX dst) (SV mM) al) N) (aiQ : KQ (mY P ops a ds w (Bz pv) (FX dst) (SV mM)) E) (ain : ∀ i, i ∈ E → i ∉ al)
  (hend : ∀ f w', Below w.heap.size w w' → (∀ i, i ∈ M → Bz pv i (f (FX dst i)) w') → (∀ i j, i ∈ M → j ∈ M → i ∈ al → j ∈ al → i ≠ j → f (FX dst i) ≠ f (FX dst j)) → wpAnyH P .any ops Q S F lM (aQ a ds f) w') (hQ : ∀ c a (d : Nat) v w, Q (.panic c) (Act.put a (some d) v) w → Q (.panic c) a w := by exact fun _ _ _ _ _ h => h) :
  wpAnyH P .any ops Q S fuel l0 a w := by
 have k4 : ∀ i, i ∈ M → l0.getD i true = false := fun i hi => by
  have h := UD
  unfold S_ at h
  simp only [Bool.and_eq_true, beq_iff_eq, List.all_eq_true] at h
  exact (h.1.1.1.1.1.2 i hi).1
 have h := Q_ UD hQ hst.st (fun i v w hi h => hal.at hi v w h) hS hstep aiQ ain hend M.length M l0 (fun d => a.tmps.getD d undef) w rfl hsz (fun _ _ => rfl) (fun i hi => ⟨fun _ => hi, fun _ => k4 i hi⟩) (fun _ h => h) hnd (Below.refl _ _) (fun i hi hn => absurd hi hn) (fun i j hi _ hn => absurd hi hn) (fun i hi hn => absurd hi hn)
 rw [Y0] at h
 rw [hf]
 exact h
end
theorem Sx.ku {w0 w : World} {bs : List Bx} {fs : List Fx} (h : Sx w0 w bs fs) {B T : Nat} {cs : Array Value} (hB : w.heap[B]? = some (.cells cs T (0, 0))) (h1 : w0.heap.size ≤ B) (hp : cs.toList.all ni = true) (hn : ∀ b, b ∈ bs → b.1 ≠ B) : Sx w0 w ((B, cs, T) :: bs) fs := by
 refine ⟨h.bel, fun i b hi => ?_, ?_, h.B_⟩
 ·
  match i, hi with
  | 0, hi => simp at hi; subst hi; exact ⟨hB, h1, hp⟩
  | i + 1, hi => exact h.box i b (by simpa using hi)
 ·
  rw [List.map_cons, List.nodup_cons]
  refine ⟨fun hm => ?_, h.Qm⟩
  obtain ⟨b, hb1, hb2⟩ := List.mem_map.1 hm
  exact hn b hb1 hb2
theorem Sx.lt {w0 w : World} {bs : List Bx} {fs : List Fx} (h : Sx w0 w bs fs) : ∀ b, b ∈ bs → b.1 < w.heap.size := fun b hb => by
 obtain ⟨i, hi⟩ := List.mem_iff_getElem?.1 hb
 exact ai (h.box i b hi).1
theorem aq3 (a b c d : Rat) : bz uP (fun i => [a, b, c, d].getD i 0) 3 = rW (rW a b) (rW c d) := by
 unfold bz bz bz bz rW uP dN
 simp only [List.getD, List.getElem?_cons_succ, List.getElem?_cons_zero, Option.getD_some]
 grind
theorem hi22 (a b c d : Rat) : bz sD (fun i => [a, b, c, d].getD i 0) 3 = qU (qU a b) (qU c d) := by
 unfold bz bz bz bz qU sD dN
 simp only [List.getD, List.getElem?_cons_succ, List.getElem?_cons_zero, Option.getD_some]
 grind
theorem lo2 (a b : Rat) : bz uP (fun i => [a, b].getD i 0) 1 = rW a b := by
 unfold bz bz rW uP dN
 simp only [List.getD, List.getElem?_cons_succ, List.getElem?_cons_zero, Option.getD_some]
 grind
theorem hi2 (a b : Rat) : bz sD (fun i => [a, b].getD i 0) 1 = qU a b := by
 unfold bz bz qU sD dN
 simp only [List.getD, List.getElem?_cons_succ, List.getElem?_cons_zero, Option.getD_some]
 grind
theorem Ld (a b c d : Rat) (v : Value) (w : World) (h : nS aA w v [a, b, c, d]) (s1 : bQ a 100000000000) (s2 : bQ b 100000000000) (s3 : bQ c 100000000000) (s4 : bQ d 100000000000) :
  Calls Tryz.prog 19 #[v] w (iK (rW (rW a b) (rW c d)) (qU (qU a b) (qU c d)) w) := by
 have := Dz [a, b, c, d] v w h (by simp) (by simp) (get4 (P := fun x => bQ x 274877906944) (h_ _ (by omega)) (aj s1 (by omega)) (aj s2 (by omega)) (aj s3 (by omega)) (aj s4 (by omega)))
 rw [show [a, b, c, d].length - 1 = 3 from rfl, aq3, hi22] at this
 exact this
theorem Qa {a b : Rat} {k : Nat} (h1 : bQ a k) (h2 : bQ b k) : bQ (rW a b) k := by unfold rW; split <;> assumption
theorem PS {a b : Rat} {k : Nat} (h1 : bQ a k) (h2 : bQ b k) : bQ (qU a b) k := by unfold qU; split <;> assumption
theorem NS (a b c d : Rat) (vx vy : Value) (w : World) (hx : cZ w vx a b) (hy : cZ w vy c d) (sa : bQ a 1000000000) (sb : bQ b 1000000000) (sc : bQ c 1000000000) (sd : bQ d 1000000000) :
  Calls Tryz.prog 50 #[vx, vy] w (iK (a + c) (b + d) w) := by
 obtain ⟨x1, x2, rfl, h1, h2⟩ := hx
 obtain ⟨y1, y2, rfl, h3, h4⟩ := hy
 have HS := ae (((((Sx.init w).az h1).az h2).az h3).az h4)
 have Sa := ae sa
 have Sb := ae sb
 have Sc := ae sc
 have Sd := ae sd
 clear h1 h2 h3 h4 sa sb sc sd
 go_enter Tryz.func50, Tryz.ntmps50
 go_wp2_with fail
 generalize hW1 : (((w).alloc (.cells _ _)).alloc (.cells _ _)).alloc (.cells _ _) = W1 at *
 replace HS : Hid (Sx w W1 [(w.heap.size + 2, #[.bool false, .slice none 0 0, .slice none 0 0, .bool false, .slice none 0 0, .slice none 0 0], 43), (w.heap.size + 1, aY y1 y2, 43), (w.heap.size, aY x1 x2, 43)] [(true, y2.val, d), (true, y1.val, c), (true, x2.val, b), (true, x1.val, a)]) := by subst hW1; exact (((HS.out).alloc (B := w.heap.size) rfl (by rfl)).alloc (B := w.heap.size + 1) (by simp) (by rfl)).alloc (B := w.heap.size + 2) (by simp) (by rfl)
 clear hW1
 refine wp_region_held_drew (S := (fun w' => Sx w w' [(w.heap.size + 1, aY y1 y2, 43), (w.heap.size, aY x1 x2, 43)] [])) (by kernel_rfl) ((HS.out.drew).erase 0) (fun hh => ?_)
 replace HS := ae HS.out.drew
 refine bW (i := 0) (v := ?IQ) rfl (Or.inl ⟨by first | rfl | kernel_rfl, ?qK⟩) (by assumption) ?Gj
 case qK => (intro u aH; (go_simp <;> with_reducible rfl))
 try simp only [ag]
 refine bW (i := 1) (v := ?IU) rfl (Or.inl ⟨by first | rfl | kernel_rfl, ?qL⟩) (by assumption) ?Gl
 case qL => (intro u aH; (try dsimp only at aH); obtain ⟨kH, kJ, kK, qN, ru, ry, _⟩ := dO (x := x1) (y := x2) (aH.at 1 _ _ _ rfl); clear aH; (go_simp <;> with_reducible rfl))
 try simp only [ag]
 refine bW (i := 2) (v := ?Vw) rfl (Or.inl ⟨by first | rfl | kernel_rfl, ?yY⟩) (by assumption) ?QQ
 case yY => (intro u aH; (go_simp <;> with_reducible rfl))
 try simp only [ag]
 refine bW (i := 3) (v := ?Q4) rfl (Or.inl ⟨by first | rfl | kernel_rfl, ?wQ⟩) (by assumption) ?NZ
 case wQ => (intro u aH; (try dsimp only at aH); obtain ⟨rC, rD, rE, xw, xx, xy, _⟩ := dO (x := y1) (y := y2) (aH.at 0 _ _ _ rfl); clear aH; (go_simp <;> with_reducible rfl))
 try simp only [ag]
 refine bW (i := 5) (v := ?Q5) rfl (Or.inl ⟨by first | rfl | kernel_rfl, ?wR⟩) (by assumption) ?N7
 case wR => (intro u aH; (go_simp <;> with_reducible rfl))
 try simp only [ag]
 refine bW (i := 6) (v := ?Q7) rfl (Or.inl ⟨by first | rfl | kernel_rfl, ?wS⟩) (by assumption) ?N8
 case wS => (intro u aH; (try dsimp only at aH); obtain ⟨kH, kJ, kK, qN, ru, ry, _⟩ := dO (x := x1) (y := x2) (aH.at 1 _ _ _ rfl); clear aH; (go_simp <;> with_reducible rfl))
 try simp only [ag]
 refine bW (i := 7) (v := ?Q8) rfl (Or.inl ⟨by first | rfl | kernel_rfl, ?wU⟩) (by assumption) ?N9
 case wU => (intro u aH; (go_simp <;> with_reducible rfl))
 try simp only [ag]
 refine bW (i := 8) (v := ?Q9) rfl (Or.inl ⟨by first | rfl | kernel_rfl, ?wV⟩) (by assumption) ?N_
 case wV => (intro u aH; (try dsimp only at aH); obtain ⟨rC, rD, rE, xw, xx, xy, _⟩ := dO (x := y1) (y := y2) (aH.at 0 _ _ _ rfl); clear aH; (go_simp <;> with_reducible rfl))
 try simp only [ag]
 refine rdA (i := 4) rfl (fun K hK => ?_)
 go_simp
 have a20 := HS.out.p 3 _ _ rfl
 have a21 := HS.out.p 1 _ _ rfl
 go_wp2_with (go_at_call 33; (with_reducible refine (lS a c _ _ _ a20 a21 (aj Sa.out (by omega)) (aj Sc.out (by omega))).mono ?_); rintro e w19 ⟨v19, rfl, GI, Ju⟩; obtain ⟨zo, rfl⟩ := GI.bn)
 refine hK.out _ _ (Sx.below hh Ju) (fun hh => ?_)
 clear hK K
 try simp only [ag]
 replace HS := ae (HS.out.below Ju)
 clear Ju a20 a21
 replace HS := ae (HS.out.az GI)
 clear GI
 refine rdA (i := 9) rfl (fun K hK => ?_)
 go_simp
 have a23 := HS.out.p 3 _ _ rfl
 have a24 := HS.out.p 1 _ _ rfl
 go_wp2_with (go_at_call 33; (with_reducible refine (lS b d _ _ _ a23 a24 (aj Sb.out (by omega)) (aj Sd.out (by omega))).mono ?_); rintro e w22 ⟨v22, rfl, EL, EH⟩; obtain ⟨z22, rfl⟩ := EL.bn)
 refine hK.out _ _ (Sx.below hh EH) (fun hh => ?_)
 clear hK K
 try simp only [ag]
 replace HS := ae (HS.out.below EH)
 clear EH a23 a24
 replace HS := ae (HS.out.az EL)
 clear EL
 refine bW (i := 10) (v := ?ag2) rfl (Or.inl ⟨by first | rfl | kernel_rfl, ?JG⟩) (by assumption) ?afb
 case JG => (intro u aH; (go_simp <;> with_reducible rfl))
 try simp only [ag]
 refine rdA (i := 11) rfl (fun K hK => ?_)
 have jf := (HS.out.at 0 _ _ _ rfl)
 have jJ := af jf 0 (.bool false) rfl
 have lV := af jf 1 (.slice none 0 0) rfl
 have lW := af jf 2 (.slice none 0 0) rfl
 have qC := af jf 3 (.bool false) rfl
 have qE := af jf 4 (.slice none 0 0) rfl
 have qF := af jf 5 (.slice none 0 0) rfl
 have kP := ah jf 0
 have pz := ah jf 1
 have pF := ah jf 2
 have vM := ah jf 3
 have vN := ah jf 4
 have vO := ah jf 5
 have vS := ai jf
 clear jf
 go_simp
 refine hK.out _ _ ((((HS.out).gp 0 dQ dQ zo z22 rfl)).erase 0) (fun hh => ?_)
 clear hK K jJ lV lW qC qE qF kP pz pF vM vN vO vS
 try simp only [ag]
 generalize al2 : ((((((w22).setCell _ _).setCell _ _).setCell _ _).setCell _ _).setCell _ _).setCell _ _ = W27 at *
 replace HS : Hid (Sx w W27 [(w.heap.size + 2, aY zo z22, 43), (w.heap.size + 1, aY y1 y2, 43), (w.heap.size, aY x1 x2, 43)] [(true, z22.val, (b + d)), (true, zo.val, (a + c)), (true, y2.val, d), (true, y1.val, c), (true, x2.val, b), (true, x1.val, a)]) := by subst al2; exact (HS.out).gp 0 dQ dQ zo z22 rfl
 clear al2
 refine wpAnyH_done (by kernel_rfl) ?_ _
 obtain ⟨jJ, lV, lW, qC, qE, qF, kP, pz, pF, vM, vN, vO⟩ := dO (x := zo) (y := z22) (HS.out.at 0 _ _ _ rfl)
 have vS := ai (HS.out.at 0 _ _ _ rfl)
 go_wp2_with fail
 clear jJ lV lW qC qE qF kP pz pF vM vN vO vS
 obtain ⟨jJ, lV, lW, qC, qE, qF, _⟩ := dO (x := zo) (y := z22) (HS.out.at 0 _ _ _ rfl)
 refine bodyPost_ret (v := .agg #[.bool zo.b, .slice zo.a zo.n zo.c, .slice zo.d zo.m zo.e, .bool z22.b, .slice z22.a z22.n z22.c, .slice z22.d z22.m z22.e]) (by simp [results, Tryz.results50, go_sem, jJ, lV, lW, qC, qE, qF]) rfl ⟨_, rfl, (gB (HS.out.p 1 _ _ rfl) (HS.out.p 0 _ _ rfl)), HS.out.bel⟩
theorem ab6 (a b c d : Rat) (vx vy : Value) (w : World) (hx : cZ w vx a b) (hy : cZ w vy c d) (sa : bQ a 1000000000) (sb : bQ b 1000000000) (sc : bQ c 1000000000) (sd : bQ d 1000000000) :
  Calls Tryz.prog 49 #[vx, vy] w (iK (rW (rW (a * c) (a * d)) (rW (b * c) (b * d))) (qU (qU (a * c) (a * d)) (qU (b * c) (b * d))) w) := by
 obtain ⟨x1, x2, rfl, h1, h2⟩ := hx
 obtain ⟨y1, y2, rfl, h3, h4⟩ := hy
 have HS := ae (((((Sx.init w).az h1).az h2).az h3).az h4)
 have Sa := ae sa
 have Sb := ae sb
 have Sc := ae sc
 have Sd := ae sd
 clear h1 h2 h3 h4 sa sb sc sd
 go_enter Tryz.func49, Tryz.ntmps49
 go_wp2_with fail
 generalize hW1 : (((w).alloc (.cells _ _)).alloc (.cells _ _)).alloc (.cells _ _) = W1 at *
 replace HS : Hid (Sx w W1 [(w.heap.size + 2, #[.bool false, .slice none 0 0, .slice none 0 0, .bool false, .slice none 0 0, .slice none 0 0], 43), (w.heap.size + 1, aY y1 y2, 43), (w.heap.size, aY x1 x2, 43)] [(true, y2.val, d), (true, y1.val, c), (true, x2.val, b), (true, x1.val, a)]) := by subst hW1; exact (((HS.out).alloc (B := w.heap.size) rfl (by rfl)).alloc (B := w.heap.size + 1) (by simp) (by rfl)).alloc (B := w.heap.size + 2) (by simp) (by rfl)
 clear hW1
 refine wp_region_held_drew (S := (fun w' => Sx w w' [(w.heap.size + 1, aY y1 y2, 43), (w.heap.size, aY x1 x2, 43)] [])) (by kernel_rfl) ((HS.out.drew).erase 0) (fun hh => ?_)
 replace HS := ae HS.out.drew
 have BM := ae HS.out.bel.size
 refine bW (i := 0) (v := ?IQ) rfl (Or.inl ⟨by first | rfl | kernel_rfl, ?qK⟩) (by assumption) ?Gj
 case qK => (intro u aH; (go_simp <;> with_reducible rfl))
 try simp only [ag]
 refine bW (i := 1) (v := ?IU) rfl (Or.inl ⟨by first | rfl | kernel_rfl, ?qL⟩) (by assumption) ?Gl
 case qL => (intro u aH; (try dsimp only at aH); obtain ⟨kH, kJ, kK, qN, ru, ry, _⟩ := dO (x := x1) (y := x2) (aH.at 1 _ _ _ rfl); clear aH; (go_simp <;> with_reducible rfl))
 try simp only [ag]
 refine bW (i := 2) (v := ?Vw) rfl (Or.inl ⟨by first | rfl | kernel_rfl, ?yY⟩) (by assumption) ?QQ
 case yY => (intro u aH; (go_simp <;> with_reducible rfl))
 try simp only [ag]
 refine bW (i := 3) (v := ?Q4) rfl (Or.inl ⟨by first | rfl | kernel_rfl, ?wQ⟩) (by assumption) ?NZ
 case wQ => (intro u aH; (try dsimp only at aH); obtain ⟨rC, rD, rE, xw, xx, xy, _⟩ := dO (x := y1) (y := y2) (aH.at 0 _ _ _ rfl); clear aH; (go_simp <;> with_reducible rfl))
 try simp only [ag]
 refine bW (i := 5) (v := ?Q5) rfl (Or.inl ⟨by first | rfl | kernel_rfl, ?wR⟩) (by assumption) ?N7
 case wR => (intro u aH; (go_simp <;> with_reducible rfl))
 try simp only [ag]
 refine bW (i := 6) (v := ?Q7) rfl (Or.inl ⟨by first | rfl | kernel_rfl, ?wS⟩) (by assumption) ?N8
 case wS => (intro u aH; (try dsimp only at aH); obtain ⟨kH, kJ, kK, qN, ru, ry, _⟩ := dO (x := x1) (y := x2) (aH.at 1 _ _ _ rfl); clear aH; (go_simp <;> with_reducible rfl))
 try simp only [ag]
 refine bW (i := 7) (v := ?Q8) rfl (Or.inl ⟨by first | rfl | kernel_rfl, ?wU⟩) (by assumption) ?N9
 case wU => (intro u aH; (go_simp <;> with_reducible rfl))
 try simp only [ag]
 refine bW (i := 8) (v := ?Q9) rfl (Or.inl ⟨by first | rfl | kernel_rfl, ?wV⟩) (by assumption) ?N_
 case wV => (intro u aH; (try dsimp only at aH); obtain ⟨rC, rD, rE, xw, xx, xy, _⟩ := dO (x := y1) (y := y2) (aH.at 0 _ _ _ rfl); clear aH; (go_simp <;> with_reducible rfl))
 try simp only [ag]
 refine bW (i := 10) (v := ?ag1) rfl (Or.inl ⟨by first | rfl | kernel_rfl, ?JF⟩) (by assumption) ?afa
 case JF => (intro u aH; (go_simp <;> with_reducible rfl))
 try simp only [ag]
 refine bW (i := 11) (v := ?ag3) rfl (Or.inl ⟨by first | rfl | kernel_rfl, ?JH⟩) (by assumption) ?afc
 case JH => (intro u aH; (try dsimp only at aH); obtain ⟨kH, kJ, kK, qN, ru, ry, _⟩ := dO (x := x1) (y := x2) (aH.at 1 _ _ _ rfl); clear aH; (go_simp <;> with_reducible rfl))
 try simp only [ag]
 refine bW (i := 12) (v := ?ag4) rfl (Or.inl ⟨by first | rfl | kernel_rfl, ?JI⟩) (by assumption) ?afd
 case JI => (intro u aH; (go_simp <;> with_reducible rfl))
 try simp only [ag]
 refine bW (i := 13) (v := ?ag5) rfl (Or.inl ⟨by first | rfl | kernel_rfl, ?JJ⟩) (by assumption) ?afe
 case JJ => (intro u aH; (try dsimp only at aH); obtain ⟨rC, rD, rE, xw, xx, xy, _⟩ := dO (x := y1) (y := y2) (aH.at 0 _ _ _ rfl); clear aH; (go_simp <;> with_reducible rfl))
 try simp only [ag]
 refine bW (i := 15) (v := ?ag6) rfl (Or.inl ⟨by first | rfl | kernel_rfl, ?JK⟩) (by assumption) ?aff
 case JK => (intro u aH; (go_simp <;> with_reducible rfl))
 try simp only [ag]
 refine bW (i := 16) (v := ?ag7) rfl (Or.inl ⟨by first | rfl | kernel_rfl, ?JL⟩) (by assumption) ?afg
 case JL => (intro u aH; (try dsimp only at aH); obtain ⟨kH, kJ, kK, qN, ru, ry, _⟩ := dO (x := x1) (y := x2) (aH.at 1 _ _ _ rfl); clear aH; (go_simp <;> with_reducible rfl))
 try simp only [ag]
 refine bW (i := 17) (v := ?ag8) rfl (Or.inl ⟨by first | rfl | kernel_rfl, ?JM⟩) (by assumption) ?afh
 case JM => (intro u aH; (go_simp <;> with_reducible rfl))
 try simp only [ag]
 refine bW (i := 18) (v := ?ag9) rfl (Or.inl ⟨by first | rfl | kernel_rfl, ?JO⟩) (by assumption) ?afi
 case JO => (intro u aH; (try dsimp only at aH); obtain ⟨rC, rD, rE, xw, xx, xy, _⟩ := dO (x := y1) (y := y2) (aH.at 0 _ _ _ rfl); clear aH; (go_simp <;> with_reducible rfl))
 try simp only [ag]
 refine rdA (i := 4) rfl (fun K hK => ?_)
 go_simp
 have a36 := HS.out.p 3 _ _ rfl
 have a37 := HS.out.p 1 _ _ rfl
 go_wp2_with (go_at_call 34; (with_reducible refine (kQ a c _ _ _ a36 a37 (aj Sa.out (by omega)) (aj Sc.out (by omega))).mono ?_); rintro e w35 ⟨v35, rfl, UO, Zn⟩; obtain ⟨z35, rfl⟩ := UO.bn)
 refine hK.out _ _ (Sx.below hh Zn) (fun hh => ?_)
 clear hK K
 try simp only [ag]
 replace HS := ae (HS.out.below Zn)
 clear Zn a36 a37
 replace HS := ae (HS.out.az UO)
 clear UO
 refine rdA (i := 9) rfl (fun K hK => ?_)
 go_simp
 have a39 := HS.out.p 4 _ _ rfl
 have a40 := HS.out.p 1 _ _ rfl
 go_wp2_with (go_at_call 34; (with_reducible refine (kQ a d _ _ _ a39 a40 (aj Sa.out (by omega)) (aj Sd.out (by omega))).mono ?_); rintro e w38 ⟨v38, rfl, hv38, aiJ⟩; obtain ⟨z38, rfl⟩ := hv38.bn)
 refine hK.out _ _ (Sx.below hh aiJ) (fun hh => ?_)
 clear hK K
 try simp only [ag]
 replace HS := ae (HS.out.below aiJ)
 clear aiJ a39 a40
 replace HS := ae (HS.out.az hv38)
 clear hv38
 refine rdA (i := 14) rfl (fun K hK => ?_)
 go_simp
 have a42 := HS.out.p 4 _ _ rfl
 have a43 := HS.out.p 3 _ _ rfl
 go_wp2_with (go_at_call 34; (with_reducible refine (kQ b c _ _ _ a42 a43 (aj Sb.out (by omega)) (aj Sc.out (by omega))).mono ?_); rintro e w41 ⟨v41, rfl, ajx, aiL⟩; obtain ⟨z41, rfl⟩ := ajx.bn)
 refine hK.out _ _ (Sx.below hh aiL) (fun hh => ?_)
 clear hK K
 try simp only [ag]
 replace HS := ae (HS.out.below aiL)
 clear aiL a42 a43
 replace HS := ae (HS.out.az ajx)
 clear ajx
 refine rdA (i := 19) rfl (fun K hK => ?_)
 go_simp
 have a45 := HS.out.p 5 _ _ rfl
 have a46 := HS.out.p 3 _ _ rfl
 go_wp2_with (go_at_call 34; (with_reducible refine (kQ b d _ _ _ a45 a46 (aj Sb.out (by omega)) (aj Sd.out (by omega))).mono ?_); rintro e w44 ⟨v44, rfl, UQ, Zo⟩; obtain ⟨z44, rfl⟩ := UQ.bn)
 refine hK.out _ _ (Sx.below hh Zo) (fun hh => ?_)
 clear hK K
 try simp only [ag]
 replace HS := ae (HS.out.below Zo)
 clear Zo a45 a46
 replace HS := ae (HS.out.az UQ)
 clear UQ
 refine rdA (i := 20) rfl (fun K hK => ?_)
 go_simp
 refine hK.out _ _ (Sx.below hh ((Below.refl _ _).alloc (Nat.le_refl _) _)) (fun hh => ?_)
 clear hK K
 try simp only [ag]
 generalize al6 : (w44).alloc (.cells _ _) = W47 at *
 replace HS : Hid (Sx w W47 [(w44.heap.size, #[.bool z35.b, .slice z35.a z35.n z35.c, .slice z35.d z35.m z35.e, .bool z38.b, .slice z38.a z38.n z38.c, .slice z38.d z38.m z38.e, .bool z41.b, .slice z41.a z41.n z41.c, .slice z41.d z41.m z41.e, .bool z44.b, .slice z44.a z44.n z44.c, .slice z44.d z44.m z44.e], 40), (w.heap.size + 2, #[.bool false, .slice none 0 0, .slice none 0 0, .bool false, .slice none 0 0, .slice none 0 0], 43), (w.heap.size + 1, aY y1 y2, 43), (w.heap.size, aY x1 x2, 43)] [(true, z44.val, (b * d)), (true, z41.val, (b * c)), (true, z38.val, (a * d)), (true, z35.val, (a * c)), (true, y2.val, d), (true, y1.val, c), (true, x2.val, b), (true, x1.val, a)]) := by subst al6; exact HS.out.alloc (B := w44.heap.size) rfl (by rfl)
 clear al6
 refine rdA (i := 21) rfl (fun K hK => ?_)
 go_simp
 have a49 := HS.out.p 3 _ _ rfl
 have a50 := HS.out.p 2 _ _ rfl
 have a51 := HS.out.p 1 _ _ rfl
 have a52 := HS.out.p 0 _ _ rfl
 go_wp2_with (go_at_call 19; (with_reducible refine (Ld (a * c) (a * d) (b * c) (b * d) _ _ (Y1 (HS.out.at 0 _ _ _ rfl) a49 a50 a51 a52) (aj (gZ Sa.out Sc.out) (by omega)) (aj (gZ Sa.out Sd.out) (by omega)) (aj (gZ Sb.out Sc.out) (by omega)) (aj (gZ Sb.out Sd.out) (by omega))).mono ?_); rintro e w48 ⟨v48, rfl, ⟨Bd, Bf, rfl, ana, ano⟩, hb48⟩)
 refine hK.out _ _ (Sx.below hh hb48) (fun hh => ?_)
 clear hK K
 try simp only [ag]
 replace HS := ae (HS.out.below hb48)
 clear hb48 a49 a50 a51 a52
 replace HS := ae (HS.out.az ana)
 clear ana
 replace HS := ae (HS.out.az ano)
 clear ano
 refine rdA (i := 22) rfl (fun K hK => ?_)
 have jf := (HS.out.at 1 _ _ _ rfl)
 have jJ := af jf 0 (.bool false) rfl
 have lV := af jf 1 (.slice none 0 0) rfl
 have lW := af jf 2 (.slice none 0 0) rfl
 have qC := af jf 3 (.bool false) rfl
 have qE := af jf 4 (.slice none 0 0) rfl
 have qF := af jf 5 (.slice none 0 0) rfl
 have kP := ah jf 0
 have pz := ah jf 1
 have pF := ah jf 2
 have vM := ah jf 3
 have vN := ah jf 4
 have vO := ah jf 5
 have vS := ai jf
 clear jf
 go_simp
 refine hK.out _ _ ((((((HS.out).gp 1 dQ dQ Bd Bf rfl)).erase 1)).erase 0) (fun hh => ?_)
 clear hK K jJ lV lW qC qE qF kP pz pF vM vN vO vS
 try simp only [ag]
 generalize al7 : ((((((w48).setCell _ _).setCell _ _).setCell _ _).setCell _ _).setCell _ _).setCell _ _ = W53 at *
 replace HS : Hid (Sx w W53 [(w44.heap.size, #[.bool z35.b, .slice z35.a z35.n z35.c, .slice z35.d z35.m z35.e, .bool z38.b, .slice z38.a z38.n z38.c, .slice z38.d z38.m z38.e, .bool z41.b, .slice z41.a z41.n z41.c, .slice z41.d z41.m z41.e, .bool z44.b, .slice z44.a z44.n z44.c, .slice z44.d z44.m z44.e], 40), (w.heap.size + 2, aY Bd Bf, 43), (w.heap.size + 1, aY y1 y2, 43), (w.heap.size, aY x1 x2, 43)] [(true, Bf.val, (qU (qU (a * c) (a * d)) (qU (b * c) (b * d)))), (true, Bd.val, (rW (rW (a * c) (a * d)) (rW (b * c) (b * d)))), (true, z44.val, (b * d)), (true, z41.val, (b * c)), (true, z38.val, (a * d)), (true, z35.val, (a * c)), (true, y2.val, d), (true, y1.val, c), (true, x2.val, b), (true, x1.val, a)]) := by subst al7; exact (HS.out).gp 1 dQ dQ Bd Bf rfl
 clear al7
 refine wpAnyH_done (by kernel_rfl) ?_ _
 obtain ⟨jJ, lV, lW, qC, qE, qF, kP, pz, pF, vM, vN, vO⟩ := dO (x := Bd) (y := Bf) (HS.out.at 1 _ _ _ rfl)
 have vS := ai (HS.out.at 1 _ _ _ rfl)
 go_wp2_with fail
 clear jJ lV lW qC qE qF kP pz pF vM vN vO vS
 obtain ⟨jJ, lV, lW, qC, qE, qF, _⟩ := dO (x := Bd) (y := Bf) (HS.out.at 1 _ _ _ rfl)
 refine bodyPost_ret (v := .agg #[.bool Bd.b, .slice Bd.a Bd.n Bd.c, .slice Bd.d Bd.m Bd.e, .bool Bf.b, .slice Bf.a Bf.n Bf.c, .slice Bf.d Bf.m Bf.e]) (by simp [results, Tryz.results49, go_sem, jJ, lV, lW, qC, qE, qF]) rfl ⟨_, rfl, (gB (HS.out.p 1 _ _ rfl) (HS.out.p 0 _ _ rfl)), HS.out.bel⟩
theorem Sx.to {w0 w W : World} {bs cs : List Bx} {fs : List Fx} (h : Sx w0 w bs fs) (e : w = W) (eb : bs = cs) : Sx w0 W cs fs := by subst e; subst eb; exact h
theorem nbs : (∀ {α : Type} {xs : List α} {i : Nat} (h : i < xs.toArray.size), xs.toArray[i] = xs[i]) ∧ (∀ {α : Type} (a : α) (l : List α) (h : 0 < (a :: l).length), (a :: l)[0] = a) ∧ (∀ {α : Type} (a : α) (l : List α) (i : Nat) (h : i + 1 < (a :: l).length), (a :: l)[i + 1] = l[i]'(by simpa using h)) ∧ (∀ {α : Type} (l : List α) (i : Nat) (a : α), l.toArray.setIfInBounds i a = (l.set i a).toArray) ∧ (∀ {α : Type} {x : α} {xs : List α} {a : α}, (x :: xs).set 0 a = a :: xs) ∧ ∀ {α : Type} {x : α} {xs : List α} {i : Nat} {a : α}, (x :: xs).set (i + 1) a = x :: xs.set i a :=
 ⟨nb1, nb2, nb3, nb4, ig, ik⟩
section
variable {P : Program} {ops : Array Oper} {Q : Exit → Act → World → Prop} {md : Region.Mode} {S : World → Prop}
theorem dF {i : Nat} {oi : Oper} {v : Value} {fuel : Nat} {listed : Array Bool} {a : Act} {w : World} (hi : ops[i]? = some oi) (hy : ∀ w, S w → (execOp a.eval oi).run P w = .ok (.value v) w)
  (h : wpAnyH P md ops Q S fuel (listed.setIfInBounds i true) (a.put oi.dst v) w) (hS : S w := by assumption) (hw : Region.wanted oi (yielded ops a.tmps) = true := by first | rfl | kernel_rfl) (hs : Region.noSelect ops = true := by kernel_rfl) (hf : Region.free md ops listed i = true := by kernel_rfl)
  (hr : (Region.ready md ops listed).contains i = true := by kernel_rfl) (hQ : ∀ c a w, Q (.panic c) (a.put oi.dst v) w → Q (.panic c) a w := by exact fun _ _ _ h => h) : wpAnyH P md ops Q S (fuel + 1) listed a w :=
 bW hi (Or.inl ⟨hw, hy⟩) hS h hs hf hr hQ
end
theorem rX {a b : Rat} (h : a ≤ b) : rW a b = a := if_pos (k_.2 h)
theorem rP {a b : Rat} (h : a ≤ b) : qU a b = b := by
 unfold qU
 have := @oJ a b
 split
 · grind
 · rfl
theorem Qb {a b : Rat} (h : b ≤ a) : rW a b = b := by
 unfold rW
 have := @k_ a b
 split
 · grind
 · rfl
theorem PT {a b : Rat} (h : b ≤ a) : qU a b = a := by
 unfold qU
 have := @oJ a b
 split
 · rfl
 · grind
theorem Dc (a b : Rat) : rW a b ≤ a := by rcases (@Rat.le_total a b) with h | h; rw [rX h]; exact Rat.le_refl; rw [Qb h]; exact h
theorem aeB (a b : Rat) : rW a b ≤ b := by rcases (@Rat.le_total a b) with h | h; rw [rX h]; exact h; rw [Qb h]; exact Rat.le_refl
theorem CV (a b : Rat) : a ≤ qU a b := by rcases (@Rat.le_total a b) with h | h; rw [rP h]; exact h; rw [PT h]; exact Rat.le_refl
theorem ael (a b : Rat) : b ≤ qU a b := by rcases (@Rat.le_total a b) with h | h; rw [rP h]; exact Rat.le_refl; rw [PT h]; exact h
theorem adR {a b c d : Rat} (h1 : a ≤ b) (h2 : c ≤ d) : bz uP (fun i => [a, b, c, d].getD i 0) 3 = rW a c := by
 have e1 : uP b a = false := decide_eq_false (by rw [oJ]; grind)
 show (if uP d (if uP c (if uP b a then b else a) then c else (if uP b a then b else a)) then d else (if uP c (if uP b a then b else a) then c else (if uP b a then b else a))) = _
 rw [e1]
 simp only [Bool.false_eq_true, if_false]
 rcases (@Rat.le_total a c) with h | h
 ·
  have e2 : uP c a = false := decide_eq_false (by rw [oJ]; grind)
  have e3 : uP d a = false := decide_eq_false (by rw [oJ]; grind)
  rw [e2, rX h]
  simp [e3]
 ·
  rw [Qb h]
  have e3 : uP d c = false := decide_eq_false (by rw [oJ]; grind)
  by_cases hc : uP c a = true
  · rw [if_pos hc, e3]; rfl
  ·
   rw [if_neg hc]
   have hca : ¬ c < a := fun hx => hc (decide_eq_true (oJ.2 hx))
   obtain rfl : a = c := by grind
   rw [e3]; rfl
theorem adQ {a b c d : Rat} (h1 : a ≤ b) (h2 : c ≤ d) : bz sD (fun i => [a, b, c, d].getD i 0) 3 = qU b d := by
 have g : ∀ x y : Rat, sD x y = true ↔ y < x := fun x y => by
  unfold sD
  rw [decide_eq_true_iff]
  have := @k_ x y
  constructor
  · intro h; grind
  ·
   intro h; have : ¬ dN x y ≤ 0 := fun hx => by grind
   omega
 show (if sD d (if sD c (if sD b a then b else a) then c else (if sD b a then b else a)) then d else (if sD c (if sD b a then b else a) then c else (if sD b a then b else a))) = _
 have e1 : (if sD b a = true then b else a) = b := by
  by_cases hb : sD b a = true
  · rw [if_pos hb]
  · rw [if_neg hb]; rw [g] at hb; grind
 rw [e1]
 rcases (@Rat.le_total b d) with h | h
 ·
  rw [rP h]
  by_cases hc : sD c b = true
  ·
   rw [if_pos hc]
   by_cases hd : sD d c = true
   · rw [if_pos hd]
   · rw [if_neg hd]; rw [g] at hd; grind
  ·
   rw [if_neg hc]
   by_cases hd : sD d b = true
   · rw [if_pos hd]
   · rw [if_neg hd]; rw [g] at hd; grind
 ·
  rw [PT h]
  have hc : ¬ sD c b = true := by rw [g]; grind
  rw [if_neg hc]
  have hd : ¬ sD d b = true := by rw [g]; grind
  rw [if_neg hd]
def lF (B : Nat) (x : Rat) : Prop := -((B : Int) : Rat) ≤ x ∧ x ≤ ((B : Int) : Rat)
theorem O5 {B : Nat} {a b : Rat} (h1 : lF B a) (h2 : lF B b) : lF B (rW a b) := by unfold rW; split <;> assumption
theorem O4 {B : Nat} {a b : Rat} (h1 : lF B a) (h2 : lF B b) : lF B (qU a b) := by unfold qU; split <;> assumption
theorem Yy {B k : Nat} {a : Rat} (h : lF B a) : lF B (gK a k) :=
 ⟨by have := Eh (n := -(B : Int)) (x := a) (by rw [Rat.intCast_neg]; exact h.1) k; rw [Rat.intCast_neg] at this; exact this, Rat.le_trans (CU a k) h.2⟩
theorem aib {B k : Nat} {a : Rat} (h : lF B a) : lF B (yu a k) := ⟨Rat.le_trans h.1 (acp a k), acr h.2 k⟩
theorem Ho.r3 {w : World} {b o : Nat} {q : Rat} (h : Ho aA w b o q) : ∃ x : R3, w.cell? ⟨b, o, none⟩ = some (.bool x.b) ∧ w.cell? ⟨b, o + 1, none⟩ = some (.slice x.a x.n x.c) ∧ w.cell? ⟨b, o + 2, none⟩ = some (.slice x.d x.m x.e) ∧ aA w x.val q := by
 obtain ⟨v0, vn, vd, h0, h1, h2, h3⟩ := h
 obtain ⟨x, hx⟩ := h3.bn
 injection hx with hx
 injection hx with hx
 simp only [List.cons.injEq, and_true] at hx
 obtain ⟨rfl, rfl, rfl⟩ := hx
 exact ⟨x, h0, h1, h2, h3⟩
def aS (l : List (List Rat)) (i j : Nat) : Rat := (l.getD i []).getD j 0
def jQ (a b c d : Rat) : Rat := rW (rW (a * c) (a * d)) (rW (b * c) (b * d))
def jP (a b c d : Rat) : Rat := qU (qU (a * c) (a * d)) (qU (b * c) (b * d))
def EJ (h0 h1 t0 t1 u0 u1 v w l0 l1 m0 m1 : Rat) : Rat := ((jQ h0 h1 u0 u1 + jQ l0 l1 v v) + jQ m0 m1 w w) + jQ t0 t1 (1 - v - w) (1 - v - w)
def EI (h0 h1 t0 t1 u0 u1 v w l0 l1 m0 m1 : Rat) : Rat := ((jP h0 h1 u0 u1 + jP l0 l1 v v) + jP m0 m1 w w) + jP t0 t1 (1 - v - w) (1 - v - w)
theorem Df (a b c d : Rat) : jQ a b c d ≤ jP a b c d := by
 unfold jQ jP
 have h1 := Dc (rW (a * c) (a * d)) (rW (b * c) (b * d))
 have h2 := Dc (a * c) (a * d)
 have h3 := CV (qU (a * c) (a * d)) (qU (b * c) (b * d))
 have h4 := CV (a * c) (a * d)
 grind
theorem aml (h0 h1 t0 t1 u0 u1 v w l0 l1 m0 m1 : Rat) : EJ h0 h1 t0 t1 u0 u1 v w l0 l1 m0 m1 ≤ EI h0 h1 t0 t1 u0 u1 v w l0 l1 m0 m1 := by
 have e1 := Df h0 h1 u0 u1
 have e2 := Df l0 l1 v v
 have e3 := Df m0 m1 w w
 have e4 := Df t0 t1 (1 - v - w) (1 - v - w)
 unfold EJ EI
 grind
theorem qZ {B : Nat} {a c : Rat} (h : lF B a) (h0 : 0 ≤ c) (h1 : c ≤ 1) : lF B (a * c) := by
 obtain ⟨t0, t1⟩ := h
 unfold lF
 have hB : (0 : Rat) ≤ ((B : Int) : Rat) := by grind
 generalize ((B : Int) : Rat) = M at *
 have g1 : 0 ≤ c * (M - a) := Rat.mul_nonneg h0 (by grind)
 have g2 : 0 ≤ c * (M + a) := Rat.mul_nonneg h0 (by grind)
 have g3 : 0 ≤ (1 - c) * M := Rat.mul_nonneg (by grind) hB
 constructor <;> grind
theorem xN {A B : Nat} {a b : Rat} (h : lF A a) (k : lF B b) : lF (A + B) (a + b) := by
 obtain ⟨h1, h2⟩ := h
 obtain ⟨k1, k2⟩ := k
 unfold lF
 rw [Int.natCast_add, Rat.intCast_add]
 generalize ((A : Int) : Rat) = M at *
 generalize ((B : Int) : Rat) = N at *
 constructor <;> grind
theorem Kr {B : Nat} {a b c d : Rat} (ha : lF B a) (hb : lF B b) (c0 : 0 ≤ c) (c1 : c ≤ 1) (d0 : 0 ≤ d) (d1 : d ≤ 1) : lF B (jQ a b c d) :=
 O5 (O5 (qZ ha c0 c1) (qZ ha d0 d1)) (O5 (qZ hb c0 c1) (qZ hb d0 d1))
theorem Ko {B : Nat} {a b c d : Rat} (ha : lF B a) (hb : lF B b) (c0 : 0 ≤ c) (c1 : c ≤ 1) (d0 : 0 ≤ d) (d1 : d ≤ 1) : lF B (jP a b c d) :=
 O4 (O4 (qZ ha c0 c1) (qZ ha d0 d1)) (O4 (qZ hb c0 c1) (qZ hb d0 d1))
theorem amk {B : Nat} {h0 h1 t0 t1 u0 u1 v w l0 l1 m0 m1 : Rat} (bh0 : lF B h0) (bh1 : lF B h1) (bt0 : lF B t0) (bt1 : lF B t1) (bl0 : lF B l0) (bl1 : lF B l1) (bm0 : lF B m0) (bm1 : lF B m1)
  (a1 : 0 ≤ u0) (a2 : u0 ≤ 1) (a3 : 0 ≤ u1) (a4 : u1 ≤ 1) (v0 : 0 ≤ v) (v1 : v + v ≤ 1) (w0 : 0 ≤ w) (w1 : w + w ≤ 1) :
  lF (B + B + B + B) (EJ h0 h1 t0 t1 u0 u1 v w l0 l1 m0 m1) ∧ lF (B + B + B + B) (EI h0 h1 t0 t1 u0 u1 v w l0 l1 m0 m1) := by
 have g0 : 0 ≤ 1 - v - w := by grind
 have g1 : 1 - v - w ≤ 1 := by grind
 exact ⟨xN (xN (xN (Kr bh0 bh1 a1 a2 a3 a4) (Kr bl0 bl1 v0 (by grind) v0 (by grind))) (Kr bm0 bm1 w0 (by grind) w0 (by grind))) (Kr bt0 bt1 g0 g1 g0 g1),
  xN (xN (xN (Ko bh0 bh1 a1 a2 a3 a4) (Ko bl0 bl1 v0 (by grind) v0 (by grind))) (Ko bm0 bm1 w0 (by grind) w0 (by grind))) (Ko bt0 bt1 g0 g1 g0 g1)⟩
theorem AP {a b c d : Rat} {i j n : Nat} (h1 : bQ a i) (h2 : bQ b i) (h3 : bQ c j) (h4 : bQ d j) (hn : i + j ≤ n) : bQ (jQ a b c d) n :=
 aj (Qa (Qa (gZ h1 h3) (gZ h1 h4)) (Qa (gZ h2 h3) (gZ h2 h4))) hn
theorem AO {a b c d : Rat} {i j n : Nat} (h1 : bQ a i) (h2 : bQ b i) (h3 : bQ c j) (h4 : bQ d j) (hn : i + j ≤ n) : bQ (jP a b c d) n :=
 aj (PS (PS (gZ h1 h3) (gZ h1 h4)) (PS (gZ h2 h3) (gZ h2 h4))) hn
def BK (x : Rat) : Bool := decide (0 ≤ jG (decide (x.num < 0)) x.num.natAbs) && decide (dN (x + x) 1 ≤ 0)
theorem yf {x : Rat} : BK x = true ↔ 0 ≤ x ∧ x + x ≤ 1 := by
 unfold BK
 rw [Bool.and_eq_true, KJ, decide_eq_true_iff, decide_eq_true_iff, k_]
def sV (l : List (List Rat)) (edge : Rat) (i : Nat) : Rat := if 0 < i then aS l (i - 1) 0 else edge
def sW (l : List (List Rat)) (edge : Rat) (i : Nat) : Rat := if i + 1 < l.length then aS l i 0 else edge
def sL (l : List (List Rat)) (dX : Rat) (i j : Nat) : Rat := if 0 < i then aS l (i - 1) j else dX
def sM (l : List (List Rat)) (dX : Rat) (i j : Nat) : Rat := if i + 1 < l.length then aS l (i + 1) j else dX
def cell1 (es : List lD) (k : Nat) (p h0 h1 t0 t1 c0 c1 v w l0 l1 m0 m1 : Rat) : List Rat :=
 [p, h0, h1, gK (EJ h0 h1 t0 t1 ((fJ es t0).1 * (1 - c1)) ((fJ es t1).2 * (1 - c0)) v w l0 l1 m0 m1) k, yu (EI h0 h1 t0 t1 ((fJ es t0).1 * (1 - c1)) ((fJ es t1).2 * (1 - c0)) v w l0 l1 m0 m1) k,
  gK (c0 + (fJ es t0).1 * (1 - c0)) k, yu (c1 + (fJ es t1).2 * (1 - c1)) k]
def qG (l : List (List Rat)) (es : List lD) (dX edge : Rat) (k i : Nat) : List Rat :=
 cell1 es k (aS l i 0) (aS l i 1) (aS l i 2) (aS l i 3) (aS l i 4) (aS l i 5) (aS l i 6) (sV l edge i) (sW l edge i) (sL l dX i 3) (sL l dX i 4) (sM l dX i 3) (sM l dX i 4)
def nK (l : List (List Rat)) (es : List lD) (dX edge : Rat) (k n : Nat) : List (List Rat) := (List.range n).map (qG l es dX edge k)
theorem jL (l : List (List Rat)) (es : List lD) (dX edge : Rat) (k n : Nat) : (nK l es dX edge k n).length = n := by simp [nK]
theorem zQ (l : List (List Rat)) (es : List lD) (dX edge : Rat) (k : Nat) {n i : Nat} (h : i < n) : (nK l es dX edge k n).getD i [] = qG l es dX edge k i := by
 unfold nK
 simp [List.getD, h]
def sG (l : List (List Rat)) (i : Nat) : Bool := !BK (aS l i 0) || (decide (jG (decide ((aS l i 1).num < 0)) (aS l i 1).num.natAbs < 0) || !g_ (aS l i 5) (aS l i 6))
def m_ (l : List (List Rat)) : Int := if l.length < 1 ∨ 16 < l.length then 4 else if dS (sG l) l.length < 0 then 0 else 1
def lG (l : List (List Rat)) (es : List lD) (edge : Rat) : Int := if m_ l ≠ 0 then m_ l else if iG es ≠ 0 then iG es else if BK edge = false then 1 else 0
/-! ### A region in a round -/
theorem zl {l n : Nat} {P : Program} {o : Oper} (hnd : ∀ c, o.op ≠ .defer c) {a : Act} {w : World} {K : Act → World → Prop} {Q : Exit → Act → World → Prop} (h : Oper.wp P o a w K Q) : o.wpIn (Fence.wide.inRound l) n P a w K Q := by
 unfold Oper.wpIn
 unfold Oper.wp at h
 refine ⟨fun _ _ => trivial, ?_⟩
 rw [Oper.semAt_eq _ _ _ hnd]
 generalize (execOp a.eval o).run P w = r at *
 cases r with
 | ok x w' =>
  cases x <;> simp only [Oper.upon] at h <;> simp only [Oper.uponIn] <;> first
   | exact h
   | exact ⟨fun hd => by first | cases hd | simp at hd | simp [Fence.wide] at hd, CallsIn.mono (CallsIn.inRound l (callsIn_wide.2 h)) (fun e w'' he => by cases e <;> exact he)⟩
   | exact ⟨fun hd => by first | cases hd | simp at hd | simp [Fence.wide] at hd, fun c cs _ => by obtain ⟨v, w'', r, s⟩ := h c cs; exact ⟨v, w'', r, stepsIn_wide.2 s⟩⟩
 | halt x w' => cases x <;> simp only [Oper.upon] at h <;> simp only [Oper.uponIn] <;> exact h
theorem Gu {l n : Nat} {P : Program} {ops : Array Oper} {Q : Exit → Act → World → Prop} (hQ : ∀ a w, ¬ Q .outgrown a w) (hnd : ∀ (i : Nat) (o : Oper), ops[i]? = some o → ∀ c, o.op ≠ .defer c) {i : Nat} {K : Act → World → Prop} {a : Act} {w : World} (h : wpOp P ops Q i K a w) : wpOpIn (Fence.wide.inRound l) n P ops Q i K a w := by
 unfold wpOp at h
 unfold wpOpIn
 cases ho : ops[i]? with
 | none => rw [ho] at h; exact h
 | some o =>
  rw [ho] at h
  dsimp only at h ⊢
  by_cases hw : Region.wanted o (yielded ops a.tmps) = true
  ·
   rw [if_pos hw] at h ⊢
   rcases h with h | ⟨_, a', w', h⟩
   · exact zl (hnd i o ho) h
   · exact absurd h (hQ a' w')
  ·
   rw [if_neg hw] at h ⊢
   exact ⟨fun _ _ => trivial, h⟩
theorem uS {l n : Nat} {P : Program} {md : Region.Mode} {ops : Array Oper} {Q : Exit → Act → World → Prop} {S : World → Prop} (hQ : ∀ a w, ¬ Q .outgrown a w) (hnd : ∀ (i : Nat) (o : Oper), ops[i]? = some o → ∀ c, o.op ≠ .defer c) :
  ∀ (fuel : Nat) (listed : Array Bool) (a : Act) (w : World), wpAnyH P md ops Q S fuel listed a w → wpAnyIn (Fence.wide.inRound l) n P md ops Q fuel listed a w
 | 0, _, _, _, h => h
 | fuel + 1, _, _, _, h => ⟨h.1, fun i hi => wpOpIn_mono (fun a' w' h' => uS hQ hnd fuel _ a' w' h'.2) (Gu hQ hnd (h.2 i hi))⟩
def KA (ops : Array Oper) : Bool := ops.all fun o => match o.op with | .defer _ => false | _ => true
theorem zT {ops : Array Oper} (h : KA ops = true) : ∀ (i : Nat) (o : Oper), ops[i]? = some o → ∀ c, o.op ≠ .defer c := by
 intro i o ho c hc
 have h1 := Array.all_eq_true.1 h i (Array.getElem?_eq_some_iff.1 ho).1
 have h2 : ops[i]'(Array.getElem?_eq_some_iff.1 ho).1 = o := (Array.getElem?_eq_some_iff.1 ho).2
 rw [h2, hc] at h1
 cases h1
theorem gm {l n : Nat} {P : Program} {ops : Array Oper} {Q : Exit → Act → World → Prop} {S : World → Prop} {id : Nat} {a : Act} {w : World} (hm : P.follows .mixedOrders = true) (hd : KA ops = true) (hQ : ∀ a w, ¬ Q .outgrown a w) (hS : S w.drew)
  (h : S w.drew → wpAnyH P .any ops Q S ops.size (Array.replicate ops.size false) a w.drew) : (Code.region id ops true).wpIn (Fence.wide.inRound l) n P Q a w :=
 wpIn_region_any hm (uS hQ (zT hd) _ _ _ _ (h hS))
theorem Kt {a b c : Rat} (h : a ≤ b) (hc : 0 ≤ c) : jQ a b c c = a * c := by
 have h1 : a * c ≤ b * c := Rat.mul_le_mul_of_nonneg_right h hc
 unfold jQ
 rw [rX (Rat.le_refl), rX (Rat.le_refl), rX h1]
theorem Kq {a b c : Rat} (h : a ≤ b) (hc : 0 ≤ c) : jP a b c c = b * c := by
 have h1 : a * c ≤ b * c := Rat.mul_le_mul_of_nonneg_right h hc
 unfold jP
 rw [rP (Rat.le_refl), rP (Rat.le_refl), rP h1]
theorem aaj (c d : Rat) : jQ 0 0 c d = 0 := by
 have e : ∀ x : Rat, 0 * x = 0 := Rat.zero_mul
 unfold jQ
 rw [e, e, rX (Rat.le_refl), rX (Rat.le_refl)]
theorem aai (c d : Rat) : jP 0 0 c d = 0 := by
 have e : ∀ x : Rat, 0 * x = 0 := Rat.zero_mul
 unfold jP
 rw [e, e, rP (Rat.le_refl), rP (Rat.le_refl)]
theorem UG {t0 t1 u0 u1 v w l0 l1 m0 m1 A : Rat} (hv : 0 ≤ v) (hw : 0 ≤ w) (hk : v + w ≤ 1) (ht : t0 ≤ t1) (hl : l0 ≤ l1) (hm : m0 ≤ m1) (a1 : A ≤ t0) (a2 : A ≤ l0) (a3 : A ≤ m0) : A ≤ EJ 0 0 t0 t1 u0 u1 v w l0 l1 m0 m1 := by
 have hk' : 0 ≤ 1 - v - w := by grind
 unfold EJ
 rw [aaj, Kt hl hv, Kt hm hw, Kt ht hk']
 have g1 := Rat.mul_nonneg (a := l0 - A) (b := v) (by grind) hv
 have g2 := Rat.mul_nonneg (a := m0 - A) (b := w) (by grind) hw
 have g3 := Rat.mul_nonneg (a := t0 - A) (b := 1 - v - w) (by grind) hk'
 grind
theorem UE {t0 t1 u0 u1 v w l0 l1 m0 m1 A : Rat} (hv : 0 ≤ v) (hw : 0 ≤ w) (hk : v + w ≤ 1) (ht : t0 ≤ t1) (hl : l0 ≤ l1) (hm : m0 ≤ m1) (a1 : t1 ≤ A) (a2 : l1 ≤ A) (a3 : m1 ≤ A) : EI 0 0 t0 t1 u0 u1 v w l0 l1 m0 m1 ≤ A := by
 have hk' : 0 ≤ 1 - v - w := by grind
 unfold EI
 rw [aai, Kq hl hv, Kq hm hw, Kq ht hk']
 have g1 := Rat.mul_nonneg (a := A - l1) (b := v) (by grind) hv
 have g2 := Rat.mul_nonneg (a := A - m1) (b := w) (by grind) hw
 have g3 := Rat.mul_nonneg (a := A - t1) (b := 1 - v - w) (by grind) hk'
 grind
theorem UH (h0 h1 t0 t1 u0 u1 v w l0 l1 m0 m1 : Rat) : EJ h0 h1 t0 t1 u0 u1 w v m0 m1 l0 l1 = EJ h0 h1 t0 t1 u0 u1 v w l0 l1 m0 m1 := by
 unfold EJ
 rw [show (1 : Rat) - w - v = 1 - v - w by grind]
 grind
theorem UF (h0 h1 t0 t1 u0 u1 v w l0 l1 m0 m1 : Rat) : EI h0 h1 t0 t1 u0 u1 w v m0 m1 l0 l1 = EI h0 h1 t0 t1 u0 u1 v w l0 l1 m0 m1 := by
 unfold EI
 rw [show (1 : Rat) - w - v = 1 - v - w by grind]
 grind
def xE (l : List (List Rat)) (i : Nat) : List Rat :=
 [if i + 1 < l.length then aS l (l.length - 2 - i) 0 else aS l (l.length - 1 - i) 0, aS l (l.length - 1 - i) 1, aS l (l.length - 1 - i) 2, aS l (l.length - 1 - i) 3, aS l (l.length - 1 - i) 4, aS l (l.length - 1 - i) 5, aS l (l.length - 1 - i) 6]
def qQ (l : List (List Rat)) (n : Nat) : List (List Rat) := (List.range n).map (xE l)
theorem acm (l : List (List Rat)) (n : Nat) : qQ l (n + 1) = qQ l n ++ [xE l n] := by unfold qQ; rw [List.range_succ, List.map_append]; rfl
theorem nG (l : List (List Rat)) (n : Nat) : (qQ l n).length = n := by simp [qQ]
theorem QX (l : List (List Rat)) {n i : Nat} (h : i < n) : (qQ l n).getD i [] = xE l i := by unfold qQ; simp [List.getD, h]
theorem oZ (l : List (List Rat)) {i j : Nat} (hi : i < l.length) (h0 : 0 < j) (hj : j < 7) : aS (qQ l l.length) i j = aS l (l.length - 1 - i) j := by
 show ((qQ l l.length).getD i []).getD j 0 = _
 rw [QX l hi]
 match j, h0, hj with
 | 1, _, _ => rfl
 | 2, _, _ => rfl
 | 3, _, _ => rfl
 | 4, _, _ => rfl
 | 5, _, _ => rfl
 | 6, _, _ => rfl
 | j + 7, _, hj => omega
theorem KN (l : List (List Rat)) {i : Nat} (hi : i < l.length) : aS (qQ l l.length) i 0 = if i + 1 < l.length then aS l (l.length - 2 - i) 0 else aS l (l.length - 1 - i) 0 := by
 show ((qQ l l.length).getD i []).getD 0 0 = _
 rw [QX l hi]
 rfl
theorem aoj (l : List (List Rat)) (ed : Rat) {i : Nat} (hi : i < l.length) : sV (qQ l l.length) ed i = sW l ed (l.length - 1 - i) := by
 unfold sV sW
 by_cases h : 0 < i
 ·
  rw [if_pos h, if_pos (by omega), KN l (by omega), if_pos (by omega)]
  congr 1
  omega
 · rw [if_neg h, if_neg (by omega)]
theorem aok (l : List (List Rat)) (ed : Rat) {i : Nat} (hi : i < l.length) : sW (qQ l l.length) ed i = sV l ed (l.length - 1 - i) := by
 unfold sV sW
 rw [nG]
 by_cases h : i + 1 < l.length
 ·
  rw [if_pos h, if_pos (by omega), KN l hi, if_pos h]
  congr 1
  omega
 · rw [if_neg h, if_neg (by omega)]
theorem agY (l : List (List Rat)) (dX : Rat) {i j : Nat} (hi : i < l.length) (h0 : 0 < j) (hj : j < 7) : sL (qQ l l.length) dX i j = sM l dX (l.length - 1 - i) j := by
 unfold sL sM
 by_cases h : 0 < i
 ·
  rw [if_pos h, if_pos (by omega), oZ l (by omega) h0 hj]
  congr 1
  omega
 · rw [if_neg h, if_neg (by omega)]
theorem agZ (l : List (List Rat)) (dX : Rat) {i j : Nat} (hi : i < l.length) (h0 : 0 < j) (hj : j < 7) : sM (qQ l l.length) dX i j = sL l dX (l.length - 1 - i) j := by
 unfold sL sM
 rw [nG]
 by_cases h : i + 1 < l.length
 ·
  rw [if_pos h, if_pos (by omega), oZ l (by omega) h0 hj]
  congr 1
  try omega
 · rw [if_neg h, if_neg (by omega)]
theorem aky (l : List (List Rat)) (es : List lD) (dX ed : Rat) (k : Nat) {i j : Nat} (hi : i < l.length) (h3 : 3 ≤ j) (hj : j < 7) :
  aS (nK (qQ l l.length) es dX ed k l.length) i j = aS (nK l es dX ed k l.length) (l.length - 1 - i) j := by
 show ((nK (qQ l l.length) es dX ed k l.length).getD i []).getD j 0 = ((nK l es dX ed k l.length).getD (l.length - 1 - i) []).getD j 0
 rw [zQ _ _ _ _ _ hi, zQ _ _ _ _ _ (by omega)]
 unfold qG
 rw [aoj l ed hi, aok l ed hi, agY l dX hi (by omega) (by omega), agY l dX hi (by omega) (by omega), agZ l dX hi (by omega) (by omega), agZ l dX hi (by omega) (by omega),
  oZ l hi (j := 1) (by omega) (by omega), oZ l hi (j := 2) (by omega) (by omega), oZ l hi (j := 3) (by omega) (by omega), oZ l hi (j := 4) (by omega) (by omega), oZ l hi (j := 5) (by omega) (by omega), oZ l hi (j := 6) (by omega) (by omega)]
 unfold cell1
 rw [UH, UF]
 match j, h3, hj with
 | 3, _, _ => rfl
 | 4, _, _ => rfl
 | 5, _, _ => rfl
 | 6, _, _ => rfl
 | j + 7, _, hj => omega
def RowOf (p : Bool) (k : Nat) (w : World) (xs : List Value) (qs : List (List Rat)) : Prop :=
 xs.length = qs.length * (3 * k) ∧ ∀ i, i < qs.length → ∀ j, j < k → ∃ x : R3, xs[i * (3 * k) + j * 3]? = some (.bool x.b) ∧ xs[i * (3 * k) + j * 3 + 1]? = some (.slice x.a x.n x.c) ∧ xs[i * (3 * k) + j * 3 + 2]? = some (.slice x.d x.m x.e) ∧ Fr p w x.val ((qs.getD i []).getD j 0)
def di (p : Bool) (k : Nat) (w : World) (v : Value) (qs : List (List Rat)) : Prop :=
 ∃ ao cap, v = .slice ao qs.length cap ∧ (0 < qs.length → ∃ b off, ao = some ⟨b, off, none⟩ ∧ b < w.heap.size ∧ ∀ i, i < qs.length → ∀ j, j < k →
  ∃ x : R3, w.cell? ⟨b, off + i * (3 * k) + j * 3, none⟩ = some (.bool x.b) ∧ w.cell? ⟨b, off + i * (3 * k) + j * 3 + 1, none⟩ = some (.slice x.a x.n x.c) ∧ w.cell? ⟨b, off + i * (3 * k) + j * 3 + 2, none⟩ = some (.slice x.d x.m x.e) ∧ Fr p w x.val ((qs.getD i []).getD j 0))
theorem di.below {p : Bool} {k : Nat} {w w' : World} {v : Value} {qs : List (List Rat)} (h : di p k w v qs) (hb : Below w.heap.size w w') : di p k w' v qs := by
 obtain ⟨ao, cap, rfl, h⟩ := h
 refine ⟨ao, cap, rfl, fun hl => ?_⟩
 obtain ⟨b, off, rfl, hlt, h⟩ := h hl
 have c : ∀ o v, w.cell? ⟨b, o, none⟩ = some v → w'.cell? ⟨b, o, none⟩ = some v := fun o v h => (hb.cell (p := ⟨b, o, none⟩) hlt).trans h
 refine ⟨b, off, rfl, Nat.lt_of_lt_of_le hlt hb.size, fun i hi j hj => ?_⟩
 obtain ⟨x, h1, h2, h3, h4⟩ := h i hi j hj
 exact ⟨x, c _ _ h1, c _ _ h2, c _ _ h3, h4.below hb⟩
theorem RowOf.mono {p : Bool} {k : Nat} {w w' : World} {xs : List Value} {qs : List (List Rat)} (h : RowOf p k w xs qs) (hf : ∀ v q, Fr p w v q → Fr p w' v q) : RowOf p k w' xs qs :=
 ⟨h.1, fun i hi j hj => by obtain ⟨x, h1, h2, h3, h4⟩ := h.2 i hi j hj; exact ⟨x, h1, h2, h3, hf _ _ h4⟩⟩
theorem RowOf.nil (p : Bool) (k : Nat) (w : World) : RowOf p k w [] [] := ⟨by simp, fun i hi => absurd hi (by simp)⟩
def eX (l : List R3) : List Value := l.flatMap fun x => [.bool x.b, .slice x.a x.n x.c, .slice x.d x.m x.e]
theorem Gx (l : List R3) : (eX l).length = l.length * 3 := by
 induction l with
 | nil => rfl
 | cons x l ih => simp [eX] at ih ⊢; omega
theorem Ug (l : List R3) (j : Nat) (hj : j < l.length) : ∃ x, l[j]? = some x ∧ (eX l)[j * 3]? = some (.bool x.b) ∧ (eX l)[j * 3 + 1]? = some (.slice x.a x.n x.c) ∧ (eX l)[j * 3 + 2]? = some (.slice x.d x.m x.e) := by
 induction l generalizing j with
 | nil => simp at hj
 | cons y l ih =>
  match j with
  | 0 => exact ⟨y, rfl, rfl, rfl, rfl⟩
  | j + 1 =>
   obtain ⟨x, h0, h1, h2, h3⟩ := ih j (by simpa using hj)
   have e : ∀ m, (eX (y :: l))[(j + 1) * 3 + m]? = (eX l)[j * 3 + m]? := fun m => by
    show (_ :: _ :: _ :: eX l)[(j + 1) * 3 + m]? = _
    rw [show (j + 1) * 3 + m = (j * 3 + m) + 1 + 1 + 1 by omega, List.getElem?_cons_succ, List.getElem?_cons_succ, List.getElem?_cons_succ]
   exact ⟨x, by simpa using h0, by rw [← h1]; exact e 0, by rw [← h2]; exact e 1, by rw [← h3]; exact e 2⟩
theorem RowOf.snoc {p : Bool} {k : Nat} {w : World} {xs : List Value} {qs : List (List Rat)} (h : RowOf p k w xs qs) (l : List R3) (rs : List Rat) (hl : l.length = k) (hr : ∀ j x, l[j]? = some x → Fr p w x.val (rs.getD j 0)) :
  RowOf p k w (xs ++ eX l) (qs ++ [rs]) := by
 obtain ⟨h0, h1⟩ := h
 refine ⟨by rw [List.length_append, List.length_append, Gx, h0, hl, List.length_singleton, Nat.add_mul]; omega, fun i hi j hj => ?_⟩
 rw [List.length_append, List.length_singleton] at hi
 rcases Nat.lt_or_ge i qs.length with hi1 | hi1
 ·
  obtain ⟨x, g1, g2, g3, g4⟩ := h1 i hi1 j hj
  have hlt : i * (3 * k) + j * 3 + 2 < xs.length := by
   rw [h0]
   have : (i + 1) * (3 * k) ≤ qs.length * (3 * k) := Nat.mul_le_mul_right _ hi1
   rw [Nat.add_mul] at this
   omega
  have e2 : (qs ++ [rs]).getD i [] = qs.getD i [] := by simp [List.getD, List.getElem?_append_left hi1]
  rw [e2]
  exact ⟨x, by rw [List.getElem?_append_left (by omega)]; exact g1, by rw [List.getElem?_append_left (by omega)]; exact g2, by rw [List.getElem?_append_left (by omega)]; exact g3, g4⟩
 ·
  obtain rfl : i = qs.length := by omega
  obtain ⟨x, g0, g1, g2, g3⟩ := Ug l j (by omega)
  have e : ∀ m, (xs ++ eX l)[qs.length * (3 * k) + j * 3 + m]? = (eX l)[j * 3 + m]? := fun m => by
   rw [List.getElem?_append_right (by omega), h0]
   congr 1
   omega
  have e2 : (qs ++ [rs]).getD qs.length [] = rs := by simp [List.getD]
  rw [e2]
  exact ⟨x, by rw [← g1]; exact e 0, by rw [← g2]; exact e 1, by rw [← g3]; exact e 2, hr j x g0⟩
theorem di.ofRow {p : Bool} {k : Nat} {w : World} {base : Nat} {e : TypeId} {v : Value} {xs : List Value} {qs : List (List Rat)} (h : dL w base e (3 * k) v qs.length xs) (ht : RowOf p k w xs qs) : di p k w v qs := by
 rcases Nat.eq_zero_or_pos qs.length with h0 | hp
 ·
  rcases h.1.2 with ⟨rfl, _⟩ | ⟨g, cap, cur, rfl, _⟩
  · exact ⟨none, 0, by rw [h0], fun h => absurd h (by omega)⟩
  · exact ⟨_, _, rfl, fun h => absurd h (by omega)⟩
 ·
  obtain ⟨g, cap, rfl⟩ := ownsRow_some h.1 hp
  have hc : ∀ j u, xs[j]? = some u → w.cell? ((⟨g, 0, none⟩ : Addr).add j) = some u := h.1.cells (g := g) rfl
  have hlt : g < w.heap.size := (h.lt rfl).1
  refine ⟨_, _, rfl, fun _ => ⟨g, 0, rfl, hlt, fun i hi j hj => ?_⟩⟩
  obtain ⟨x, h1, h2, h3, h4⟩ := ht.2 i hi j hj
  have ea : ∀ j, (⟨g, 0, none⟩ : Addr).add j = ⟨g, 0 + j, none⟩ := fun j => by unfold Addr.add; split <;> simp_all
  have ec : ∀ o u, xs[o]? = some u → w.cell? ⟨g, 0 + o, none⟩ = some u := fun o u h => by rw [← ea]; exact hc _ _ h
  refine ⟨x, ?_, ?_, ?_, h4⟩
  · have := ec _ _ h1; rw [show 0 + (i * (3 * k) + j * 3) = 0 + i * (3 * k) + j * 3 by omega] at this; exact this
  · have := ec _ _ h2; rw [show 0 + (i * (3 * k) + j * 3 + 1) = 0 + i * (3 * k) + j * 3 + 1 by omega] at this; exact this
  · have := ec _ _ h3; rw [show 0 + (i * (3 * k) + j * 3 + 2) = 0 + i * (3 * k) + j * 3 + 2 by omega] at this; exact this
structure yz where
 e : TypeId
 p : Bool
 k : Nat
 v : Value
 xs : List Value
 qs : List (List Rat)
structure jF (w0 w : World) (bs : List Bx) (gs : List yz) : Prop where
 row : ∀ (i : Nat) (g : yz), gs[i]? = some g → dL w w0.heap.size g.e (3 * g.k) g.v g.qs.length g.xs
 mean : ∀ (i : Nat) (g : yz), gs[i]? = some g → RowOf g.p g.k w g.xs g.qs
 sep : ∀ b, b ∈ bs → ∀ g, g ∈ gs → g.v.ownBlock ≠ some b.1
 apart : ∀ (i j : Nat) (g h : yz), gs[i]? = some g → gs[j]? = some h → i ≠ j → ∀ c, g.v.ownBlock = some c → h.v.ownBlock ≠ some c
theorem jF.nil (w0 w : World) (bs : List Bx) : jF w0 w bs [] := ⟨fun i g h => by simp at h, fun i g h => by simp at h, fun b hb g hg => by simp at hg, fun i j g h hi => by simp at hi⟩
theorem jF.add {w0 w : World} {bs : List Bx} {gs : List yz} (h : jF w0 w bs gs) (e : TypeId) (p : Bool) (k : Nat) : jF w0 w bs (⟨e, p, k, .slice none 0 0, [], []⟩ :: gs) := by
 refine ⟨fun i g hi => ?_, fun i g hi => ?_, fun b hb g hg => ?_, fun i j g g' hi hj hij c hc => ?_⟩
 ·
  match i, hi with
  | 0, hi => simp at hi; subst hi; exact dL.nil _ _ _ _
  | i + 1, hi => exact h.row i g (by simpa using hi)
 ·
  match i, hi with
  | 0, hi => simp at hi; subst hi; exact RowOf.nil _ _ _
  | i + 1, hi => exact h.mean i g (by simpa using hi)
 ·
  rcases List.mem_cons.1 hg with rfl | hg
  · exact fun hc => by cases hc
  · exact h.sep b hb g hg
 ·
  match i, j, hi, hj with
  | 0, _, hi, _ => simp at hi; subst hi; cases hc
  | i + 1, 0, _, hj => simp at hj; subst hj; exact fun hc => by cases hc
  | i + 1, j + 1, hi, hj => exact h.apart i j g g' (by simpa using hi) (by simpa using hj) (by omega) c hc
theorem jF.below {w0 w w' : World} {bs : List Bx} {gs : List yz} (h : jF w0 w bs gs) (hb : Below w.heap.size w w') : jF w0 w' bs gs :=
 ⟨fun i g hi => (h.row i g hi).below hb, fun i g hi => (h.mean i g hi).mono fun _ _ hf => hf.below hb, h.sep, h.apart⟩
theorem jF.alloc {w0 w : World} {bs : List Bx} {gs : List yz} (h : jF w0 w bs gs) {B T : Nat} {cs : Array Value} (hB : w.heap.size = B) : jF w0 (w.alloc (.cells cs T)) ((B, cs, T) :: bs) gs := by
 have h' := h.below ((Below.refl w.heap.size w).alloc (Nat.le_refl _) (.cells cs T))
 refine ⟨h'.row, h'.mean, fun b hb g hg => ?_, h'.apart⟩
 rcases List.mem_cons.1 hb with rfl | hb
 ·
  intro hc
  obtain ⟨i, hi⟩ := List.mem_iff_getElem?.1 hg
  have := ((h.row i g hi).lt hc).1
  dsimp only at this
  omega
 · exact h.sep b hb g hg
theorem jF.box {w0 w : World} {bs : List Bx} {gs : List yz} (h : jF w0 w bs gs) {B T : Nat} {cs : Array Value} (hne : ∀ g, g ∈ gs → g.v.ownBlock ≠ some B) : jF w0 w ((B, cs, T) :: bs) gs :=
 ⟨h.row, h.mean, fun b hb g hg => by rcases List.mem_cons.1 hb with rfl | hb; exact hne g hg; exact h.sep b hb g hg, h.apart⟩
theorem jF.mono {w0 w : World} {bs bs' : List Bx} {gs : List yz} (h : jF w0 w bs gs) (hm : ∀ b, b ∈ bs' → ∃ b2, b2 ∈ bs ∧ b2.1 = b.1) : jF w0 w bs' gs :=
 ⟨h.row, h.mean, fun b hb g hg => by obtain ⟨b2, h1, h2⟩ := hm b hb; rw [← h2]; exact h.sep b2 h1 g hg, h.apart⟩
theorem jF.set {w0 w : World} {bs : List Bx} {gs : List yz} {fs : List Fx} (h : jF w0 w bs gs) (hs : Sx w0 w bs fs) (i : Nat) {B T : Nat} {cs : Array Value} (hi : bs[i]? = some (B, cs, T)) (j : Nat) (v : Value) : jF w0 (w.setCell ⟨B, j, none⟩ v) bs gs := by
 obtain ⟨h1, h2, h3⟩ := hs.box i _ hi
 have hm : (B, cs, T) ∈ bs := List.mem_iff_getElem?.2 ⟨i, hi⟩
 exact ⟨fun k g hg => (h.row k g hg).keep fun c hc => heap_setCell_other w ⟨B, j, none⟩ c v (fun e => h.sep _ hm g (List.mem_iff_getElem?.2 ⟨k, hg⟩) (by rw [hc, e])), fun k g hg => (h.mean k g hg).mono fun _ _ hf => hf.set h1 h3 j v, h.sep, h.apart⟩
theorem jF.set2 {w0 w : World} {bs : List Bx} {gs : List yz} {fs : List Fx} (h : jF w0 w bs gs) (hs : Sx w0 w bs fs) (i : Nat) {B T : Nat} {cs : Array Value} (hi : bs[i]? = some (B, cs, T)) (j : Nat) (v : Value) : jF w0 (w.setCell ⟨B, j, none⟩ v) (bs.set i (B, cs.setIfInBounds j v, T)) gs :=
 (h.set hs i hi j v).mono fun b hb => by
  rcases List.mem_or_eq_of_mem_set hb with hb | rfl
  · exact ⟨b, hb, rfl⟩
  · exact ⟨(B, cs, T), List.mem_iff_getElem?.2 ⟨i, hi⟩, rfl⟩
theorem jF.oz {w0 w : World} {bs : List Bx} {gs : List yz} {fs : List Fx} (h : jF w0 w bs gs) (hs : Sx w0 w bs fs) (i : Nat) (o0 : R3) (n0 : R3) {B T : Nat} (hi : bs[i]? = some (B, #[.bool o0.b, .slice o0.a o0.n o0.c, .slice o0.d o0.m o0.e], T)) :
  jF w0 ((((w).setCell ⟨B, 0, none⟩ (.bool n0.b)).setCell ⟨B, 1, none⟩ (.slice n0.a n0.n n0.c)).setCell ⟨B, 2, none⟩ (.slice n0.d n0.m n0.e)) (bs.set i (B, #[.bool n0.b, .slice n0.a n0.n n0.c, .slice n0.d n0.m n0.e], T)) gs := by
 have hl := (List.getElem?_eq_some_iff.1 hi).1
 have g := (((h).set2 (hs) i hi 0 (.bool n0.b)).set2 ((hs).set i hi 0 (v := .bool n0.b) rfl) i (by rw [List.getElem?_set, if_pos rfl, if_pos (by simpa using hl)]) 1 (.slice n0.a n0.n n0.c)).set2 (((hs).set i hi 0 (v := .bool n0.b) rfl).set i (by rw [List.getElem?_set, if_pos rfl, if_pos (by simpa using hl)]) 1 (v := .slice n0.a n0.n n0.c) rfl) i (by rw [List.getElem?_set, if_pos rfl, if_pos (by simpa using hl)]) 2 (.slice n0.d n0.m n0.e)
 simpa using g
theorem jF.gp {w0 w : World} {bs : List Bx} {gs : List yz} {fs : List Fx} (h : jF w0 w bs gs) (hs : Sx w0 w bs fs) (i : Nat) (o0 : R3) (o1 : R3) (n0 : R3) (n1 : R3) {B T : Nat} (hi : bs[i]? = some (B, #[.bool o0.b, .slice o0.a o0.n o0.c, .slice o0.d o0.m o0.e, .bool o1.b, .slice o1.a o1.n o1.c, .slice o1.d o1.m o1.e], T)) :
  jF w0 (((((((w).setCell ⟨B, 0, none⟩ (.bool n0.b)).setCell ⟨B, 1, none⟩ (.slice n0.a n0.n n0.c)).setCell ⟨B, 2, none⟩ (.slice n0.d n0.m n0.e)).setCell ⟨B, 3, none⟩ (.bool n1.b)).setCell ⟨B, 4, none⟩ (.slice n1.a n1.n n1.c)).setCell ⟨B, 5, none⟩ (.slice n1.d n1.m n1.e)) (bs.set i (B, #[.bool n0.b, .slice n0.a n0.n n0.c, .slice n0.d n0.m n0.e, .bool n1.b, .slice n1.a n1.n n1.c, .slice n1.d n1.m n1.e], T)) gs := by
 have hl := (List.getElem?_eq_some_iff.1 hi).1
 have g := ((((((h).set2 (hs) i hi 0 (.bool n0.b)).set2 ((hs).set i hi 0 (v := .bool n0.b) rfl) i (by rw [List.getElem?_set, if_pos rfl, if_pos (by simpa using hl)]) 1 (.slice n0.a n0.n n0.c)).set2 (((hs).set i hi 0 (v := .bool n0.b) rfl).set i (by rw [List.getElem?_set, if_pos rfl, if_pos (by simpa using hl)]) 1 (v := .slice n0.a n0.n n0.c) rfl) i (by rw [List.getElem?_set, if_pos rfl, if_pos (by simpa using hl)]) 2 (.slice n0.d n0.m n0.e)).set2 ((((hs).set i hi 0 (v := .bool n0.b) rfl).set i (by rw [List.getElem?_set, if_pos rfl, if_pos (by simpa using hl)]) 1 (v := .slice n0.a n0.n n0.c) rfl).set i (by rw [List.getElem?_set, if_pos rfl, if_pos (by simpa using hl)]) 2 (v := .slice n0.d n0.m n0.e) rfl) i (by rw [List.getElem?_set, if_pos rfl, if_pos (by simpa using hl)]) 3 (.bool n1.b)).set2 (((((hs).set i hi 0 (v := .bool n0.b) rfl).set i (by rw [List.getElem?_set, if_pos rfl, if_pos (by simpa using hl)]) 1 (v := .slice n0.a n0.n n0.c) rfl).set i (by rw [List.getElem?_set, if_pos rfl, if_pos (by simpa using hl)]) 2 (v := .slice n0.d n0.m n0.e) rfl).set i (by rw [List.getElem?_set, if_pos rfl, if_pos (by simpa using hl)]) 3 (v := .bool n1.b) rfl) i (by rw [List.getElem?_set, if_pos rfl, if_pos (by simpa using hl)]) 4 (.slice n1.a n1.n n1.c)).set2 ((((((hs).set i hi 0 (v := .bool n0.b) rfl).set i (by rw [List.getElem?_set, if_pos rfl, if_pos (by simpa using hl)]) 1 (v := .slice n0.a n0.n n0.c) rfl).set i (by rw [List.getElem?_set, if_pos rfl, if_pos (by simpa using hl)]) 2 (v := .slice n0.d n0.m n0.e) rfl).set i (by rw [List.getElem?_set, if_pos rfl, if_pos (by simpa using hl)]) 3 (v := .bool n1.b) rfl).set i (by rw [List.getElem?_set, if_pos rfl, if_pos (by simpa using hl)]) 4 (v := .slice n1.a n1.n n1.c) rfl) i (by rw [List.getElem?_set, if_pos rfl, if_pos (by simpa using hl)]) 5 (.slice n1.d n1.m n1.e)
 simpa using g
theorem Fr.grown {p : Bool} {w w' : World} {v : Value} {q : Rat} {row : Option Nat} (h : Fr p w v q) (hg : w.grownBy w' row) (hr : ∀ g, row = some g → mZ w g) : Fr p w' v q := by
 cases p with
 | true => exact aA.Pz (h : aA w v q) hg hr
 | false => exact uZ.Pz (h : uZ w v q) hg hr
theorem nX {w : World} {B T : Nat} {cs : Array Value} (h : w.heap[B]? = some (.cells cs T (0, 0))) : ∀ j u, cs.toList[j]? = some u → w.cell? ((⟨B, 0, none⟩ : Addr).add j) = some u := by
 intro j u hu
 have ea : (⟨B, 0, none⟩ : Addr).add j = ⟨B, 0 + j, none⟩ := by unfold Addr.add; split <;> simp_all
 rw [ea]
 exact af h (0 + j) u (by rw [Nat.zero_add]; simpa using hu)
theorem Sx.append {w0 w w' : World} {bs : List Bx} {fs : List Fx} {gs : List yz} (h : Sx w0 w bs fs) (hg : jF w0 w bs gs) (i : Nat) {g : yz} (hi : gs[i]? = some g) (l : List R3) (rs : List Rat) {v' : Value} (hl : l.length = g.k) (hr : ∀ j x, l[j]? = some x → Fr g.p w x.val (rs.getD j 0))
  (hL : dL w' w0.heap.size g.e (3 * g.k) v' (g.qs.length + 1) (g.xs ++ eX l)) (hgr : w.grownBy w' g.v.ownBlock) (hat : ∀ c, v'.ownBlock = some c → g.v.ownBlock = some c ∨ c = w.heap.size) :
  Sx w0 w' bs fs ∧ jF w0 w' bs (gs.set i ⟨g.e, g.p, g.k, v', g.xs ++ eX l, g.qs ++ [rs]⟩) := by
 have hm : g ∈ gs := List.mem_iff_getElem?.2 ⟨i, hi⟩
 have hnd : ∀ c, g.v.ownBlock = some c → mZ w c := (hg.row i g hi).2
 have hfr : ∀ p v q, Fr p w v q → Fr p w' v q := fun p v q hf => hf.grown hgr hnd
 have hblt : ∀ b, b ∈ bs → b.1 < w.heap.size := fun b hb => by
  obtain ⟨j, hj⟩ := List.mem_iff_getElem?.1 hb
  exact ai (h.box j b hj).1
 refine ⟨⟨h.bel.grown hgr h.bel.size (xg (hg.row i g hi).1), fun j b hj => ?_, h.Qm, fun j f hf => hfr _ _ _ (h.B_ j f hf)⟩, fun j g' hj => ?_, fun j g' hj => ?_, fun b hb g' hg' => ?_, fun j k g1 g2 hj hk hjk c hc => ?_⟩
 ·
  obtain ⟨h1, h2⟩ := h.box j b hj
  exact ⟨(hgr.block b.1 (ai h1) (fun e => hg.sep b (List.mem_iff_getElem?.2 ⟨j, hj⟩) g hm e.symm)).trans h1, h2⟩
 ·
  rw [List.getElem?_set] at hj
  by_cases hij : i = j
  ·
   subst hij
   rw [if_pos rfl] at hj
   split at hj
   ·
    injection hj with hj
    subst hj
    show dL w' w0.heap.size g.e (3 * g.k) v' (g.qs ++ [rs]).length (g.xs ++ eX l)
    rw [List.length_append]
    exact hL
   · exact absurd hj (by simp)
  ·
   rw [if_neg hij] at hj
   exact (hg.row j g' hj).grown hgr fun c hc e => hg.apart j i g' g hj hi (fun e => hij e.symm) c hc e.symm
 ·
  rw [List.getElem?_set] at hj
  by_cases hij : i = j
  ·
   subst hij
   rw [if_pos rfl] at hj
   split at hj
   ·
    injection hj with hj
    subst hj
    exact ((hg.mean i g hi).mono fun _ _ hf => hfr _ _ _ hf).snoc l rs hl (fun j x hx => hfr _ _ _ (hr j x hx))
   · exact absurd hj (by simp)
  ·
   rw [if_neg hij] at hj
   exact (hg.mean j g' hj).mono fun _ _ hf => hfr _ _ _ hf
 ·
  rcases List.mem_or_eq_of_mem_set hg' with hg' | rfl
  · exact hg.sep b hb g' hg'
  ·
   intro hc
   rcases hat _ hc with h1 | h1
   · exact hg.sep b hb g hm h1
   · have := hblt b hb; omega
 ·
  have hlt : ∀ (n : Nat) (g' : yz), gs[n]? = some g' → ∀ c, g'.v.ownBlock = some c → c < w.heap.size := fun n g' hn c hc => ((hg.row n g' hn).lt hc).1
  rw [List.getElem?_set] at hj hk
  by_cases hij : i = j
  ·
   subst hij
   rw [if_pos rfl] at hj
   rw [if_neg hjk] at hk
   split at hj
   ·
    injection hj with hj
    subst hj
    intro hc2
    rcases hat _ hc with h1 | h1
    · exact hg.apart i k g g2 hi hk hjk c h1 hc2
    · have := hlt k g2 hk c hc2; omega
   · exact absurd hj (by simp)
  ·
   rw [if_neg hij] at hj
   by_cases hik : i = k
   ·
    subst hik
    rw [if_pos rfl] at hk
    split at hk
    ·
     injection hk with hk
     subst hk
     intro hc2
     rcases hat _ hc2 with h1 | h1
     · exact hg.apart j i g1 g hj hi hjk c hc h1
     · have := hlt j g1 hj c hc; omega
    · exact absurd hk (by simp)
   ·
    rw [if_neg hik] at hk
    exact hg.apart j k g1 g2 hj hk hjk c hc
end Go.Proofs.YtkblihocfapklaaGreat
