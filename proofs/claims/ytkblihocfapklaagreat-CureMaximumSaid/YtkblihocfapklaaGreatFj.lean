/- Part j of the lemmas and walks. -/
import Derived.Test.YtkblihocfapklaaGreatFi
set_option maxRecDepth 100000
set_option maxHeartbeats 30000000
namespace Go.Proofs.YtkblihocfapklaaGreat
open Go.RowKit
theorem aq0 (l : List (Nat × Nat)) {n : Nat} (hn : n ≤ 3) : Pq (G_ l n) := fun i hi => by
 rw [uA] at hi
 rw [FU l hi]
 dsimp only
 omega
theorem aq2 (l : List (Nat × Nat)) {n : Nat} (hn : n ≤ 3) : Jq (G_ l n) := fun i => by
 by_cases hi : i < n
 ·
  rw [FU l hi]
  dsimp only
  refine ⟨aj (xq (by have := C9 l (i + 1); omega) (by omega) (by omega)) (by omega), ?_⟩
  rw [J9]
  exact aj (xq (by have := CZ l (i + 1); omega) (by omega) (by omega)) (by omega)
 ·
  rw [ajE l hi]
  exact ⟨h_ _ (by omega), h_ _ (by omega)⟩
structure ao1 (ls nx bk : List (List Rat)) (es : List lD) (a ed : Rat) : Prop where
 apU : ∀ (W : World) (vl vt va ve : Value), di true 7 W vl ls → kN aA W vt es → aA W va a → aA W ve ed → Calls Tryz.prog 10 #[vl, vt, va, ve, .int .i64 10] W (zu true 7 nx 0 W)
 amm : ∀ (W : World) (vl vt va ve : Value), di true 7 W vl (qQ ls ls.length) → kN aA W vt es → aA W va a → aA W ve ed → Calls Tryz.prog 10 #[vl, vt, va, ve, .int .i64 10] W (zu true 7 bk 0 W)
 tin : ∀ i, i < ls.length → gK (nU a ls ls.length) 10 ≤ aS nx i 3 ∧ aS nx i 3 ≤ aS nx i 4 ∧ aS nx i 4 ≤ yu (nT a ls ls.length) 10
 cin : ∀ i, i < ls.length → 0 ≤ aS nx i 5 ∧ aS nx i 5 ≤ aS nx i 6 ∧ aS nx i 6 ≤ 1
 turn : ∀ i j, i < ls.length → 3 ≤ j → j < 7 → aS bk i j = aS nx (ls.length - 1 - i) j
 sz : ∀ i j, bQ (aS nx i j) 1000
theorem U3 {ls nx bk : List (List Rat)} {es : List lD} {a ed : Rat} {sl : List (Nat × Nat)} (hes : es = G_ sl (yB sl)) (hsl : 0 < sl.length) (hco : yK ls ed) (hls : ∀ i j, bQ (aS ls i j) 1000) (h3 : ∀ i, aS ls i 3 ≤ aS ls i 4) (h5 : ∀ i, aS ls i 5 ≤ aS ls i 6)
  (hcu : ∀ i, i < ls.length → 0 ≤ aS ls i 5 ∧ aS ls i 6 ≤ 1) (hbd : ∀ i j, j = 3 ∨ j = 4 → lF 1000 (aS ls i j)) (hbh : ∀ i j, j = 1 ∨ j = 2 → lF 1000 (aS ls i j)) (hba : lF 1000 a) (hn : 0 < ls.length ∧ ls.length ≤ 6) (sa : bQ a 1000) (se : bQ ed 1000)
  (hnx : nx = nK ls es a ed 10 ls.length) (hbk : bk = nK (qQ ls ls.length) es a ed 10 ls.length) : ao1 ls nx bk es a ed := by
 have hN := Z_ sl
 have hct := anP sl hsl
 have hI := aq0 sl hN
 have hS := aq2 sl hN
 have hO := aq1 sl hN
 have hel : (G_ sl (yB sl)).length ≤ 1000 := by rw [uA]; omega
 rw [← hes] at hct hI hS hO hel
 have h0 := Sm hco hn hcu hct
 have hc2 : ∀ i, i < (qQ ls ls.length).length → 0 ≤ aS (qQ ls ls.length) i 5 ∧ aS (qQ ls ls.length) i 6 ≤ 1 := fun i hi => by
  rw [nG] at hi
  rw [oZ ls hi (by omega) (by omega), oZ ls hi (by omega) (by omega)]
  exact hcu _ (by omega)
 have h02 : lG (qQ ls ls.length) es ed = 0 := Sm (afF hco) (by rw [nG]; exact hn) hc2 hct
 have out : ∀ i j, ¬ i < ls.length → aS (qQ ls ls.length) i j = 0 := fun i j hi => oI (by rw [nG]; exact hi)
 have sl2 : ∀ i j, bQ (aS (qQ ls ls.length) i j) 1000 := fun i j => by
  by_cases hi : i < ls.length
  ·
   match j with
   | 0 => rw [KN ls hi]; split <;> exact hls _ _
   | j + 1 =>
    by_cases hj : j + 1 < 7
    · rw [oZ ls hi (by omega) hj]; exact hls _ _
    ·
     have e : aS (qQ ls ls.length) i (j + 1) = 0 := by
      show ((qQ ls ls.length).getD i []).getD (j + 1) 0 = 0
      rw [QX ls hi]
      unfold xE
      match j, hj with
      | j + 6, _ => rfl
     rw [e]; exact h_ _ (by omega)
  · rw [out i j hi]; exact h_ _ (by omega)
 have le2 : ∀ p q, 0 < p → p < 7 → 0 < q → q < 7 → (∀ i, aS ls i p ≤ aS ls i q) → ∀ i, aS (qQ ls ls.length) i p ≤ aS (qQ ls ls.length) i q := fun p q a1 a2 a3 a4 h i => by
  by_cases hi : i < ls.length
  · rw [oZ ls hi a1 a2, oZ ls hi a3 a4]; exact h _
  · rw [out i p hi, out i q hi]; exact Rat.le_refl
 have hinv : WY ls es ed := ⟨hls, h3, h5, h0⟩
 obtain ⟨hv, -, -, -⟩ := U4 (dX := a) (k := 10) (B := 1000) (by omega) hO (by omega) hinv hbd hbh hba
 have hok := wL hv.ok
 refine ⟨fun W vl vt va ve g1 g2 g3 g4 => ?_, fun W vl vt va ve g1 g2 g3 g4 => ?_, fun i hi => ?_, fun i hi => ?_, fun i j hi j3 j7 => ?_, ?_⟩
 ·
  have := IE ls es a ed 10 (by omega) 10 (by decide) vl vt va ve W g1 g2 g3 g4 hls sa se hel hI hS hO h3 h5
  rw [h0] at this
  rw [hnx]
  exact this
 ·
  have := IE (qQ ls ls.length) es a ed 10 (by omega) 10 (by decide) vl vt va ve W g1 g2 g3 g4 sl2 sa se hel hI hS hO (le2 3 4 (by omega) (by omega) (by omega) (by omega) h3) (le2 5 6 (by omega) (by omega) (by omega) (by omega) h5)
  rw [h02, nG] at this
  rw [hbk]
  exact this
 ·
  have := ad1 (dX := a) (es := es) hco hi 10
  rw [hnx]
  exact ⟨this.1, hv.t i, this.2⟩
 ·
  rw [hnx]
  have := (hok.cell i (by rw [jL]; exact hi)).2.2
  exact ⟨this.1, hv.c i, this.2⟩
 ·
  rw [hnx, hbk]
  exact aky ls es a ed 10 hi j3 j7
 ·
  rw [hnx]
  exact hv.sz
def af1 (es : List lD) (w : World) (e : Ending) (w' : World) : Prop := ∃ (ta : Option Addr) (tc : Nat) (ra : Option Addr) (rn rc : Nat), e = .returned (.agg #[.slice ta es.length tc, .slice ra rn rc]) ∧ kN aA w' (.slice ta es.length tc) es ∧ Below w.heap.size w w'
theorem ajB {sl : List (Nat × Nat)} {r : Nat} {w : World} {e : Ending} {w' : World} (h : Xu sl r w e w') : af1 (G_ sl (yB sl)) w e w' := by
 obtain ⟨va, vb, he, ht, hr, hb⟩ := h
 obtain ⟨ta, tc, rfl⟩ := ht.slice
 obtain ⟨ra, rc, rfl⟩ := hr.slice
 exact ⟨ta, tc, ra, _, rc, he, ht, hb⟩
def afZ (qs : List (List Rat)) (w : World) (e : Ending) (w' : World) : Prop := ∃ (gb bc : Nat) (ga : Option Addr) (gn gc : Nat) (xs : List Value), e = .returned (.tuple #[.slice (some ⟨gb, 0, none⟩) qs.length bc, .slice ga gn gc]) ∧ jF w w' [] [⟨46, true, 7, .slice (some ⟨gb, 0, none⟩) qs.length bc, xs, qs⟩] ∧ Below w.heap.size w w'
theorem aic {l : List (List Nat)} {r0 r1 r2 : Nat} {w : World} {e : Ending} {w' : World} (hl : 0 < l.length) (h : H7 l r0 r1 r2 w e w') : afZ (uN l l.length) w e w' := by
 obtain ⟨va, vb, xs, ys, he, hG, hb⟩ := h
 have h1 := hG.row 1 _ rfl
 dsimp only at h1
 obtain ⟨gb, bc, rfl⟩ := dL.place h1 (by rw [xK]; exact hl)
 have h0 := hG.row 0 _ rfl
 dsimp only at h0
 obtain ⟨ga, gc, rfl, _⟩ := h0.src
 exact ⟨gb, bc, ga, _, gc, xs, he, hG.tl, hb⟩
theorem dL.lL {w : World} {base : Nat} {e : TypeId} {size g n cap : Nat} {xs : List Value} (h : dL w base e size (.slice (some ⟨g, 0, none⟩) n cap) n xs) (hn : 0 < n) {j : Nat} {u : Value} (hj : xs[j]? = some u) : w.cell? ⟨g, j, none⟩ = some u ∧ w.frozen? ⟨g, j, none⟩ = false := by
 obtain ⟨ao, c, hv, hs⟩ := h.src
 obtain ⟨ad, had, hc⟩ := hs hn
 injection hv with h1 _ _
 rw [had] at h1
 injection h1 with h1
 subst h1
 have ea : (⟨g, 0, none⟩ : Addr).add j = ⟨g, j, none⟩ := by unfold Addr.add; split <;> simp_all
 obtain ⟨cur, hB, _⟩ := h.block rfl
 exact ⟨by rw [← ea]; exact hc j u hj, ah hB j⟩
theorem Tj (m : Nat) (h : m ≤ 50) : nM m 100 + nM m 100 ≤ 1 := by
 unfold nM
 have h1 : (((m : Nat) : Int) : Rat) ≤ ((50 : Int) : Rat) := by exact_mod_cast h
 have e : ((50 : Int) : Rat) = 50 := rfl
 have e2 : (((100 : Nat) : Int) : Rat) = 100 := rfl
 rw [e] at h1
 rw [e2]
 grind
theorem uo (l : List (List Nat)) {i : Nat} (hi : i < l.length) (j : Nat) : aS (uN l l.length) i j = (D_ l i).getD j 0 := by unfold aS; rw [Yw l hi]
theorem xM (l : List (List Nat)) {i : Nat} (hi : ¬ i < l.length) (j : Nat) : aS (uN l l.length) i j = 0 := by
 have e : (uN l l.length).getD i [] = [] := by
  rw [List.getD_eq_getElem?_getD, List.getElem?_eq_none (by rw [xK]; omega)]
  rfl
 unfold aS
 rw [e]
 rfl
theorem NP (n d : Nat) (h : 0 < d) : 0 ≤ nM n d := rq n d (by omega)
theorem aia {l : List (List Nat)} (hlb : ∀ i, i < l.length → ∀ j, j < 7 → qY l i j ≤ 255) : ∀ i j, bQ (aS (uN l l.length) i j) 1000 := fun i j => by
 by_cases hi : i < l.length
 ·
  rw [uo l hi]
  have q : ∀ m d, m ≤ 1000 → d ≤ 1000 → d ≠ 0 → bQ (nM m d) 100 := fun m d h1 h2 h3 => aj (xq h1 h2 h3) (by omega)
  have t : bQ (CP l i) 100 := aj (uK (n := 4 * (qY l i 3 : Int) - 500) (k := 1) (by have := hlb i hi 3 (by omega); unfold ak; omega) (by omega)) (by omega)
  have h1 : bQ (O3 l i) 100 := q _ _ (by have := hlb i hi 1 (by omega); omega) (by omega) (by omega)
  have h2 : bQ (BQ l i) 100 := q _ _ (by have := hlb i hi 2 (by omega); omega) (by omega) (by omega)
  have h4 : bQ (uq l i) 100 := q _ _ (by have := hlb i hi 4 (by omega); omega) (by omega) (by omega)
  have h5 : bQ (Jj l i) 100 := q _ _ (by omega) (by omega) (by omega)
  have h6 : bQ (yA l i) 100 := q _ _ (by have := Nat.mod_le (qY l i 6) (101 - qY l i 5 % 101); have := hlb i hi 6 (by omega); omega) (by omega) (by omega)
  match j with
  | 0 => exact aj (q _ _ (by omega) (by omega) (by omega)) (by omega)
  | 1 => exact aj h1 (by omega)
  | 2 => exact aj (lN h1 h2) (by omega)
  | 3 => exact aj t (by omega)
  | 4 => exact aj (lN t h4) (by omega)
  | 5 => exact aj h5 (by omega)
  | 6 => exact aj (lN h5 h6) (by omega)
  | j + 7 => exact h_ _ (by omega)
 · rw [xM l hi]; exact h_ _ (by omega)
theorem alP {l : List (List Nat)} : ∀ i, aS (uN l l.length) i 3 ≤ aS (uN l l.length) i 4 := fun i => by
 by_cases hi : i < l.length
 ·
  rw [uo l hi, uo l hi]
  have := NP (qY l i 4) 4 (by omega)
  show CP l i ≤ CP l i + uq l i
  unfold uq
  grind
 · rw [xM l hi, xM l hi]; exact Rat.le_refl
theorem alN {l : List (List Nat)} : ∀ i, aS (uN l l.length) i 5 ≤ aS (uN l l.length) i 6 := fun i => by
 by_cases hi : i < l.length
 ·
  rw [uo l hi, uo l hi]
  have := NP (qY l i 6 % (101 - qY l i 5 % 101)) 100 (by omega)
  show Jj l i ≤ Jj l i + yA l i
  unfold yA
  grind
 · rw [xM l hi, xM l hi]; exact Rat.le_refl
theorem alO {l : List (List Nat)} : ∀ i, i < (uN l l.length).length → 0 ≤ aS (uN l l.length) i 0 ∧ aS (uN l l.length) i 0 + aS (uN l l.length) i 0 ≤ 1 := fun i hi => by
 rw [xK] at hi
 rw [uo l hi]
 exact ⟨NP _ _ (by omega), Tj _ (by omega)⟩
theorem ad2 {qs : List (List Rat)} {ed : Rat} (h7 : ∀ i, i < qs.length → (qs.getD i []).length = 7) (hp : ∀ i, i < qs.length → 0 ≤ aS qs i 0 ∧ aS qs i 0 + aS qs i 0 ≤ 1) (he : 0 ≤ ed ∧ ed + ed ≤ 1) (ht : ∀ i, aS qs i 3 ≤ aS qs i 4) : yK (xJ qs qs.length) ed := by
 have z := oD h7 qs.length (Nat.le_refl _)
 refine ⟨fun i hi => ?_, he, fun i hi => ?_, fun i hi => ?_⟩
 · rw [lC] at hi; rw [z, if_neg (by omega)]; exact hp i hi
 · rw [lC] at hi; rw [z, z, if_pos ⟨hi, .inl rfl⟩, if_pos ⟨hi, .inr rfl⟩]; exact ⟨rfl, rfl⟩
 · rw [z, z, if_neg (by omega), if_neg (by omega)]; exact ht i
theorem akO {qs : List (List Rat)} (h7 : ∀ i, i < qs.length → (qs.getD i []).length = 7) (hs : ∀ i j, bQ (aS qs i j) 1000) : ∀ i j, bQ (aS (xJ qs qs.length) i j) 1000 := fun i j => by
 rw [oD h7 qs.length (Nat.le_refl _)]
 split
 · exact h_ _ (by omega)
 · exact hs i j
theorem acD {qs : List (List Rat)} (h7 : ∀ i, i < qs.length → (qs.getD i []).length = 7) (j k : Nat) (hj : 2 < j) (hk : 2 < k) (h : ∀ i, aS qs i j ≤ aS qs i k) : ∀ i, aS (xJ qs qs.length) i j ≤ aS (xJ qs qs.length) i k := fun i => by
 rw [oD h7 qs.length (Nat.le_refl _), oD h7 qs.length (Nat.le_refl _), if_neg (by omega), if_neg (by omega)]
 exact h i
theorem RN {qs : List (List Rat)} (a : Rat) (h7 : ∀ i, i < qs.length → (qs.getD i []).length = 7) : ∀ n, nU a (xJ qs qs.length) n = nU a qs n
 | 0 => rfl
 | n + 1 => by
  show rW (nU a (xJ qs qs.length) n) (aS (xJ qs qs.length) n 3) = rW (nU a qs n) (aS qs n 3)
  rw [RN a h7 n, oD h7 qs.length (Nat.le_refl _), if_neg (by omega)]
theorem RI {qs : List (List Rat)} (a : Rat) (h7 : ∀ i, i < qs.length → (qs.getD i []).length = 7) : ∀ n, nT a (xJ qs qs.length) n = nT a qs n
 | 0 => rfl
 | n + 1 => by
  show qU (nT a (xJ qs qs.length) n) (aS (xJ qs qs.length) n 4) = qU (nT a qs n) (aS qs n 4)
  rw [RI a h7 n, oD h7 qs.length (Nat.le_refl _), if_neg (by omega)]
theorem afW {z : Int} (h1 : -1000 ≤ z) (h2 : z ≤ 1000) : lF 1000 ((z : Int) : Rat) := by
 unfold lF
 have g1 : ((-1000 : Int) : Rat) ≤ ((z : Int) : Rat) := Rat.intCast_le_intCast.2 h1
 have g2 : ((z : Int) : Rat) ≤ ((1000 : Int) : Rat) := Rat.intCast_le_intCast.2 h2
 have c1 : (((1000 : Nat) : Int) : Rat) = 1000 := rfl
 have c2 : ((-1000 : Int) : Rat) = -1000 := rfl
 have c3 : ((1000 : Int) : Rat) = 1000 := rfl
 rw [c1]
 rw [c2] at g1
 rw [c3] at g2
 exact ⟨g1, g2⟩
theorem ae3 (w : World) : Calls Tryz.prog 11 #[.int .i64 1] w (dW 1 w) := CY 1 w (by omega) (by omega)
theorem alQ {l : List (List Nat)} : ∀ i, i < (uN l l.length).length → 0 ≤ aS (uN l l.length) i 5 ∧ aS (uN l l.length) i 6 ≤ 1 := fun i hi => by
 rw [xK] at hi
 rw [uo l hi, uo l hi]
 refine ⟨NP _ _ (by omega), ?_⟩
 show Jj l i + yA l i ≤ 1
 unfold Jj yA
 rw [Tm, ← NQ 100 (by omega)]
 have := Nat.mod_lt (qY l i 6) (show 0 < 101 - qY l i 5 % 101 by omega)
 exact xu (by omega) (by omega)
theorem alM {l : List (List Nat)} (hlb : ∀ i, i < l.length → ∀ j, j < 7 → qY l i j ≤ 255) : ∀ i j, j = 3 ∨ j = 4 → lF 1000 (aS (uN l l.length) i j) := fun i j hj => by
 by_cases hi : i < l.length
 ·
  rw [uo l hi]
  have h3 := hlb i hi 3 (by omega)
  have h4 := hlb i hi 4 (by omega)
  have t0 : ((-500 : Int) : Rat) ≤ CP l i := Rat.intCast_le_intCast.2 (show (-500 : Int) ≤ 4 * (qY l i 3 : Int) - 500 by omega)
  have t1 : CP l i ≤ ((520 : Int) : Rat) := Rat.intCast_le_intCast.2 (show 4 * (qY l i 3 : Int) - 500 ≤ (520 : Int) by omega)
  have w0 : 0 ≤ uq l i := NP _ _ (by omega)
  have w1 : uq l i ≤ ((255 : Int) : Rat) := by
   have e : uq l i ≤ nM (255 * 4) 4 := xu (by omega) (by omega)
   have e2 : nM (255 * 4) 4 = ((255 : Int) : Rat) := by decide +kernel
   rw [e2] at e
   exact e
  have c1 : ((-500 : Int) : Rat) = -500 := rfl
  have c2 : ((520 : Int) : Rat) = 520 := rfl
  have c3 : ((255 : Int) : Rat) = 255 := rfl
  have c4 : (((1000 : Nat) : Int) : Rat) = 1000 := rfl
  rw [c1] at t0
  rw [c2] at t1
  rw [c3] at w1
  unfold lF
  rw [c4]
  rcases hj with rfl | rfl
  ·
   show -1000 ≤ CP l i ∧ CP l i ≤ 1000
   exact ⟨by grind, by grind⟩
  ·
   show -1000 ≤ CP l i + uq l i ∧ CP l i + uq l i ≤ 1000
   exact ⟨by grind, by grind⟩
 ·
  rw [xM l hi]
  exact afW (z := 0) (by omega) (by omega)
theorem asE {qs : List (List Rat)} (h7 : ∀ i, i < qs.length → (qs.getD i []).length = 7) (h : ∀ i, i < qs.length → 0 ≤ aS qs i 5 ∧ aS qs i 6 ≤ 1) : ∀ i, i < (xJ qs qs.length).length → 0 ≤ aS (xJ qs qs.length) i 5 ∧ aS (xJ qs qs.length) i 6 ≤ 1 := fun i hi => by
 rw [lC] at hi
 rw [oD h7 qs.length (Nat.le_refl _), oD h7 qs.length (Nat.le_refl _), if_neg (by omega), if_neg (by omega)]
 exact h i hi
theorem asC {qs : List (List Rat)} (h7 : ∀ i, i < qs.length → (qs.getD i []).length = 7) (h : ∀ i j, j = 3 ∨ j = 4 → lF 1000 (aS qs i j)) : ∀ i j, j = 3 ∨ j = 4 → lF 1000 (aS (xJ qs qs.length) i j) := fun i j hj => by
 rw [oD h7 qs.length (Nat.le_refl _), if_neg (by omega)]
 exact h i j hj
theorem asD {qs : List (List Rat)} (h7 : ∀ i, i < qs.length → (qs.getD i []).length = 7) : ∀ i j, j = 1 ∨ j = 2 → lF 1000 (aS (xJ qs qs.length) i j) := fun i j hj => by
 rw [oD h7 qs.length (Nat.le_refl _)]
 by_cases hi : i < qs.length
 ·
  rw [if_pos ⟨hi, hj⟩]
  exact afW (z := 0) (by omega) (by omega)
 ·
  rw [if_neg (fun h => hi h.1), oI hi]
  exact afW (z := 0) (by omega) (by omega)
theorem RJ {a : Rat} {l : List (List Rat)} {B : Nat} (ha : lF B a) (hl : ∀ i, lF B (aS l i 3)) : ∀ n, lF B (nU a l n)
 | 0 => ha
 | n + 1 => by
  show lF B (rW (nU a l n) (aS l n 3))
  unfold rW; split
  · exact RJ ha hl n
  · exact hl n
theorem RH {a : Rat} {l : List (List Rat)} {B : Nat} (ha : lF B a) (hl : ∀ i, lF B (aS l i 4)) : ∀ n, lF B (nT a l n)
 | 0 => ha
 | n + 1 => by
  show lF B (qU (nT a l n) (aS l n 4))
  unfold qU; split
  · exact RH ha hl n
  · exact hl n
theorem Vu {w : World} {vx vy : Value} (h1 : cZ w vx 0 0) (h2 : cZ w vy 1 1) : Calls Tryz.prog 9 #[vx, vy] w (iK 0 1 w) := by
 have := Oa 0 0 1 1 vx vy w h1 h2 Rat.le_refl Rat.le_refl (h_ _ (by omega)) (h_ _ (by omega)) (jb _ (by omega)) (jb _ (by omega))
 rw [rX (by decide), rP (by decide)] at this
 exact this
theorem Sx.cold {w0 w : World} {bs : List Bx} {fs : List Fx} {e : TypeId} {b cap n : Nat} {xs : List Value} {qs : List (List Rat)} (h : Sx w0 w bs fs) (hg : jF w0 w bs [⟨e, true, 7, .slice (some ⟨b, 0, none⟩) n cap, xs, qs⟩]) (hn : qs.length = n) (m : Nat) (hm : m < n) (hk : ∀ i, i < qs.length → (qs.getD i []).length = 7) :
  ∃ xs', Sx w0 ((((((w.setCell ⟨b, m * 21 + 3, none⟩ (.bool false)).setCell ⟨b, m * 21 + 3 + 1, none⟩ (.slice none 0 0)).setCell ⟨b, m * 21 + 3 + 2, none⟩ (.slice none 0 0)).setCell ⟨b, m * 21 + 3 + 3, none⟩ (.bool false)).setCell ⟨b, m * 21 + 3 + 4, none⟩ (.slice none 0 0)).setCell ⟨b, m * 21 + 3 + 5, none⟩ (.slice none 0 0)) bs fs ∧
   jF w0 ((((((w.setCell ⟨b, m * 21 + 3, none⟩ (.bool false)).setCell ⟨b, m * 21 + 3 + 1, none⟩ (.slice none 0 0)).setCell ⟨b, m * 21 + 3 + 2, none⟩ (.slice none 0 0)).setCell ⟨b, m * 21 + 3 + 3, none⟩ (.bool false)).setCell ⟨b, m * 21 + 3 + 4, none⟩ (.slice none 0 0)).setCell ⟨b, m * 21 + 3 + 5, none⟩ (.slice none 0 0)) bs [⟨e, true, 7, .slice (some ⟨b, 0, none⟩) n cap, xs', zdS qs m⟩] := by
 subst hn
 obtain ⟨h1, g1⟩ := Sx.ab7 h hg 0 rfl rfl m 1 hm (by show 1 < 7; omega) hk dQ 0 (xU _)
 obtain ⟨h2, g2⟩ := Sx.ab7 h1 g1 0 rfl (by dsimp only; rw [List.length_set]) m 2 (by show m < (qs.set m _).length; rw [List.length_set]; exact hm) (by show 2 < 7; omega) (Dk qs m 1 0 7 hk) dQ 0 (xU _)
 exact ⟨_, h2, g2⟩
theorem Je {a : Rat} {l : List (List Rat)} {k : Nat} (ha : bQ a k) (hl : ∀ i j, bQ (aS l i j) k) : ∀ n, bQ (nU a l n) k
 | 0 => ha
 | n + 1 => ajG (Je ha hl n) (hl n 3)
theorem Jd {a : Rat} {l : List (List Rat)} {k : Nat} (ha : bQ a k) (hl : ∀ i j, bQ (aS l i j) k) : ∀ n, bQ (nT a l n) k
 | 0 => ha
 | n + 1 => aiU (Jd ha hl n) (hl n 4)
theorem arU (B : Nat) (w : World) : (Instr.arrayAt 35 (.slice (some ⟨B, 0, none⟩) 3 4)).run Tryz.prog w = .ok (.pointer (some ⟨B, 0, none⟩)) w := by kernel_rfl
theorem BU (l_ : List (List Nat)) (sl : List (Nat × Nat)) (n0 n1 n2 n3 dX : Nat) (vl vs : Value) (w : World) (h : qg w vl l_) (hlb : ∀ i, i < l_.length → ∀ j, j < 7 → qY l_ i j ≤ 255) (hs : 0 < sl.length → tZ w vs sl) (hs0 : ∃ a c, vs = .slice a sl.length c) (hsb : ∀ i, i < sl.length → (sl.getD i (0, 0)).1 ≤ 255 ∧ (sl.getD i (0, 0)).2 ≤ 255) (h0 : n0 ≤ 255) (h1 : n1 ≤ 255) (h2 : n2 ≤ 255) (h3 : n3 ≤ 255) (ha : dX ≤ 255) :
  Calls Tryz.prog 3 #[vl, vs, .agg #[.int .u8 (n0 : Int), .int .u8 (n1 : Int), .int .u8 (n2 : Int), .int .u8 (n3 : Int)], .int .u8 (dX : Int)] w (ja true w) := by
 have HS := ae (Sx.init w)
 have HBI := ae h
 obtain ⟨sa, sc, rfl⟩ := hs0
 obtain ⟨al, cl, rfl, _⟩ := h
 obtain ⟨d3, hd3⟩ : ∃ z : Int, z = 4 * (dX : Int) := ⟨_, rfl⟩
 obtain ⟨z3, hz3⟩ : ∃ z : Int, z = d3 - 500 := ⟨_, rfl⟩
 obtain ⟨pm, hpm⟩ : ∃ z, z = n0 % 51 := ⟨_, rfl⟩
 have hw1 : IntKind.i64.wrap (dX : Int) = (dX : Int) := IntWalk.i64_in _ (by omega)
 have hw2 : IntKind.i64.wrap (4 * (dX : Int)) = d3 := (IntWalk.i64_in _ (by omega)).trans hd3.symm
 have hw3 : IntKind.i64.wrap (d3 - 500) = z3 := (IntWalk.i64_in _ (by omega)).trans hz3.symm
 have hw4 : IntKind.i64.wrap (n0 : Int) = (n0 : Int) := IntWalk.i64_in _ (by omega)
 have hw5 : Int.tmod (n0 : Int) 51 = (pm : Int) := by rw [Int.tmod_eq_emod_of_nonneg (by omega)]; omega
 have hw6 : (n0 : Int) % 51 = (pm : Int) := by omega
 have hw7 : IntKind.i64.wrap (pm : Int) = (pm : Int) := IntWalk.i64_in _ (by omega)
 have HPA : Hid (∀ W, Calls Tryz.prog 7 #[.int .i64 z3, .int .i64 1] W (dW (z3 : Rat) W)) := fun W => IB z3 W (by omega) (by omega)
 have HPE : Hid (∀ W, Calls Tryz.prog 7 #[.int .i64 (pm : Int), .int .i64 100] W (dW (nM pm 100) W)) := fun W => j_ pm 100 100 rfl W (by omega) (by omega) (by omega)
 have SA : Hid (bQ ((z3 : Int) : Rat) 1000) := aj (uK (k := 1) (by unfold ak; omega) (by omega)) (by omega)
 have SE : Hid (bQ (nM pm 100) 1000) := aj (xq (by omega) (by omega) (by omega)) (by omega)
 have HED : Hid (0 ≤ nM pm 100 ∧ nM pm 100 + nM pm 100 ≤ 1) := by
  refine ⟨rq _ _ (by omega), ?_⟩
  exact Tj pm (by omega)
 have HBA : Hid (lF 1000 ((z3 : Int) : Rat)) := afW (by omega) (by omega)
 have HI1 : Hid (∀ W, Calls Tryz.prog 11 #[.int .i64 1] W (dW 1 W)) := fun W => ae3 W
 generalize ((z3 : Int) : Rat) = a at *
 generalize nM pm 100 = ed at *
 by_cases hl1 : l_.length < 1
 ·
  have t1 : decide ((l_.length : Int) < 1) = true := decide_eq_true (by omega)
  have t1b : decide (l_.length < 1) = true := decide_eq_true (by omega)
  go_enter Tryz.func3, Tryz.ntmps3
  go_wp2_with fail
  generalize hW1 : (w).alloc (.cells _ _) = W1 at *
  replace HS := ae (((HS.out).alloc (B := w.heap.size) rfl (by rfl)).to hW1 (by (try simp only [ig, ik]); rfl))
  clear hW1
  refine (qX _).mono ?_
  rintro e w2 ⟨rfl, hb2⟩
  replace HS := ae (HS.out.below hb2)
  clear hb2
  go_wp2_with fail
  go_ret
  exact ⟨by rfl, HS.out.bel⟩
 by_cases hl2 : 6 < l_.length
 ·
  have t1 : decide ((l_.length : Int) < 1) = false := decide_eq_false (by omega)
  have t1b : decide (l_.length < 1) = false := decide_eq_false (by omega)
  have t2 : decide ((l_.length : Int) > 6) = true := decide_eq_true (by omega)
  have t2b : decide (6 < l_.length) = true := decide_eq_true (by omega)
  go_enter Tryz.func3, Tryz.ntmps3
  go_wp2_with fail
  generalize hW3 : (w).alloc (.cells _ _) = W3 at *
  replace HS := ae (((HS.out).alloc (B := w.heap.size) rfl (by rfl)).to hW3 (by (try simp only [ig, ik]); rfl))
  clear hW3
  refine (qX _).mono ?_
  rintro e w4 ⟨rfl, hb4⟩
  replace HS := ae (HS.out.below hb4)
  clear hb4
  go_wp2_with fail
  go_ret
  exact ⟨by rfl, HS.out.bel⟩
 by_cases hl3 : sl.length < 1
 ·
  have t1 : decide ((l_.length : Int) < 1) = false := decide_eq_false (by omega)
  have t1b : decide (l_.length < 1) = false := decide_eq_false (by omega)
  have t2 : decide ((l_.length : Int) > 6) = false := decide_eq_false (by omega)
  have t2b : decide (6 < l_.length) = false := decide_eq_false (by omega)
  have t3 : decide ((sl.length : Int) < 1) = true := decide_eq_true (by omega)
  have t3b : decide (sl.length < 1) = true := decide_eq_true (by omega)
  go_enter Tryz.func3, Tryz.ntmps3
  go_wp2_with fail
  generalize hW5 : (w).alloc (.cells _ _) = W5 at *
  replace HS := ae (((HS.out).alloc (B := w.heap.size) rfl (by rfl)).to hW5 (by (try simp only [ig, ik]); rfl))
  clear hW5
  refine (qX _).mono ?_
  rintro e w6 ⟨rfl, hb6⟩
  replace HS := ae (HS.out.below hb6)
  clear hb6
  go_wp2_with fail
  go_ret
  exact ⟨by rfl, HS.out.bel⟩
 ·
  have HSO := ae (hs (by omega))
  have HL6 : Hid (l_.length ≤ 6) := by show _ ≤ _; omega
  have HKN : Hid (∀ W v, tZ W v sl → Calls Tryz.prog 5 #[v, .int .u8 (n3 : Int)] W (af1 (G_ sl (yB sl)) W)) := fun W v h => (J7 sl n3 (n3 % 251) v W h hsb h3 rfl).mono fun _ _ => ajB
  have HBO : Hid (∀ W v, qg W v l_ → Calls Tryz.prog 6 #[v, .agg #[.int .u8 (n0 : Int), .int .u8 (n1 : Int), .int .u8 (n2 : Int)]] W (afZ (uN l_ l_.length) W)) := fun W v h => (O8 l_ n0 n1 n2 _ _ _ v W h hlb (by omega) h0 h1 h2 rfl rfl rfl).mono fun _ _ => aic (by omega)
  have hqn : (uN l_ l_.length).length = l_.length := xK _ _
  have Gv : Hid (0 < (uN l_ l_.length).length ∧ (uN l_ l_.length).length ≤ 6) := by show _ ∧ _; rw [hqn]; omega
  have Ro : Hid (∀ i, i < (uN l_ l_.length).length → ((uN l_ l_.length).getD i []).length = 7) := fun i hi => by rw [hqn] at hi; rw [Yw l_ hi]; rfl
  have TY := ae (aia hlb)
  have HQT := ae (alP (l := l_))
  have HQC := ae (alN (l := l_))
  have HQP := ae (alO (l := l_))
  have HQU := ae (alQ (l := l_))
  have HQB := ae (alM hlb)
  have HKP : Hid (0 < sl.length) := by show _ < _; omega
  obtain ⟨es, hes⟩ : ∃ z, z = G_ sl (yB sl) := ⟨_, rfl⟩
  obtain ⟨qs, hqs⟩ : ∃ z, z = uN l_ l_.length := ⟨_, rfl⟩
  rw [← hes] at HKN
  rw [← hqs] at HBO Gv Ro TY HQT HQC HQP HQU HQB
  have HQE := ae hqs
  have HEE := ae hes
  have t1 : decide ((l_.length : Int) < 1) = false := decide_eq_false (by omega)
  have t1b : decide (l_.length < 1) = false := decide_eq_false (by omega)
  have t2 : decide ((l_.length : Int) > 6) = false := decide_eq_false (by omega)
  have t2b : decide (6 < l_.length) = false := decide_eq_false (by omega)
  have t3 : decide ((sl.length : Int) < 1) = false := decide_eq_false (by omega)
  have t3b : decide (sl.length < 1) = false := decide_eq_false (by omega)
  clear hes hqs hqn hd3 hz3 hpm hs hl1 hl2 hl3
  go_enter Tryz.func3, Tryz.ntmps3
  go_wp2_with fail
  generalize hW7 : (w).alloc (.cells _ _) = W7 at *
  replace HS := ae (((HS.out).alloc (B := w.heap.size) rfl (by rfl)).to hW7 (by (try simp only [ig, ik]); rfl))
  clear hW7
  refine (HKN.out _ _ (HSO.out.below HS.out.bel)).mono ?_
  rintro e w8 ⟨ta, tc, ra, rn, rc, rfl, am2, hb8⟩
  have HTB := ae am2
  clear am2
  replace HS := ae (HS.out.below hb8)
  clear hb8
  have jq := ae (Below.refl w8.heap.size w8)
  have atZ := arU w.heap.size
  have bg := (HS.out.at 0 _ _ _ rfl)
  have iy := af bg 0 (.int .u8 (n0 : Int)) rfl
  have iL := af bg 1 (.int .u8 (n1 : Int)) rfl
  have jD := af bg 2 (.int .u8 (n2 : Int)) rfl
  have pg := af bg 3 (.int .u8 (n3 : Int)) rfl
  have rG := ai bg
  clear bg
  go_wp2_with fail
  clear iy iL jD pg rG
  have tX : Hid (w8.heap.size ≤ w8.heap.size) := by first | exact jq.out.size | (show _ ≤ _; have := jq.out.size; omega)
  generalize hW9 : (w8).alloc (.cells _ _) = W9 at *
  replace HS := ae (((HS.out).alloc (B := w8.heap.size) rfl (by rfl)).to hW9 (by (try simp only [ig, ik]); rfl))
  replace jq : Hid (Below w8.heap.size w8 W9) := by subst hW9; exact ae ((dC jq.out))
  clear hW9
  have akZ := ae (Sx.lt HS.out)
  have ak0 := ae HS.out.bel.size
  refine (HBO.out _ _ (HBI.out.below HS.out.bel)).mono ?_
  rintro e w11 ⟨gb, bc, ga, gn, gc, xs, rfl, aio, yV⟩
  have HGB := ae (Nat.le_trans jq.out.size ((aio.row 0 _ rfl).lt rfl).2)
  have HG := ae (jF.lift ak0.out akZ.out aio)
  clear aio akZ ak0
  replace HS := ae (HS.out.below yV)
  replace jq := ae (ax jq.out yV)
  clear yV
  go_wp2_with fail
  refine wp_region_held_drew (S := (fun w' => Sx w w' [(w8.heap.size, #[.slice ta es.length tc, .slice ra rn rc], 29), (w.heap.size, #[.int .u8 (n0 : Int), .int .u8 (n1 : Int), .int .u8 (n2 : Int), .int .u8 (n3 : Int)], 24)] [])) (by kernel_rfl) ((HS.out.drew).bare) (fun hh => ?_)
  replace HS := ae HS.out.drew
  replace jq := ae (ax jq.out (Below.refl _ _).drew)
  replace HG := ae (HG.out.below (Below.refl _ _).drew)
  have BM := ae HS.out.bel.size
  have ahr := ae jq.out.size
  refine dF (i := 0) (v := ?afI) rfl ?Jz ?afx
  case Jz => intro u aH; go_simp <;> with_reducible rfl
  try simp only [ag]
  refine dF (i := 1) (v := ?akA) rfl ?PU ?akr
  case PU => intro u aH; go_simp <;> with_reducible rfl
  try simp only [ag]
  refine dF (i := 2) (v := ?aoo) rfl ?ZE ?an9
  case ZE => intro u aH; go_simp <;> with_reducible rfl
  try simp only [ag]
  refine dF (i := 3) (v := ?arZ) rfl ?aiX ?arn
  case aiX => intro u aH; go_simp <;> with_reducible rfl
  try simp only [ag]
  refine dF (i := 5) (v := ?ar0) rfl ?aiY ?aro
  case aiY => intro u aH; go_simp <;> with_reducible rfl
  try simp only [ag]
  refine dF (i := 6) (v := ?ar1) rfl ?aiZ ?arp
  case aiZ => intro u aH; (try dsimp only at aH); have fH := (aH.at 1 _ _ _ rfl); have kH := af fH 0 (.int .u8 (n0 : Int)) rfl; have kJ := af fH 1 (.int .u8 (n1 : Int)) rfl; have kK := af fH 2 (.int .u8 (n2 : Int)) rfl; have qN := af fH 3 (.int .u8 (n3 : Int)) rfl; clear fH; clear aH; go_simp <;> with_reducible rfl
  try simp only [ag]
  refine dF (i := 7) (v := ?ar2) rfl ?ai0 ?arq
  case ai0 => intro u aH; go_simp <;> with_reducible rfl
  try simp only [ag]
  refine dF (i := 8) (v := ?aop) rfl ?UK ?an'
  case UK => intro u aH; go_simp <;> with_reducible rfl
  try simp only [ag]
  refine dY [4, 9, 10, 11] [4, 9, 10, 11] [] [57, 62, 12, 13] #[true, true, true, true, true, true, true, true, true, true, true, true, false, false] 2 [(4, 57), (9, 62), (10, 12), (11, 13)] [(4, []), (9, [4]), (10, []), (11, [])] [10, 11] [(4, fun v w => ∃ z21 : R3, v = z21.val ∧ Fr true w z21.val a), (9, fun v w => ∃ z22 : R3, v = z22.val ∧ Fr true w z22.val ed), (10, fun v w => ∃ d_ : Nat, v = .pointer (some ⟨d_, 0, none⟩) ∧ w11.drew.heap.size ≤ d_ ∧ w.heap[d_]? = some (.cells #[.bool false, .slice none 0 0, .slice none 0 0] 40 (0, 0))), (11, fun v w => ∃ fB : Nat, v = .pointer (some ⟨fB, 0, none⟩) ∧ w11.drew.heap.size ≤ fB ∧ w.heap[fB]? = some (.cells #[.bool false, .slice none 0 0, .slice none 0 0] 40 (0, 0)))]
   rfl (by kernel_rfl) (by decide) rfl ⟨(fun v w w' hb ⟨z0, e, h0⟩ => ⟨z0, e, Fr.below h0 hb⟩), ⟨(fun v w w' hb ⟨z0, e, h0⟩ => ⟨z0, e, Fr.below h0 hb⟩), ⟨(fun v w w' hb ⟨B, e, g, k⟩ => ⟨B, e, g, ay k hb (ai k)⟩), ⟨(fun v w w' hb ⟨B, e, g, k⟩ => ⟨B, e, g, ay k hb (ai k)⟩), trivial⟩⟩⟩⟩ ⟨fun v w ⟨B, e, g, k⟩ => ⟨B, e, ai k⟩, ⟨fun v w ⟨B, e, g, k⟩ => ⟨B, e, ai k⟩, trivial⟩⟩ (fun w' hb => Sx.below hh hb) ⟨?_, ?_, ?_, ?_, trivial⟩ trivial (by decide) ?_
  ·
   refine dI.of rfl (fun f w' hb hp K hK => ?_)
   have pJ := HS
   replace HS := ae (HS.out.below hb)
   simp only [aQ, aT, List.foldl_cons, List.foldl_nil, ag]
   go_simp
   go_wp2_with (go_at_call 7; (with_reducible refine (HPA.out _).mono ?_); rintro e w21 ⟨v21, rfl, ZU, aiE⟩; obtain ⟨z21, rfl⟩ := ZU.bn)
   exact hK.out _ _ (z21.val) (by simp only [aQ, aT, List.foldl_cons, List.foldl_nil, ag]) ⟨z21, rfl, ZU⟩ (fun h => absurd h (by decide)) aiE
  ·
   refine dI.of rfl (fun f w' hb hp K hK => ?_)
   have pJ := HS
   replace HS := ae (HS.out.below hb)
   simp only [aQ, aT, List.foldl_cons, List.foldl_nil, ag]
   go_simp
   go_wp2_with (go_at_call 7; (with_reducible refine (HPE.out _).mono ?_); rintro e w22 ⟨v22, rfl, EL, EH⟩; obtain ⟨z22, rfl⟩ := EL.bn)
   exact hK.out _ _ (z22.val) (by simp only [aQ, aT, List.foldl_cons, List.foldl_nil, ag]) ⟨z22, rfl, EL⟩ (fun h => absurd h (by decide)) EH
  ·
   refine dI.of rfl (fun f w' hb hp K hK => ?_)
   have pJ := HS
   replace HS := ae (HS.out.below hb)
   simp only [aQ, aT, List.foldl_cons, List.foldl_nil, ag]
   go_simp
   exact hK.out _ _ (.pointer (some ⟨w'.heap.size, 0, none⟩)) (by simp only [aQ, aT, List.foldl_cons, List.foldl_nil, ag]) ⟨_, rfl, hb.size, aV _ _ _⟩ (fun _ => rfl) (gJ w' _)
  ·
   refine dI.of rfl (fun f w' hb hp K hK => ?_)
   have pJ := HS
   replace HS := ae (HS.out.below hb)
   simp only [aQ, aT, List.foldl_cons, List.foldl_nil, ag]
   go_simp
   exact hK.out _ _ (.pointer (some ⟨w'.heap.size, 0, none⟩)) (by simp only [aQ, aT, List.foldl_cons, List.foldl_nil, ag]) ⟨_, rfl, hb.size, aV _ _ _⟩ (fun _ => rfl) (gJ w' _)
  ·
   intro f acx hb hp hd
   obtain ⟨z21, e4, Ez⟩ : ∃ z21 : R3, f 57 = z21.val ∧ Fr true acx z21.val a := hp 4 (by decide)
   obtain ⟨z22, e9, Ar⟩ : ∃ z22 : R3, f 62 = z22.val ∧ Fr true acx z22.val ed := hp 9 (by decide)
   obtain ⟨d_, e10, g10, k10⟩ : ∃ d_ : Nat, f 12 = .pointer (some ⟨d_, 0, none⟩) ∧ w11.drew.heap.size ≤ d_ ∧ acx.heap[d_]? = some (.cells #[.bool false, .slice none 0 0, .slice none 0 0] 40 (0, 0)) := hp 10 (by decide)
   obtain ⟨fB, e11, g11, k11⟩ : ∃ fB : Nat, f 13 = .pointer (some ⟨fB, 0, none⟩) ∧ w11.drew.heap.size ≤ fB ∧ acx.heap[fB]? = some (.cells #[.bool false, .slice none 0 0, .slice none 0 0] 40 (0, 0)) := hp 11 (by decide)
   have aej : d_ ≠ fB := fun h => hd 10 11 (by decide) (by decide) (by decide) (by decide) (by decide) (by show f 12 = f 13; rw [e10, e11, h])
   replace hh := Sx.below hh hb
   have hlt := HS.out.lt
   replace HS := ae (HS.out.below hb)
   replace jq := ae (ax jq.out hb)
   have nJ := HG.out.row
   replace HG := ae (HG.out.below hb)
   replace HS := ae (HS.out.az Ez)
   replace HS := ae (HS.out.az Ar)
   have amo : w.heap.size ≤ d_ := Nat.le_trans BM.out g10
   have amS : ∀ b, b ∈ ([(w8.heap.size, #[.slice ta es.length tc, .slice ra rn rc], 29), (w.heap.size, #[.int .u8 (n0 : Int), .int .u8 (n1 : Int), .int .u8 (n2 : Int), .int .u8 (n3 : Int)], 24)] : List Bx) → b.1 ≠ d_ := by
    intro b hb
    simp only [List.mem_cons, List.not_mem_nil, or_false] at hb
    rcases hb with rfl | rfl
    · have := hlt _ (List.mem_iff_getElem?.2 ⟨0, rfl⟩); dsimp only at this ⊢; omega
    · have := hlt _ (List.mem_iff_getElem?.2 ⟨1, rfl⟩); dsimp only at this ⊢; omega
   replace HS := ae (HS.out.ku k10 amo (by rfl) amS)
   replace HG := ae (HG.out.box (B := d_) (T := 40) (cs := #[.bool false, .slice none 0 0, .slice none 0 0]) (fun g hg hc => by obtain ⟨n, hn⟩ := List.mem_iff_getElem?.1 hg; have := ((nJ n g hn).lt hc).1; have := g10; omega))
   have ahp : Hid (w8.heap.size ≤ d_) := Nat.le_trans ahr.out g10
   have amq : w.heap.size ≤ fB := Nat.le_trans BM.out g11
   have amT : ∀ b, b ∈ ([(d_, #[.bool false, .slice none 0 0, .slice none 0 0], 40), (w8.heap.size, #[.slice ta es.length tc, .slice ra rn rc], 29), (w.heap.size, #[.int .u8 (n0 : Int), .int .u8 (n1 : Int), .int .u8 (n2 : Int), .int .u8 (n3 : Int)], 24)] : List Bx) → b.1 ≠ fB := by
    intro b hb
    simp only [List.mem_cons, List.not_mem_nil, or_false] at hb
    rcases hb with rfl | rfl | rfl
    · exact aej
    · have := hlt _ (List.mem_iff_getElem?.2 ⟨0, rfl⟩); dsimp only at this ⊢; omega
    · have := hlt _ (List.mem_iff_getElem?.2 ⟨1, rfl⟩); dsimp only at this ⊢; omega
   replace HS := ae (HS.out.ku k11 amq (by rfl) amT)
   replace HG := ae (HG.out.box (B := fB) (T := 40) (cs := #[.bool false, .slice none 0 0, .slice none 0 0]) (fun g hg hc => by obtain ⟨n, hn⟩ := List.mem_iff_getElem?.1 hg; have := ((nJ n g hn).lt hc).1; have := g11; omega))
   have ahq : Hid (w8.heap.size ≤ fB) := Nat.le_trans ahr.out g11
   simp only [aQ, aT, List.foldl_cons, List.foldl_nil, ag, e4, e9, e10, e11]
   clear hp hd hb hlt e4 e9 e10 e11 nJ
   refine rdA (i := 12) rfl (fun K hK => ?_)
   have jf := (HS.out.at 1 _ _ _ rfl)
   have jJ := af jf 0 (.bool false) rfl
   have lV := af jf 1 (.slice none 0 0) rfl
   have lW := af jf 2 (.slice none 0 0) rfl
   have kP := ah jf 0
   have pz := ah jf 1
   have pF := ah jf 2
   have vS := ai jf
   clear jf
   go_simp
   refine hK.out _ _ ((((((HS.out).oz 1 dQ z21 rfl)).erase 1)).erase 0) (fun hh => ?_)
   clear hK K jJ lV lW kP pz pF vS
   try simp only [ag]
   generalize ad9 : (((acx).setCell _ _).setCell _ _).setCell _ _ = W25 at *
   replace HG := ae (((HG.out).oz (HS.out) 1 dQ z21 rfl).to ad9 (by (try simp only [ig, ik]); rfl))
   replace HS := ae (((HS.out).oz 1 dQ z21 rfl).to ad9 (by (try simp only [ig, ik]); rfl))
   replace jq : Hid (Below w8.heap.size w8 W25) := by subst ad9; exact ae (bC (bC (bC jq.out ahp.out) ahp.out) ahp.out)
   clear ad9
   refine rdA (i := 13) rfl (fun K hK => ?_)
   have mX := (HS.out.at 0 _ _ _ rfl)
   have rH := af mX 0 (.bool false) rfl
   have rJ := af mX 1 (.slice none 0 0) rfl
   have rM := af mX 2 (.slice none 0 0) rfl
   have ui := ah mX 0
   have uj := ah mX 1
   have uk := ah mX 2
   have Ji := ai mX
   clear mX
   go_simp
   refine hK.out _ _ ((((((HS.out).oz 0 dQ z22 rfl)).erase 1)).erase 0) (fun hh => ?_)
   clear hK K rH rJ rM ui uj uk Ji
   try simp only [ag]
   generalize MF : (((W25).setCell _ _).setCell _ _).setCell _ _ = W26 at *
   replace HG := ae (((HG.out).oz (HS.out) 0 dQ z22 rfl).to MF (by (try simp only [ig, ik]); rfl))
   replace HS := ae (((HS.out).oz 0 dQ z22 rfl).to MF (by (try simp only [ig, ik]); rfl))
   replace jq : Hid (Below w8.heap.size w8 W26) := by subst MF; exact ae (bC (bC (bC jq.out ahq.out) ahq.out) ahq.out)
   clear MF
   refine wpAnyH_done (by kernel_rfl) ?_ _
   obtain ⟨jJ, lV, lW, kP, pz, pF⟩ := eu (x := z21) (HS.out.at 1 _ _ _ rfl)
   have vS := ai (HS.out.at 1 _ _ _ rfl)
   go_wp2_with fail
   clear jJ lV lW kP pz pF vS
   refine (x8 z21 _).mono ?_
   rintro e KP ⟨rfl, Cb⟩
   replace HS := ae (HS.out.below Cb)
   replace jq := ae (ax jq.out Cb)
   replace HG := ae (HG.out.below Cb)
   clear Cb
   go_wp2_with fail
   have TV : Hid (w8.heap.size ≤ KP.heap.size) := by first | exact jq.out.size | (show _ ≤ _; have := jq.out.size; omega)
   generalize ad_ : (KP).alloc (.cells _ _) = W28 at *
   replace HG := ae (((HG.out).alloc (B := KP.heap.size) rfl).to ad_ (by (try simp only [ig, ik]); rfl))
   replace HS := ae (((HS.out).alloc (B := KP.heap.size) rfl (by rfl)).to ad_ (by (try simp only [ig, ik]); rfl))
   replace jq : Hid (Below w8.heap.size w8 W28) := by subst ad_; exact ae ((dC jq.out))
   clear ad_
   go_wp2_with fail
   go_loopw [67] (fun u67 wr => ∃ (i : Nat) (q0 q1 : R3) (rx : List Value), i ≤ qs.length ∧ u67 = .int .i64 i ∧ Hid (Sx w wr [(KP.heap.size, aY q0 q1, 43), (fB, z22.arr, 40), (d_, z21.arr, 40), (w8.heap.size, #[.slice ta es.length tc, .slice ra rn rc], 29), (w.heap.size, #[.int .u8 (n0 : Int), .int .u8 (n1 : Int), .int .u8 (n2 : Int), .int .u8 (n3 : Int)], 24)] [(true, q1.val, (nT a qs i)), (true, q0.val, (nU a qs i)), (true, z22.val, ed), (true, z21.val, a)]) ∧ Hid (jF w wr [(KP.heap.size, aY q0 q1, 43), (fB, z22.arr, 40), (d_, z21.arr, 40), (w8.heap.size, #[.slice ta es.length tc, .slice ra rn rc], 29), (w.heap.size, #[.int .u8 (n0 : Int), .int .u8 (n1 : Int), .int .u8 (n2 : Int), .int .u8 (n3 : Int)], 24)] [⟨46, true, 7, .slice (some ⟨gb, 0, none⟩) qs.length bc, rx, (xJ qs i)⟩]) ∧ Hid (Below w8.heap.size w8 wr))
    (fun u _ => qs.length - (intOf u).toNat)
   case atStart => exact ⟨0, z21, z21, xs, Nat.zero_le _, rfl, ae (((((HS.out.bare).az (HS.out.p 1 _ _ rfl)).az (HS.out.p 0 _ _ rfl)).az (HS.out.p 1 _ _ rfl)).az (HS.out.p 1 _ _ rfl)), HG, jq⟩
   case round =>
    obtain ⟨kL, anv⟩ : ∃ z, z = wr := ⟨_, rfl⟩
    subst anv
    clear HS HG jq
    obtain ⟨i, q0, q1, rx, hi, rfl, HS, HG, jq⟩ := hrel
    by_cases hlt : i < qs.length
    ·
     have hlt' : (i : Int) < qs.length := by omega
     have hge' : (0 : Int) ≤ i := by omega
     have gq := ae hlt
     have h6 : qs.length ≤ 6 := Gv.out.2
     go_upto_region 11 with fail
     obtain ⟨X1, c10, c11, c12, _⟩ := (HG.out.mean 0 _ rfl).2 i (by show i < (xJ qs _).length; rw [lC]; exact gq.out) 1 (show 1 < 7 by omega)
     obtain ⟨X2, c20, c21, c22, _⟩ := (HG.out.mean 0 _ rfl).2 i (by show i < (xJ qs _).length; rw [lC]; exact gq.out) 2 (show 2 < 7 by omega)
     have hrw : dL kL w.heap.size 46 21 (.slice (some ⟨gb, 0, none⟩) qs.length bc) qs.length rx := by have := HG.out.row 0 _ rfl; dsimp only at this; rw [lC] at this; exact this
     obtain ⟨d0, e0⟩ := hrw.lL Gv.out.1 c10
     obtain ⟨d1, e1⟩ := hrw.lL Gv.out.1 c11
     obtain ⟨d2, e2⟩ := hrw.lL Gv.out.1 c12
     obtain ⟨d3', e3⟩ := hrw.lL Gv.out.1 c20
     obtain ⟨d4, e4⟩ := hrw.lL Gv.out.1 c21
     obtain ⟨d5, e5⟩ := hrw.lL Gv.out.1 c22
     have aqt := (hrw.lt rfl).1
     dsimp only at d0 e0 d1 e1 d2 e2 d3' e3 d4 e4 d5 e5
     clear c10 c11 c12 c20 c21 c22 hrw
     go_upto_region 12 with fail
     clear d0 e0 d1 e1 d2 e2 d3' e3 d4 e4 d5 e5 aqt
     generalize hWz : ((((((kL).setCell _ _).setCell _ _).setCell _ _).setCell _ _).setCell _ _).setCell _ _ = Wz at *
     obtain ⟨rx1, hs1, hg1⟩ := Sx.cold HS.out HG.out (lC _ _) i gq.out (z_ Ro.out i)
     rw [hWz] at hs1 hg1
     replace jq : Hid (Below w8.heap.size w8 Wz) := by subst hWz; exact ae (bC (bC (bC (bC (bC (bC jq.out HGB.out) HGB.out) HGB.out) HGB.out) HGB.out) HGB.out)
     replace HS := ae hs1
     replace HG : Hid (jF w Wz [(KP.heap.size, aY q0 q1, 43), (fB, z22.arr, 40), (d_, z21.arr, 40), (w8.heap.size, #[.slice ta es.length tc, .slice ra rn rc], 29), (w.heap.size, #[.int .u8 (n0 : Int), .int .u8 (n1 : Int), .int .u8 (n2 : Int), .int .u8 (n3 : Int)], 24)] [⟨46, true, 7, .slice (some ⟨gb, 0, none⟩) qs.length bc, rx1, (xJ qs (i + 1))⟩]) := ae hg1
     clear hs1 hg1 hWz
     obtain ⟨T0, c30, c31, c32, ft0⟩ := (HG.out.mean 0 _ rfl).2 i (by show i < (xJ qs _).length; rw [lC]; exact gq.out) 3 (show 3 < 7 by omega)
     obtain ⟨T1, c40, c41, c42, ft1⟩ := (HG.out.mean 0 _ rfl).2 i (by show i < (xJ qs _).length; rw [lC]; exact gq.out) 4 (show 4 < 7 by omega)
     have hrw : dL Wz w.heap.size 46 21 (.slice (some ⟨gb, 0, none⟩) qs.length bc) qs.length rx1 := by have := HG.out.row 0 _ rfl; dsimp only at this; rw [lC] at this; exact this
     have hz3 : aS (xJ qs (i + 1)) i 3 = aS qs i 3 := by rw [oD Ro.out _ gq.out, if_neg (by omega)]
     have UX : aS (xJ qs (i + 1)) i 4 = aS qs i 4 := by rw [oD Ro.out _ gq.out, if_neg (by omega)]
     have alX : Fr true Wz T0.val (aS qs i 3) := by rw [← hz3]; exact ft0
     have alY : Fr true Wz T1.val (aS qs i 4) := by rw [← UX]; exact ft1
     obtain ⟨A, hA⟩ : ∃ z, i * 21 = z := ⟨_, rfl⟩
     have TC0 : Hid (Wz.cell? ⟨gb, A + 9, none⟩ = some (.bool T0.b)) := by
      have := (hrw.lL Gv.out.1 c30).1
      rw [show i * (3 * 7) + 3 * 3 = A + 9 by omega] at this
      exact this
     have TC1 : Hid (Wz.cell? ⟨gb, A + 10, none⟩ = some (.slice T0.a T0.n T0.c)) := by
      have := (hrw.lL Gv.out.1 c31).1
      rw [show i * (3 * 7) + 3 * 3 + 1 = A + 10 by omega] at this
      exact this
     have TC2 : Hid (Wz.cell? ⟨gb, A + 11, none⟩ = some (.slice T0.d T0.m T0.e)) := by
      have := (hrw.lL Gv.out.1 c32).1
      rw [show i * (3 * 7) + 3 * 3 + 2 = A + 11 by omega] at this
      exact this
     have TC3 : Hid (Wz.cell? ⟨gb, A + 12, none⟩ = some (.bool T1.b)) := by
      have := (hrw.lL Gv.out.1 c40).1
      rw [show i * (3 * 7) + 4 * 3 = A + 12 by omega] at this
      exact this
     have TC4 : Hid (Wz.cell? ⟨gb, A + 13, none⟩ = some (.slice T1.a T1.n T1.c)) := by
      have := (hrw.lL Gv.out.1 c41).1
      rw [show i * (3 * 7) + 4 * 3 + 1 = A + 13 by omega] at this
      exact this
     have TC5 : Hid (Wz.cell? ⟨gb, A + 14, none⟩ = some (.slice T1.d T1.m T1.e)) := by
      have := (hrw.lL Gv.out.1 c42).1
      rw [show i * (3 * 7) + 4 * 3 + 2 = A + 14 by omega] at this
      exact this
     have HBT := ae (hrw.lt rfl).1
     have Rl := ae (Below.refl Wz.heap.size Wz)
     replace HS := ae ((HS.out.az alX).az alY)
     have aoY := ae (Je SA.out TY.out i)
     have aoX := ae (Jd SA.out TY.out i)
     have HAB := ae (Rat.le_trans (zB a qs i) (zy a qs i))
     have HTT := ae (HQT.out i)
     have HS3 := ae (TY.out i 3)
     have HS4 := ae (TY.out i 4)
     clear c30 c31 c32 c40 c41 c42 ft0 ft1 alX alY hrw hz3 UX
     go_wp2_with fail
     refine wp_region_held_drew (S := (fun w' => Sx w w' [(fB, z22.arr, 40), (d_, z21.arr, 40), (w8.heap.size, #[.slice ta es.length tc, .slice ra rn rc], 29), (w.heap.size, #[.int .u8 (n0 : Int), .int .u8 (n1 : Int), .int .u8 (n2 : Int), .int .u8 (n3 : Int)], 24)] [])) (by kernel_rfl) ((HS.out.drew).erase 0) (fun hh => ?_)
     replace HS := ae HS.out.drew
     replace jq := ae (ax jq.out (Below.refl _ _).drew)
     replace Rl := ae (ax Rl.out (Below.refl _ _).drew)
     replace HG := ae (HG.out.below (Below.refl _ _).drew)
     have BM := ae HS.out.bel.size
     have ahr := ae jq.out.size
     have atD := ae Rl.out.size
     refine dF (i := 1) (v := ?aot) rfl ?ZI ?aoc
     case ZI => intro u aH; go_simp <;> with_reducible rfl
     try simp only [ag]
     refine dF (i := 2) (v := ?aou) rfl ?ZJ ?aod
     case ZJ => intro u aH; go_simp <;> with_reducible rfl
     try simp only [ag]
     refine dF (i := 3) (v := ?aov) rfl ?ZK ?aoe
     case ZK => intro u aH; go_simp <;> with_reducible rfl
     try simp only [ag]
     refine dF (i := 4) (v := ?ar') rfl ?ai6 ?ary
     case ai6 => intro u aH; go_simp <;> with_reducible rfl
     try simp only [ag]
     refine dY [0, 5, 6] [0, 5, 6] [] [75, 80, 81] #[true, true, true, true, true, true, true, false] 1 [(0, 75), (5, 80), (6, 81)] [(0, []), (5, []), (6, [0, 5])] [] [(0, fun v w => v = .agg #[.bool q0.b, .slice q0.a q0.n q0.c, .slice q0.d q0.m q0.e, .bool q1.b, .slice q1.a q1.n q1.c, .slice q1.d q1.m q1.e]), (5, fun v w => v = .agg #[.bool T0.b, .slice T0.a T0.n T0.c, .slice T0.d T0.m T0.e, .bool T1.b, .slice T1.a T1.n T1.c, .slice T1.d T1.m T1.e]), (6, fun v w => ∃ lZ mf : R3, v = .agg #[.bool lZ.b, .slice lZ.a lZ.n lZ.c, .slice lZ.d lZ.m lZ.e, .bool mf.b, .slice mf.a mf.n mf.c, .slice mf.d mf.m mf.e] ∧ Fr true w lZ.val (rW (nU a qs i) (aS qs i 3)) ∧ Fr true w mf.val (qU (nT a qs i) (aS qs i 4)))]
      rfl (by kernel_rfl) (by decide) rfl ⟨(fun v w w' hb e => e), ⟨(fun v w w' hb e => e), ⟨(fun v w w' hb ⟨z0, z1, e, h0, h1⟩ => ⟨z0, z1, e, Fr.below h0 hb, Fr.below h1 hb⟩), trivial⟩⟩⟩ trivial (fun w' hb => Sx.below hh hb) ⟨?_, ?_, ?_, trivial⟩ trivial (by decide) ?_
     ·
      refine dI.of rfl (fun f w' hb hp K hK => ?_)
      have pJ := HS
      replace HS := ae (HS.out.below hb)
      simp only [aQ, aT, List.foldl_cons, List.foldl_nil, ag]
      obtain ⟨BP, LH, LJ, Uc, Ud, Ue, _⟩ := dO (x := q0) (y := q1) (HS.out.at 0 _ _ _ rfl)
      go_simp
      exact hK.out _ _ (.agg #[.bool q0.b, .slice q0.a q0.n q0.c, .slice q0.d q0.m q0.e, .bool q1.b, .slice q1.a q1.n q1.c, .slice q1.d q1.m q1.e]) (by simp only [aQ, aT, List.foldl_cons, List.foldl_nil, ag]) rfl (fun h => absurd h (by decide)) (Below.refl _ _)
     ·
      refine dI.of rfl (fun f w' hb hp K hK => ?_)
      have pJ := HS
      replace HS := ae (HS.out.below hb)
      simp only [aQ, aT, List.foldl_cons, List.foldl_nil, ag]
      replace Rl := ae (ax Rl.out hb)
      have atE := (Rl.out.cell (p := ⟨gb, A + 9, none⟩) HBT.out).trans TC0.out
      have asF := (Rl.out.cell (p := ⟨gb, A + 10, none⟩) HBT.out).trans TC1.out
      have asG := (Rl.out.cell (p := ⟨gb, A + 11, none⟩) HBT.out).trans TC2.out
      have asH := (Rl.out.cell (p := ⟨gb, A + 12, none⟩) HBT.out).trans TC3.out
      have asI := (Rl.out.cell (p := ⟨gb, A + 13, none⟩) HBT.out).trans TC4.out
      have asJ := (Rl.out.cell (p := ⟨gb, A + 14, none⟩) HBT.out).trans TC5.out
      go_simp
      exact hK.out _ _ (.agg #[.bool T0.b, .slice T0.a T0.n T0.c, .slice T0.d T0.m T0.e, .bool T1.b, .slice T1.a T1.n T1.c, .slice T1.d T1.m T1.e]) (by simp only [aQ, aT, List.foldl_cons, List.foldl_nil, ag]) rfl (fun h => absurd h (by decide)) (Below.refl _ _)
     ·
      refine dI.of rfl (fun f w' hb hp K hK => ?_)
      obtain e0 : f 75 = .agg #[.bool q0.b, .slice q0.a q0.n q0.c, .slice q0.d q0.m q0.e, .bool q1.b, .slice q1.a q1.n q1.c, .slice q1.d q1.m q1.e] := hp 0 (by decide)
      obtain e5 : f 80 = .agg #[.bool T0.b, .slice T0.a T0.n T0.c, .slice T0.d T0.m T0.e, .bool T1.b, .slice T1.a T1.n T1.c, .slice T1.d T1.m T1.e] := hp 5 (by decide)
      have pJ := HS
      replace HS := ae (HS.out.below hb)
      simp only [aQ, aT, List.foldl_cons, List.foldl_nil, ag, e0, e5]
      have a37 := HS.out.p 3 _ _ rfl
      have a38 := HS.out.p 2 _ _ rfl
      have a39 := HS.out.p 1 _ _ rfl
      have a40 := HS.out.p 0 _ _ rfl
      go_simp
      go_wp2_with (go_at_call 9; (with_reducible refine (Oa (nU a qs i) (nT a qs i) (aS qs i 3) (aS qs i 4) _ _ _ (gB a37 a38) (gB a39 a40) HAB.out HTT.out (aj aoY.out (by omega)) (aj aoX.out (by omega)) (aj HS3.out (by omega)) (aj HS4.out (by omega))).mono ?_); rintro e w36 ⟨v36, rfl, ⟨lZ, mf, rfl, aep, aqM⟩, aiI⟩)
      exact hK.out _ _ (.agg #[.bool lZ.b, .slice lZ.a lZ.n lZ.c, .slice lZ.d lZ.m lZ.e, .bool mf.b, .slice mf.a mf.n mf.c, .slice mf.d mf.m mf.e]) (by simp only [aQ, aT, List.foldl_cons, List.foldl_nil, ag, e0, e5]) ⟨lZ, mf, rfl, aep, aqM⟩ (fun h => absurd h (by decide)) aiI
     ·
      intro f akN hb hp hd
      obtain e0 : f 75 = .agg #[.bool q0.b, .slice q0.a q0.n q0.c, .slice q0.d q0.m q0.e, .bool q1.b, .slice q1.a q1.n q1.c, .slice q1.d q1.m q1.e] := hp 0 (by decide)
      obtain e5 : f 80 = .agg #[.bool T0.b, .slice T0.a T0.n T0.c, .slice T0.d T0.m T0.e, .bool T1.b, .slice T1.a T1.n T1.c, .slice T1.d T1.m T1.e] := hp 5 (by decide)
      obtain ⟨lZ, mf, e6, wK, Jt⟩ : ∃ lZ mf : R3, f 81 = .agg #[.bool lZ.b, .slice lZ.a lZ.n lZ.c, .slice lZ.d lZ.m lZ.e, .bool mf.b, .slice mf.a mf.n mf.c, .slice mf.d mf.m mf.e] ∧ Fr true akN lZ.val (rW (nU a qs i) (aS qs i 3)) ∧ Fr true akN mf.val (qU (nT a qs i) (aS qs i 4)) := hp 6 (by decide)
      replace hh := Sx.below hh hb
      have hlt := HS.out.lt
      replace HS := ae (HS.out.below hb)
      replace jq := ae (ax jq.out hb)
      replace Rl := ae (ax Rl.out hb)
      have nJ := HG.out.row
      replace HG := ae (HG.out.below hb)
      replace HS := ae (HS.out.az wK)
      replace HS := ae (HS.out.az Jt)
      simp only [aQ, aT, List.foldl_cons, List.foldl_nil, ag, e0, e5, e6]
      clear hp hd hb hlt e0 e5 e6 nJ
      refine rdA (i := 7) rfl (fun K hK => ?_)
      obtain ⟨BP, LH, LJ, Uc, Ud, Ue, DN, OM, OO, Yg, Yh, Yi⟩ := dO (x := q0) (y := q1) (HS.out.at 0 _ _ _ rfl)
      have Yj := ai (HS.out.at 0 _ _ _ rfl)
      go_simp
      clear Rl
      refine hK.out _ _ ((((HS.out).gp 0 q0 q1 lZ mf rfl)).erase 0) (fun hh => ?_)
      clear hK K BP LH LJ Uc Ud Ue DN OM OO Yg Yh Yi Yj
      try simp only [ag]
      generalize MH : ((((((akN).setCell _ _).setCell _ _).setCell _ _).setCell _ _).setCell _ _).setCell _ _ = W41 at *
      replace HG := ae (((HG.out).gp (HS.out) 0 q0 q1 lZ mf rfl).to MH (by (try simp only [ig, ik]); rfl))
      replace HS := ae (((HS.out).gp 0 q0 q1 lZ mf rfl).to MH (by (try simp only [ig, ik]); rfl))
      replace jq : Hid (Below w8.heap.size w8 W41) := by subst MH; exact ae (bC (bC (bC (bC (bC (bC jq.out TV.out) TV.out) TV.out) TV.out) TV.out) TV.out)
      clear MH
      refine wpAnyH_done (by kernel_rfl) ?_ _
      go_wp2_with fail
      exact ⟨⟨i + 1, lZ, mf, rx1, by have := gq.out; omega, by go_num, ae (((((HS.out.bare).az (HS.out.p 7 _ _ rfl)).az (HS.out.p 6 _ _ rfl)).az (HS.out.p 1 _ _ rfl)).az (HS.out.p 0 _ _ rfl)), ae (HG.out), jq⟩, bU gq.out⟩
    ·
     obtain rfl : i = qs.length := by omega
     have hco := ad2 (ed := ed) Ro.out HQP.out HED.out HQT.out
     have hls := akO Ro.out TY.out
     have hlt3 := acD Ro.out 3 4 (by omega) (by omega) HQT.out
     have ajq := acD Ro.out 5 6 (by omega) (by omega) HQC.out
     have hl7 := z_ Ro.out qs.length
     have hln := lC qs qs.length
     have hal := RN a Ro.out
     have hcu := asE Ro.out HQU.out
     have hbd := asC Ro.out HQB.out
     have hbh := asD Ro.out
     have hah := RI a Ro.out
     obtain ⟨ls, hz⟩ : ∃ z, z = xJ qs qs.length := ⟨_, rfl⟩
     rw [← hz] at HG hco hls hlt3 ajq hl7 hln hal hah hcu hbd hbh
     have HCO := ae hco
     have HLS := ae hls
     have TW := ae hlt3
     have HL5 := ae ajq
     have HL7 := ae hl7
     have Ae := ae hln
     have pI := ae hal
     have HAH := ae hah
     have HCU := ae hcu
     have HBD := ae hbd
     have HBH := ae hbh
     clear hcu hbd hbh hco hls hlt3 ajq hl7 hln hal hah hz
     go_wp2_with fail
     have hrc : di true 7 kL (.slice (some ⟨gb, 0, none⟩) qs.length bc) ls := by have h1 := HG.out.row 0 _ rfl; have h2 := HG.out.mean 0 _ rfl; dsimp only at h1 h2; exact di.ofRow h1 h2
     have HRC := ae hrc
     obtain ⟨bk, off, cap, X, hv, hbl, hX⟩ := hrc.pick (by rw [Ae.out]; exact Gv.out.1)
     injection hv with e1 ea eb
     injection e1 with e1
     injection e1 with e1 e2 ec
     subst e1
     subst e2
     clear ea eb
     have HX := ae hX
     have HBG := ae hbl
     have jC := ae (Below.refl kL.heap.size kL)
     clear hX hbl
     replace HG := ae (HG.out.add 46 true 7)
     replace HTB := ae (HTB.out.bP jq.out)
     clear jq HGB
     have TZ : Hid (∀ c, (Value.slice none 0 0).ownBlock = some c → kL.heap.size ≤ c) := fun c hc => by cases hc
     go_wp2_with fail
     go_loopw [85, 15] (fun u85 u15 wr => ∃ (i : Nat) (tv : Value) (tx : List Value), i ≤ qs.length ∧ u85 = .int .i64 i ∧ tv = u15 ∧ Hid (∀ c, tv.ownBlock = some c → kL.heap.size ≤ c) ∧ Hid (Sx w wr [(KP.heap.size, aY q0 q1, 43), (fB, z22.arr, 40), (d_, z21.arr, 40), (w8.heap.size, #[.slice ta es.length tc, .slice ra rn rc], 29), (w.heap.size, #[.int .u8 (n0 : Int), .int .u8 (n1 : Int), .int .u8 (n2 : Int), .int .u8 (n3 : Int)], 24)] [(true, q1.val, (nT a qs qs.length)), (true, q0.val, (nU a qs qs.length)), (true, z22.val, ed), (true, z21.val, a)]) ∧ Hid (jF w wr [(KP.heap.size, aY q0 q1, 43), (fB, z22.arr, 40), (d_, z21.arr, 40), (w8.heap.size, #[.slice ta es.length tc, .slice ra rn rc], 29), (w.heap.size, #[.int .u8 (n0 : Int), .int .u8 (n1 : Int), .int .u8 (n2 : Int), .int .u8 (n3 : Int)], 24)] [⟨46, true, 7, tv, tx, (qQ ls i)⟩, ⟨46, true, 7, .slice (some ⟨gb, 0, none⟩) qs.length bc, rx, ls⟩]) ∧ Hid (Below kL.heap.size kL wr))
      (fun u _ _ => qs.length - (intOf u).toNat)
     case atStart => exact ⟨0, .slice none 0 0, [], Nat.zero_le _, rfl, rfl, TZ, ae (((((HS.out.bare).az (HS.out.p 3 _ _ rfl)).az (HS.out.p 2 _ _ rfl)).az (HS.out.p 1 _ _ rfl)).az (HS.out.p 0 _ _ rfl)), HG, jC⟩
     case round =>
      obtain ⟨kX, anw⟩ : ∃ z, z = wr := ⟨_, rfl⟩
      subst anw
      clear HS HG jC
      obtain ⟨i, tv, tx, hi, rfl, rfl, TZ, HS, HG, jC⟩ := hrel
      by_cases hlt : i < qs.length
      ·
       have hlt' : (i : Int) < qs.length := by omega
       have hge' : (0 : Int) ≤ i := by omega
       have gq := ae hlt
       have h6 : qs.length ≤ 6 := Gv.out.2
       have hnl := Ae.out
       obtain ⟨m1, hm1⟩ : ∃ m, qs.length = m + 1 := ⟨qs.length - 1, by omega⟩
       obtain ⟨j, hj⟩ : ∃ j, m1 = j + i := ⟨m1 - i, by omega⟩
       have hjl : j < ls.length := by omega
       have hj2 : (j : Int) < qs.length := by omega
       have hj1 : (0 : Int) ≤ j := by omega
       have hw1 : IntKind.i64.wrap ((qs.length : Int) - 1) = (m1 : Int) := (IntWalk.i64_in _ (by omega)).trans (by omega)
       have hw2 : IntKind.i64.wrap ((m1 : Int) - (i : Int)) = (j : Int) := (IntWalk.i64_in _ (by omega)).trans (by omega)
       obtain ⟨k, hk⟩ : ∃ k, k = i + 1 := ⟨_, rfl⟩
       have hw3 : IntKind.i64.wrap ((i : Int) + 1) = (k : Int) := (IntWalk.i64_in _ (by omega)).trans (by omega)
       have hln := nG ls i
       have HTN := ae (acm ls i)
       have hgl := Nat.lt_of_lt_of_le HBG.out jC.out.size
       obtain ⟨Ac, hAc⟩ : ∃ z, j * 21 = z := ⟨_, rfl⟩
       have cG := kS HX.out j hjl
       rw [Nat.zero_add, hAc] at cG
       have cF0 : Fr true kL (X j 0).val (aS ls j 0) := (HX.out j hjl 0 (by omega)).2.2.2
       have cF1 : Fr true kL (X j 1).val (aS ls j 1) := (HX.out j hjl 1 (by omega)).2.2.2
       have cF2 : Fr true kL (X j 2).val (aS ls j 2) := (HX.out j hjl 2 (by omega)).2.2.2
       have cF3 : Fr true kL (X j 3).val (aS ls j 3) := (HX.out j hjl 3 (by omega)).2.2.2
       have cF4 : Fr true kL (X j 4).val (aS ls j 4) := (HX.out j hjl 4 (by omega)).2.2.2
       have cF5 : Fr true kL (X j 5).val (aS ls j 5) := (HX.out j hjl 5 (by omega)).2.2.2
       have cF6 : Fr true kL (X j 6).val (aS ls j 6) := (HX.out j hjl 6 (by omega)).2.2.2
       obtain ⟨c0, hc0⟩ : ∃ z, X j 0 = z := ⟨_, rfl⟩
       rw [hc0] at cG cF0
       have Hc0 := ae hc0
       clear hc0
       replace HS := ae (HS.out.az (Fr.below cF0 jC.out))
       clear cF0
       obtain ⟨c1, hc1⟩ : ∃ z, X j 1 = z := ⟨_, rfl⟩
       rw [hc1] at cG cF1
       have Hc1 := ae hc1
       clear hc1
       replace HS := ae (HS.out.az (Fr.below cF1 jC.out))
       clear cF1
       obtain ⟨c2, hc2⟩ : ∃ z, X j 2 = z := ⟨_, rfl⟩
       rw [hc2] at cG cF2
       have Hc2 := ae hc2
       clear hc2
       replace HS := ae (HS.out.az (Fr.below cF2 jC.out))
       clear cF2
       obtain ⟨c3, hc3⟩ : ∃ z, X j 3 = z := ⟨_, rfl⟩
       rw [hc3] at cG cF3
       have Hc3 := ae hc3
       clear hc3
       replace HS := ae (HS.out.az (Fr.below cF3 jC.out))
       clear cF3
       obtain ⟨c4, hc4⟩ : ∃ z, X j 4 = z := ⟨_, rfl⟩
       rw [hc4] at cG cF4
       have Hc4 := ae hc4
       clear hc4
       replace HS := ae (HS.out.az (Fr.below cF4 jC.out))
       clear cF4
       obtain ⟨c5, hc5⟩ : ∃ z, X j 5 = z := ⟨_, rfl⟩
       rw [hc5] at cG cF5
       have Hc5 := ae hc5
       clear hc5
       replace HS := ae (HS.out.az (Fr.below cF5 jC.out))
       clear cF5
       obtain ⟨c6, hc6⟩ : ∃ z, X j 6 = z := ⟨_, rfl⟩
       rw [hc6] at cG cF6
       have Hc6 := ae hc6
       clear hc6
       replace HS := ae (HS.out.az (Fr.below cF6 jC.out))
       clear cF6
       have cR := ae cG
       clear cG
       by_cases hq : i + 1 < qs.length
       ·
        obtain ⟨m2, hm2⟩ : ∃ m, qs.length = m + 2 := ⟨qs.length - 2, by omega⟩
        obtain ⟨p, hp⟩ : ∃ p, m2 = p + i := ⟨m2 - i, by omega⟩
        have hpl : p < ls.length := by omega
        have hp2 : (p : Int) < qs.length := by omega
        have hp1 : (0 : Int) ≤ p := by omega
        have hw4 : IntKind.i64.wrap ((qs.length : Int) - 2) = (m2 : Int) := (IntWalk.i64_in _ (by omega)).trans (by omega)
        have hw5 : IntKind.i64.wrap ((m2 : Int) - (i : Int)) = (p : Int) := (IntWalk.i64_in _ (by omega)).trans (by omega)
        have HTC : Hid (xE ls i = [aS ls p 0, aS ls j 1, aS ls j 2, aS ls j 3, aS ls j 4, aS ls j 5, aS ls j 6]) := by
         show _ = _
         unfold xE
         rw [if_pos (by omega), show ls.length - 2 - i = p by omega, show ls.length - 1 - i = j by omega]
        obtain ⟨Ad, hAd⟩ : ∃ z, p * 21 = z := ⟨_, rfl⟩
        have dG := kS HX.out p hpl
        rw [Nat.zero_add, hAd] at dG
        have dF0 : Fr true kL (X p 0).val (aS ls p 0) := (HX.out p hpl 0 (by omega)).2.2.2
        obtain ⟨d0, hd0⟩ : ∃ z, X p 0 = z := ⟨_, rfl⟩
        rw [hd0] at dG dF0
        have Hd0 := ae hd0
        clear hd0
        replace HS := ae (HS.out.az (Fr.below dF0 jC.out))
        clear dF0
        have dR := ae dG
        clear dG
        have tk1 : decide ((k : Int) < qs.length) = true := decide_eq_true (by omega)
        have tk2 : decide (k < qs.length) = true := decide_eq_true (by omega)
        have HK1 := ae hk
        clear hnl hm1 hj hjl hk hq hlt hm2 hp hpl
        have dc0 := (jC.out.cell (p := ⟨gb, Ad, none⟩) HBG.out).trans (dR.out 0 _ rfl)
        have dc1 := (jC.out.cell (p := ⟨gb, Ad + 1, none⟩) HBG.out).trans (dR.out 1 _ rfl)
        have dc2 := (jC.out.cell (p := ⟨gb, Ad + 2, none⟩) HBG.out).trans (dR.out 2 _ rfl)
        go_upto_region 20 with (first | (refine wpList_load_mid rfl 46 (.tmp 94) rfl gb Ac rfl _ _ (jA cR.out jC.out HBG.out) Tryz.underlying46 rfl (by kernel_rfl) ?_) | (refine cO rfl 46 (.tmp 18) (.tmp 95) rfl kX.heap.size rfl #[.bool c0.b, .slice c0.a c0.n c0.c, .slice c0.d c0.m c0.e, .bool c1.b, .slice c1.a c1.n c1.c, .slice c1.d c1.m c1.e, .bool c2.b, .slice c2.a c2.n c2.c, .slice c2.d c2.m c2.e, .bool c3.b, .slice c3.a c3.n c3.c, .slice c3.d c3.m c3.e, .bool c4.b, .slice c4.a c4.n c4.c, .slice c4.d c4.m c4.e, .bool c5.b, .slice c5.a c5.n c5.c, .slice c5.d c5.m c5.e, .bool c6.b, .slice c6.a c6.n c6.c, .slice c6.d c6.m c6.e] #[.bool false, .slice none 0 0, .slice none 0 0, .bool false, .slice none 0 0, .slice none 0 0, .bool false, .slice none 0 0, .slice none 0 0, .bool false, .slice none 0 0, .slice none 0 0, .bool false, .slice none 0 0, .slice none 0 0, .bool false, .slice none 0 0, .slice none 0 0, .bool false, .slice none 0 0, .slice none 0 0] _ rfl rfl (by simp) (by kernel_rfl) (by simp [Value.oneCell']) ?_))
        clear dc0 dc1 dc2
        have ato : Hid (kL.heap.size ≤ kX.heap.size) := by first | exact jC.out.size | (show _ ≤ _; have := jC.out.size; omega)
        generalize aea : (kX).alloc (.cells _ _) = W43 at *
        replace HG := ae (((HG.out).alloc (B := kX.heap.size) rfl).to aea (by (try simp only [ig, ik]); rfl))
        replace HS := ae (((HS.out).alloc (B := kX.heap.size) rfl (by rfl)).to aea (by (try simp only [ig, ik]); rfl))
        replace jC : Hid (Below kL.heap.size kL W43) := by subst aea; exact ae ((dC jC.out))
        clear aea
        have nO := ae ((HS.out).alloc (B := W43.heap.size) (T := 46) (cs := #[.bool d0.b, .slice d0.a d0.n d0.c, .slice d0.d d0.m d0.e, .bool c1.b, .slice c1.a c1.n c1.c, .slice c1.d c1.m c1.e, .bool c2.b, .slice c2.a c2.n c2.c, .slice c2.d c2.m c2.e, .bool c3.b, .slice c3.a c3.n c3.c, .slice c3.d c3.m c3.e, .bool c4.b, .slice c4.a c4.n c4.c, .slice c4.d c4.m c4.e, .bool c5.b, .slice c5.a c5.n c5.c, .slice c5.d c5.m c5.e, .bool c6.b, .slice c6.a c6.n c6.c, .slice c6.d c6.m c6.e]) rfl (by rfl))
        have CE := ae ((HG.out).alloc (B := W43.heap.size) (T := 46) (cs := #[.bool d0.b, .slice d0.a d0.n d0.c, .slice d0.d d0.m d0.e, .bool c1.b, .slice c1.a c1.n c1.c, .slice c1.d c1.m c1.e, .bool c2.b, .slice c2.a c2.n c2.c, .slice c2.d c2.m c2.e, .bool c3.b, .slice c3.a c3.n c3.c, .slice c3.d c3.m c3.e, .bool c4.b, .slice c4.a c4.n c4.c, .slice c4.d c4.m c4.e, .bool c5.b, .slice c5.a c5.n c5.c, .slice c5.d c5.m c5.e, .bool c6.b, .slice c6.a c6.n c6.c, .slice c6.d c6.m c6.e]) rfl)
        obtain ⟨aqU, amz, anI, amX, anC⟩ := info_parts rU
        have agy : ∀ u ∈ (Value.agg #[.bool false, .slice none 0 0, .slice none 0 0, .bool false, .slice none 0 0, .slice none 0 0, .bool false, .slice none 0 0, .slice none 0 0, .bool false, .slice none 0 0, .slice none 0 0, .bool false, .slice none 0 0, .slice none 0 0, .bool false, .slice none 0 0, .slice none 0 0, .bool false, .slice none 0 0, .slice none 0 0]).cells.toList, jh u := by
         intro u hu
         have hu : u ∈ [.bool false, .slice none 0 0, .slice none 0 0, .bool false, .slice none 0 0, .slice none 0 0, .bool false, .slice none 0 0, .slice none 0 0, .bool false, .slice none 0 0, .slice none 0 0, .bool false, .slice none 0 0, .slice none 0 0, .bool false, .slice none 0 0, .slice none 0 0, .bool false, .slice none 0 0, .slice none 0 0] := hu
         simp only [List.mem_cons, List.not_mem_nil, or_false] at hu
         rcases hu with rfl | rfl | rfl | rfl | rfl | rfl | rfl | rfl | rfl | rfl | rfl | rfl | rfl | rfl | rfl | rfl | rfl | rfl | rfl | rfl | rfl
         all_goals first | exact fA _ | exact dH _ _ _
        go_wp2_with (first | (refine wpList_load_mid rfl 46 (.tmp 18) rfl kX.heap.size 0 rfl [.bool d0.b, .slice d0.a d0.n d0.c, .slice d0.d d0.m d0.e, .bool c1.b, .slice c1.a c1.n c1.c, .slice c1.d c1.m c1.e, .bool c2.b, .slice c2.a c2.n c2.c, .slice c2.d c2.m c2.e, .bool c3.b, .slice c3.a c3.n c3.c, .slice c3.d c3.m c3.e, .bool c4.b, .slice c4.a c4.n c4.c, .slice c4.d c4.m c4.e, .bool c5.b, .slice c5.a c5.n c5.c, .slice c5.d c5.m c5.e, .bool c6.b, .slice c6.a c6.n c6.c, .slice c6.d c6.m c6.e] _ (dK (HS.out.at 0 _ _ _ rfl)) Tryz.underlying46 rfl (by kernel_rfl) ?_) | (refine wpList_load_mid rfl 46 (.tmp 18) rfl kX.heap.size 0 rfl [.bool d0.b, .slice d0.a d0.n d0.c, .slice d0.d d0.m d0.e, .bool c1.b, .slice c1.a c1.n c1.c, .slice c1.d c1.m c1.e, .bool c2.b, .slice c2.a c2.n c2.c, .slice c2.d c2.m c2.e, .bool c3.b, .slice c3.a c3.n c3.c, .slice c3.d c3.m c3.e, .bool c4.b, .slice c4.a c4.n c4.c, .slice c4.d c4.m c4.e, .bool c5.b, .slice c5.a c5.n c5.c, .slice c5.d c5.m c5.e, .bool c6.b, .slice c6.a c6.n c6.c, .slice c6.d c6.m c6.e] _ (fO (HS.out.at 0 _ _ _ rfl)) Tryz.underlying46 rfl (by kernel_rfl) ?_) | (refine wpList_load_mid rfl 46 (.tmp 18) rfl kX.heap.size 0 rfl [.bool d0.b, .slice d0.a d0.n d0.c, .slice d0.d d0.m d0.e, .bool c1.b, .slice c1.a c1.n c1.c, .slice c1.d c1.m c1.e, .bool c2.b, .slice c2.a c2.n c2.c, .slice c2.d c2.m c2.e, .bool c3.b, .slice c3.a c3.n c3.c, .slice c3.d c3.m c3.e, .bool c4.b, .slice c4.a c4.n c4.c, .slice c4.d c4.m c4.e, .bool c5.b, .slice c5.a c5.n c5.c, .slice c5.d c5.m c5.e, .bool c6.b, .slice c6.a c6.n c6.c, .slice c6.d c6.m c6.e] _ (f_ (HS.out.at 0 _ _ _ rfl)) Tryz.underlying46 rfl (by kernel_rfl) ?_) | (at_builtin; refine dZ _ rfl (.tmp 111) (.tmp 113) 31 rfl w.heap.size 46 aqU _ 21 392 Tryz.underlying31 amz anI amX anC rfl (by decide) agy _ _ _ rfl (CE.out.row 0 _ rfl) ⟨W43.heap.size, 0, none⟩ 1 1 [.bool d0.b, .slice d0.a d0.n d0.c, .slice d0.d d0.m d0.e, .bool c1.b, .slice c1.a c1.n c1.c, .slice c1.d c1.m c1.e, .bool c2.b, .slice c2.a c2.n c2.c, .slice c2.d c2.m c2.e, .bool c3.b, .slice c3.a c3.n c3.c, .slice c3.d c3.m c3.e, .bool c4.b, .slice c4.a c4.n c4.c, .slice c4.d c4.m c4.e, .bool c5.b, .slice c5.a c5.n c5.c, .slice c5.d c5.m c5.e, .bool c6.b, .slice c6.a c6.n c6.c, .slice c6.d c6.m c6.e] rfl rfl (nX (nO.out.at 0 _ _ _ rfl)) (by simp [Value.oneCell']) (by intro u hu; simp only [List.mem_cons, List.not_mem_nil, or_false] at hu; rcases hu with rfl | rfl | rfl | rfl | rfl | rfl | rfl | rfl | rfl | rfl | rfl | rfl | rfl | rfl | rfl | rfl | rfl | rfl | rfl | rfl | rfl; all_goals first | exact fA _ | exact dH _ _ _) (by omega) (by dsimp only; unfold maxLen; omega) (by dsimp only; omega) nO.out.bel.size ?_))
        intro g45 RY w45 Uu Zy SK
        have af5 : dL w45 w.heap.size 46 21 (.slice (some ⟨g45, 0, none⟩) (((qQ ls i)).length + 1) RY) (((qQ ls i)).length + 1) (tx ++ [.bool d0.b, .slice d0.a d0.n d0.c, .slice d0.d d0.m d0.e, .bool c1.b, .slice c1.a c1.n c1.c, .slice c1.d c1.m c1.e, .bool c2.b, .slice c2.a c2.n c2.c, .slice c2.d c2.m c2.e, .bool c3.b, .slice c3.a c3.n c3.c, .slice c3.d c3.m c3.e, .bool c4.b, .slice c4.a c4.n c4.c, .slice c4.d c4.m c4.e, .bool c5.b, .slice c5.a c5.n c5.c, .slice c5.d c5.m c5.e, .bool c6.b, .slice c6.a c6.n c6.c, .slice c6.d c6.m c6.e]) := by first | exact Uu | (rw [hln]; exact Uu)
        clear Uu
        have Uu := af5
        clear af5
        obtain ⟨agp, agd⟩ := Sx.append nO.out CE.out 0 rfl [d0, c1, c2, c3, c4, c5, c6] [(aS ls p 0), (aS ls j 1), (aS ls j 2), (aS ls j 3), (aS ls j 4), (aS ls j 5), (aS ls j 6)] rfl (fun j x hx => by match j, hx with
          | 0, hx => (simp at hx; subst hx; exact (nO.out.p 0 _ _ rfl))
          | 1, hx => (simp at hx; subst hx; exact (nO.out.p 6 _ _ rfl))
          | 2, hx => (simp at hx; subst hx; exact (nO.out.p 5 _ _ rfl))
          | 3, hx => (simp at hx; subst hx; exact (nO.out.p 4 _ _ rfl))
          | 4, hx => (simp at hx; subst hx; exact (nO.out.p 3 _ _ rfl))
          | 5, hx => (simp at hx; subst hx; exact (nO.out.p 2 _ _ rfl))
          | 6, hx => (simp at hx; subst hx; exact (nO.out.p 1 _ _ rfl))
          | j + 7, hx => simp at hx) Uu Zy (by intro c hc; simp [Value.ownBlock] at hc; subst hc; first | exact SK | simpa using SK)
        have Xb : Hid (∀ c, (Value.slice (some ⟨g45, 0, none⟩) (((qQ ls i)).length + 1) RY).ownBlock = some c → kL.heap.size ≤ c) := fun c hc => by
         simp [Value.ownBlock] at hc
         subst hc
         rcases SK with h | h
         · exact TZ.out _ h
         · rw [h]; first | exact (dC jC.out (o := .cells #[.bool d0.b, .slice d0.a d0.n d0.c, .slice d0.d d0.m d0.e, .bool c1.b, .slice c1.a c1.n c1.c, .slice c1.d c1.m c1.e, .bool c2.b, .slice c2.a c2.n c2.c, .slice c2.d c2.m c2.e, .bool c3.b, .slice c3.a c3.n c3.c, .slice c3.d c3.m c3.e, .bool c4.b, .slice c4.a c4.n c4.c, .slice c4.d c4.m c4.e, .bool c5.b, .slice c5.a c5.n c5.c, .slice c5.d c5.m c5.e, .bool c6.b, .slice c6.a c6.n c6.c, .slice c6.d c6.m c6.e] 46)).size | (have hq := (dC jC.out (o := .cells #[.bool d0.b, .slice d0.a d0.n d0.c, .slice d0.d d0.m d0.e, .bool c1.b, .slice c1.a c1.n c1.c, .slice c1.d c1.m c1.e, .bool c2.b, .slice c2.a c2.n c2.c, .slice c2.d c2.m c2.e, .bool c3.b, .slice c3.a c3.n c3.c, .slice c3.d c3.m c3.e, .bool c4.b, .slice c4.a c4.n c4.c, .slice c4.d c4.m c4.e, .bool c5.b, .slice c5.a c5.n c5.c, .slice c5.d c5.m c5.e, .bool c6.b, .slice c6.a c6.n c6.c, .slice c6.d c6.m c6.e] 46)).size; simpa using hq)
        replace jC := ae (Below.grown (dC jC.out (o := .cells #[.bool d0.b, .slice d0.a d0.n d0.c, .slice d0.d d0.m d0.e, .bool c1.b, .slice c1.a c1.n c1.c, .slice c1.d c1.m c1.e, .bool c2.b, .slice c2.a c2.n c2.c, .slice c2.d c2.m c2.e, .bool c3.b, .slice c3.a c3.n c3.c, .slice c3.d c3.m c3.e, .bool c4.b, .slice c4.a c4.n c4.c, .slice c4.d c4.m c4.e, .bool c5.b, .slice c5.a c5.n c5.c, .slice c5.d c5.m c5.e, .bool c6.b, .slice c6.a c6.n c6.c, .slice c6.d c6.m c6.e] 46)) Zy (dC jC.out (o := .cells #[.bool d0.b, .slice d0.a d0.n d0.c, .slice d0.d d0.m d0.e, .bool c1.b, .slice c1.a c1.n c1.c, .slice c1.d c1.m c1.e, .bool c2.b, .slice c2.a c2.n c2.c, .slice c2.d c2.m c2.e, .bool c3.b, .slice c3.a c3.n c3.c, .slice c3.d c3.m c3.e, .bool c4.b, .slice c4.a c4.n c4.c, .slice c4.d c4.m c4.e, .bool c5.b, .slice c5.a c5.n c5.c, .slice c5.d c5.m c5.e, .bool c6.b, .slice c6.a c6.n c6.c, .slice c6.d c6.m c6.e] 46)).size TZ.out)
        clear TZ
        have TZ := Xb
        clear Xb
        clear nO CE
        replace HS : Hid (Sx w w45 [(W43.heap.size, #[.bool d0.b, .slice d0.a d0.n d0.c, .slice d0.d d0.m d0.e, .bool c1.b, .slice c1.a c1.n c1.c, .slice c1.d c1.m c1.e, .bool c2.b, .slice c2.a c2.n c2.c, .slice c2.d c2.m c2.e, .bool c3.b, .slice c3.a c3.n c3.c, .slice c3.d c3.m c3.e, .bool c4.b, .slice c4.a c4.n c4.c, .slice c4.d c4.m c4.e, .bool c5.b, .slice c5.a c5.n c5.c, .slice c5.d c5.m c5.e, .bool c6.b, .slice c6.a c6.n c6.c, .slice c6.d c6.m c6.e], 46), (kX.heap.size, #[.bool d0.b, .slice d0.a d0.n d0.c, .slice d0.d d0.m d0.e, .bool c1.b, .slice c1.a c1.n c1.c, .slice c1.d c1.m c1.e, .bool c2.b, .slice c2.a c2.n c2.c, .slice c2.d c2.m c2.e, .bool c3.b, .slice c3.a c3.n c3.c, .slice c3.d c3.m c3.e, .bool c4.b, .slice c4.a c4.n c4.c, .slice c4.d c4.m c4.e, .bool c5.b, .slice c5.a c5.n c5.c, .slice c5.d c5.m c5.e, .bool c6.b, .slice c6.a c6.n c6.c, .slice c6.d c6.m c6.e], 46), (KP.heap.size, aY q0 q1, 43), (fB, z22.arr, 40), (d_, z21.arr, 40), (w8.heap.size, #[.slice ta es.length tc, .slice ra rn rc], 29), (w.heap.size, #[.int .u8 (n0 : Int), .int .u8 (n1 : Int), .int .u8 (n2 : Int), .int .u8 (n3 : Int)], 24)] [(true, d0.val, (aS ls p 0)), (true, c6.val, (aS ls j 6)), (true, c5.val, (aS ls j 5)), (true, c4.val, (aS ls j 4)), (true, c3.val, (aS ls j 3)), (true, c2.val, (aS ls j 2)), (true, c1.val, (aS ls j 1)), (true, c0.val, (aS ls j 0)), (true, q1.val, (nT a qs qs.length)), (true, q0.val, (nU a qs qs.length)), (true, z22.val, ed), (true, z21.val, a)]) := agp
        replace HG : Hid (jF w w45 [(W43.heap.size, #[.bool d0.b, .slice d0.a d0.n d0.c, .slice d0.d d0.m d0.e, .bool c1.b, .slice c1.a c1.n c1.c, .slice c1.d c1.m c1.e, .bool c2.b, .slice c2.a c2.n c2.c, .slice c2.d c2.m c2.e, .bool c3.b, .slice c3.a c3.n c3.c, .slice c3.d c3.m c3.e, .bool c4.b, .slice c4.a c4.n c4.c, .slice c4.d c4.m c4.e, .bool c5.b, .slice c5.a c5.n c5.c, .slice c5.d c5.m c5.e, .bool c6.b, .slice c6.a c6.n c6.c, .slice c6.d c6.m c6.e], 46), (kX.heap.size, #[.bool d0.b, .slice d0.a d0.n d0.c, .slice d0.d d0.m d0.e, .bool c1.b, .slice c1.a c1.n c1.c, .slice c1.d c1.m c1.e, .bool c2.b, .slice c2.a c2.n c2.c, .slice c2.d c2.m c2.e, .bool c3.b, .slice c3.a c3.n c3.c, .slice c3.d c3.m c3.e, .bool c4.b, .slice c4.a c4.n c4.c, .slice c4.d c4.m c4.e, .bool c5.b, .slice c5.a c5.n c5.c, .slice c5.d c5.m c5.e, .bool c6.b, .slice c6.a c6.n c6.c, .slice c6.d c6.m c6.e], 46), (KP.heap.size, aY q0 q1, 43), (fB, z22.arr, 40), (d_, z21.arr, 40), (w8.heap.size, #[.slice ta es.length tc, .slice ra rn rc], 29), (w.heap.size, #[.int .u8 (n0 : Int), .int .u8 (n1 : Int), .int .u8 (n2 : Int), .int .u8 (n3 : Int)], 24)] [⟨46, true, 7, (.slice (some ⟨g45, 0, none⟩) ((qQ ls i).length + 1) RY), (tx ++ eX [d0, c1, c2, c3, c4, c5, c6]), ((qQ ls i) ++ [[(aS ls p 0), (aS ls j 1), (aS ls j 2), (aS ls j 3), (aS ls j 4), (aS ls j 5), (aS ls j 6)]])⟩, ⟨46, true, 7, .slice (some ⟨gb, 0, none⟩) qs.length bc, rx, ls⟩]) := agd
        clear agp agd Uu Zy SK agy amz anI amX anC
        go_wp2_with fail
        have hk := HK1.out
        subst hk
        exact ⟨⟨i + 1, (.slice (some ⟨g45, 0, none⟩) ((qQ ls i).length + 1) RY), (tx ++ eX [d0, c1, c2, c3, c4, c5, c6]), by have := gq.out; omega, by go_num, by first | rfl | rw [hln], TZ, ae (((((((HS.out).erase 0).erase 0).az (HS.out.p 11 _ _ rfl)).az (HS.out.p 10 _ _ rfl)).az (HS.out.p 9 _ _ rfl)).az (HS.out.p 8 _ _ rfl)), ae (by rw [HTN.out, HTC.out]; exact HG.out.mono (fun b hb => ⟨b, by simp only [List.mem_cons] at hb ⊢; first | exact hb | (repeat (first | exact hb | right)), rfl⟩)), jC⟩, bU gq.out⟩
       ·
        have HTC : Hid (xE ls i = [aS ls j 0, aS ls j 1, aS ls j 2, aS ls j 3, aS ls j 4, aS ls j 5, aS ls j 6]) := by
         show _ = _
         unfold xE
         rw [if_neg (by omega), show ls.length - 1 - i = j by omega]
        have tk1 : decide ((k : Int) < qs.length) = false := decide_eq_false (by omega)
        have tk2 : decide (k < qs.length) = false := decide_eq_false (by omega)
        have HK1 := ae hk
        clear hnl hm1 hj hjl hk hq hlt
        go_upto_region 20 with (first | (refine wpList_load_mid rfl 46 (.tmp 94) rfl gb Ac rfl _ _ (jA cR.out jC.out HBG.out) Tryz.underlying46 rfl (by kernel_rfl) ?_) | (refine cO rfl 46 (.tmp 18) (.tmp 95) rfl kX.heap.size rfl #[.bool c0.b, .slice c0.a c0.n c0.c, .slice c0.d c0.m c0.e, .bool c1.b, .slice c1.a c1.n c1.c, .slice c1.d c1.m c1.e, .bool c2.b, .slice c2.a c2.n c2.c, .slice c2.d c2.m c2.e, .bool c3.b, .slice c3.a c3.n c3.c, .slice c3.d c3.m c3.e, .bool c4.b, .slice c4.a c4.n c4.c, .slice c4.d c4.m c4.e, .bool c5.b, .slice c5.a c5.n c5.c, .slice c5.d c5.m c5.e, .bool c6.b, .slice c6.a c6.n c6.c, .slice c6.d c6.m c6.e] #[.bool false, .slice none 0 0, .slice none 0 0, .bool false, .slice none 0 0, .slice none 0 0, .bool false, .slice none 0 0, .slice none 0 0, .bool false, .slice none 0 0, .slice none 0 0, .bool false, .slice none 0 0, .slice none 0 0, .bool false, .slice none 0 0, .slice none 0 0, .bool false, .slice none 0 0, .slice none 0 0] _ rfl rfl (by simp) (by kernel_rfl) (by simp [Value.oneCell']) ?_))
        have atp : Hid (kL.heap.size ≤ kX.heap.size) := by first | exact jC.out.size | (show _ ≤ _; have := jC.out.size; omega)
        generalize aeb : (kX).alloc (.cells _ _) = W46 at *
        replace HG := ae (((HG.out).alloc (B := kX.heap.size) rfl).to aeb (by (try simp only [ig, ik]); rfl))
        replace HS := ae (((HS.out).alloc (B := kX.heap.size) rfl (by rfl)).to aeb (by (try simp only [ig, ik]); rfl))
        replace jC : Hid (Below kL.heap.size kL W46) := by subst aeb; exact ae ((dC jC.out))
        clear aeb
        have nO := ae ((HS.out).alloc (B := W46.heap.size) (T := 46) (cs := #[.bool c0.b, .slice c0.a c0.n c0.c, .slice c0.d c0.m c0.e, .bool c1.b, .slice c1.a c1.n c1.c, .slice c1.d c1.m c1.e, .bool c2.b, .slice c2.a c2.n c2.c, .slice c2.d c2.m c2.e, .bool c3.b, .slice c3.a c3.n c3.c, .slice c3.d c3.m c3.e, .bool c4.b, .slice c4.a c4.n c4.c, .slice c4.d c4.m c4.e, .bool c5.b, .slice c5.a c5.n c5.c, .slice c5.d c5.m c5.e, .bool c6.b, .slice c6.a c6.n c6.c, .slice c6.d c6.m c6.e]) rfl (by rfl))
        have CE := ae ((HG.out).alloc (B := W46.heap.size) (T := 46) (cs := #[.bool c0.b, .slice c0.a c0.n c0.c, .slice c0.d c0.m c0.e, .bool c1.b, .slice c1.a c1.n c1.c, .slice c1.d c1.m c1.e, .bool c2.b, .slice c2.a c2.n c2.c, .slice c2.d c2.m c2.e, .bool c3.b, .slice c3.a c3.n c3.c, .slice c3.d c3.m c3.e, .bool c4.b, .slice c4.a c4.n c4.c, .slice c4.d c4.m c4.e, .bool c5.b, .slice c5.a c5.n c5.c, .slice c5.d c5.m c5.e, .bool c6.b, .slice c6.a c6.n c6.c, .slice c6.d c6.m c6.e]) rfl)
        obtain ⟨aqV, amA, anJ, amY, anD⟩ := info_parts rU
        have agz : ∀ u ∈ (Value.agg #[.bool false, .slice none 0 0, .slice none 0 0, .bool false, .slice none 0 0, .slice none 0 0, .bool false, .slice none 0 0, .slice none 0 0, .bool false, .slice none 0 0, .slice none 0 0, .bool false, .slice none 0 0, .slice none 0 0, .bool false, .slice none 0 0, .slice none 0 0, .bool false, .slice none 0 0, .slice none 0 0]).cells.toList, jh u := by
         intro u hu
         have hu : u ∈ [.bool false, .slice none 0 0, .slice none 0 0, .bool false, .slice none 0 0, .slice none 0 0, .bool false, .slice none 0 0, .slice none 0 0, .bool false, .slice none 0 0, .slice none 0 0, .bool false, .slice none 0 0, .slice none 0 0, .bool false, .slice none 0 0, .slice none 0 0, .bool false, .slice none 0 0, .slice none 0 0] := hu
         simp only [List.mem_cons, List.not_mem_nil, or_false] at hu
         rcases hu with rfl | rfl | rfl | rfl | rfl | rfl | rfl | rfl | rfl | rfl | rfl | rfl | rfl | rfl | rfl | rfl | rfl | rfl | rfl | rfl | rfl
         all_goals first | exact fA _ | exact dH _ _ _
        go_wp2_with (first | (refine wpList_load_mid rfl 46 (.tmp 18) rfl kX.heap.size 0 rfl [.bool c0.b, .slice c0.a c0.n c0.c, .slice c0.d c0.m c0.e, .bool c1.b, .slice c1.a c1.n c1.c, .slice c1.d c1.m c1.e, .bool c2.b, .slice c2.a c2.n c2.c, .slice c2.d c2.m c2.e, .bool c3.b, .slice c3.a c3.n c3.c, .slice c3.d c3.m c3.e, .bool c4.b, .slice c4.a c4.n c4.c, .slice c4.d c4.m c4.e, .bool c5.b, .slice c5.a c5.n c5.c, .slice c5.d c5.m c5.e, .bool c6.b, .slice c6.a c6.n c6.c, .slice c6.d c6.m c6.e] _ (dK (HS.out.at 0 _ _ _ rfl)) Tryz.underlying46 rfl (by kernel_rfl) ?_) | (refine wpList_load_mid rfl 46 (.tmp 18) rfl kX.heap.size 0 rfl [.bool c0.b, .slice c0.a c0.n c0.c, .slice c0.d c0.m c0.e, .bool c1.b, .slice c1.a c1.n c1.c, .slice c1.d c1.m c1.e, .bool c2.b, .slice c2.a c2.n c2.c, .slice c2.d c2.m c2.e, .bool c3.b, .slice c3.a c3.n c3.c, .slice c3.d c3.m c3.e, .bool c4.b, .slice c4.a c4.n c4.c, .slice c4.d c4.m c4.e, .bool c5.b, .slice c5.a c5.n c5.c, .slice c5.d c5.m c5.e, .bool c6.b, .slice c6.a c6.n c6.c, .slice c6.d c6.m c6.e] _ (fO (HS.out.at 0 _ _ _ rfl)) Tryz.underlying46 rfl (by kernel_rfl) ?_) | (refine wpList_load_mid rfl 46 (.tmp 18) rfl kX.heap.size 0 rfl [.bool c0.b, .slice c0.a c0.n c0.c, .slice c0.d c0.m c0.e, .bool c1.b, .slice c1.a c1.n c1.c, .slice c1.d c1.m c1.e, .bool c2.b, .slice c2.a c2.n c2.c, .slice c2.d c2.m c2.e, .bool c3.b, .slice c3.a c3.n c3.c, .slice c3.d c3.m c3.e, .bool c4.b, .slice c4.a c4.n c4.c, .slice c4.d c4.m c4.e, .bool c5.b, .slice c5.a c5.n c5.c, .slice c5.d c5.m c5.e, .bool c6.b, .slice c6.a c6.n c6.c, .slice c6.d c6.m c6.e] _ (f_ (HS.out.at 0 _ _ _ rfl)) Tryz.underlying46 rfl (by kernel_rfl) ?_) | (at_builtin; refine dZ _ rfl (.tmp 111) (.tmp 113) 31 rfl w.heap.size 46 aqV _ 21 392 Tryz.underlying31 amA anJ amY anD rfl (by decide) agz _ _ _ rfl (CE.out.row 0 _ rfl) ⟨W46.heap.size, 0, none⟩ 1 1 [.bool c0.b, .slice c0.a c0.n c0.c, .slice c0.d c0.m c0.e, .bool c1.b, .slice c1.a c1.n c1.c, .slice c1.d c1.m c1.e, .bool c2.b, .slice c2.a c2.n c2.c, .slice c2.d c2.m c2.e, .bool c3.b, .slice c3.a c3.n c3.c, .slice c3.d c3.m c3.e, .bool c4.b, .slice c4.a c4.n c4.c, .slice c4.d c4.m c4.e, .bool c5.b, .slice c5.a c5.n c5.c, .slice c5.d c5.m c5.e, .bool c6.b, .slice c6.a c6.n c6.c, .slice c6.d c6.m c6.e] rfl rfl (nX (nO.out.at 0 _ _ _ rfl)) (by simp [Value.oneCell']) (by intro u hu; simp only [List.mem_cons, List.not_mem_nil, or_false] at hu; rcases hu with rfl | rfl | rfl | rfl | rfl | rfl | rfl | rfl | rfl | rfl | rfl | rfl | rfl | rfl | rfl | rfl | rfl | rfl | rfl | rfl | rfl; all_goals first | exact fA _ | exact dH _ _ _) (by omega) (by dsimp only; unfold maxLen; omega) (by dsimp only; omega) nO.out.bel.size ?_))
        intro g48 RZ w48 Uw Zz SL
        have af6 : dL w48 w.heap.size 46 21 (.slice (some ⟨g48, 0, none⟩) (((qQ ls i)).length + 1) RZ) (((qQ ls i)).length + 1) (tx ++ [.bool c0.b, .slice c0.a c0.n c0.c, .slice c0.d c0.m c0.e, .bool c1.b, .slice c1.a c1.n c1.c, .slice c1.d c1.m c1.e, .bool c2.b, .slice c2.a c2.n c2.c, .slice c2.d c2.m c2.e, .bool c3.b, .slice c3.a c3.n c3.c, .slice c3.d c3.m c3.e, .bool c4.b, .slice c4.a c4.n c4.c, .slice c4.d c4.m c4.e, .bool c5.b, .slice c5.a c5.n c5.c, .slice c5.d c5.m c5.e, .bool c6.b, .slice c6.a c6.n c6.c, .slice c6.d c6.m c6.e]) := by first | exact Uw | (rw [hln]; exact Uw)
        clear Uw
        have Uw := af6
        clear af6
        obtain ⟨agq, age⟩ := Sx.append nO.out CE.out 0 rfl [c0, c1, c2, c3, c4, c5, c6] [(aS ls j 0), (aS ls j 1), (aS ls j 2), (aS ls j 3), (aS ls j 4), (aS ls j 5), (aS ls j 6)] rfl (fun j x hx => by match j, hx with
          | 0, hx => (simp at hx; subst hx; exact (nO.out.p 6 _ _ rfl))
          | 1, hx => (simp at hx; subst hx; exact (nO.out.p 5 _ _ rfl))
          | 2, hx => (simp at hx; subst hx; exact (nO.out.p 4 _ _ rfl))
          | 3, hx => (simp at hx; subst hx; exact (nO.out.p 3 _ _ rfl))
          | 4, hx => (simp at hx; subst hx; exact (nO.out.p 2 _ _ rfl))
          | 5, hx => (simp at hx; subst hx; exact (nO.out.p 1 _ _ rfl))
          | 6, hx => (simp at hx; subst hx; exact (nO.out.p 0 _ _ rfl))
          | j + 7, hx => simp at hx) Uw Zz (by intro c hc; simp [Value.ownBlock] at hc; subst hc; first | exact SL | simpa using SL)
        have Xb : Hid (∀ c, (Value.slice (some ⟨g48, 0, none⟩) (((qQ ls i)).length + 1) RZ).ownBlock = some c → kL.heap.size ≤ c) := fun c hc => by
         simp [Value.ownBlock] at hc
         subst hc
         rcases SL with h | h
         · exact TZ.out _ h
         · rw [h]; first | exact (dC jC.out (o := .cells #[.bool c0.b, .slice c0.a c0.n c0.c, .slice c0.d c0.m c0.e, .bool c1.b, .slice c1.a c1.n c1.c, .slice c1.d c1.m c1.e, .bool c2.b, .slice c2.a c2.n c2.c, .slice c2.d c2.m c2.e, .bool c3.b, .slice c3.a c3.n c3.c, .slice c3.d c3.m c3.e, .bool c4.b, .slice c4.a c4.n c4.c, .slice c4.d c4.m c4.e, .bool c5.b, .slice c5.a c5.n c5.c, .slice c5.d c5.m c5.e, .bool c6.b, .slice c6.a c6.n c6.c, .slice c6.d c6.m c6.e] 46)).size | (have hq := (dC jC.out (o := .cells #[.bool c0.b, .slice c0.a c0.n c0.c, .slice c0.d c0.m c0.e, .bool c1.b, .slice c1.a c1.n c1.c, .slice c1.d c1.m c1.e, .bool c2.b, .slice c2.a c2.n c2.c, .slice c2.d c2.m c2.e, .bool c3.b, .slice c3.a c3.n c3.c, .slice c3.d c3.m c3.e, .bool c4.b, .slice c4.a c4.n c4.c, .slice c4.d c4.m c4.e, .bool c5.b, .slice c5.a c5.n c5.c, .slice c5.d c5.m c5.e, .bool c6.b, .slice c6.a c6.n c6.c, .slice c6.d c6.m c6.e] 46)).size; simpa using hq)
        replace jC := ae (Below.grown (dC jC.out (o := .cells #[.bool c0.b, .slice c0.a c0.n c0.c, .slice c0.d c0.m c0.e, .bool c1.b, .slice c1.a c1.n c1.c, .slice c1.d c1.m c1.e, .bool c2.b, .slice c2.a c2.n c2.c, .slice c2.d c2.m c2.e, .bool c3.b, .slice c3.a c3.n c3.c, .slice c3.d c3.m c3.e, .bool c4.b, .slice c4.a c4.n c4.c, .slice c4.d c4.m c4.e, .bool c5.b, .slice c5.a c5.n c5.c, .slice c5.d c5.m c5.e, .bool c6.b, .slice c6.a c6.n c6.c, .slice c6.d c6.m c6.e] 46)) Zz (dC jC.out (o := .cells #[.bool c0.b, .slice c0.a c0.n c0.c, .slice c0.d c0.m c0.e, .bool c1.b, .slice c1.a c1.n c1.c, .slice c1.d c1.m c1.e, .bool c2.b, .slice c2.a c2.n c2.c, .slice c2.d c2.m c2.e, .bool c3.b, .slice c3.a c3.n c3.c, .slice c3.d c3.m c3.e, .bool c4.b, .slice c4.a c4.n c4.c, .slice c4.d c4.m c4.e, .bool c5.b, .slice c5.a c5.n c5.c, .slice c5.d c5.m c5.e, .bool c6.b, .slice c6.a c6.n c6.c, .slice c6.d c6.m c6.e] 46)).size TZ.out)
        clear TZ
        have TZ := Xb
        clear Xb
        clear nO CE
        replace HS : Hid (Sx w w48 [(W46.heap.size, #[.bool c0.b, .slice c0.a c0.n c0.c, .slice c0.d c0.m c0.e, .bool c1.b, .slice c1.a c1.n c1.c, .slice c1.d c1.m c1.e, .bool c2.b, .slice c2.a c2.n c2.c, .slice c2.d c2.m c2.e, .bool c3.b, .slice c3.a c3.n c3.c, .slice c3.d c3.m c3.e, .bool c4.b, .slice c4.a c4.n c4.c, .slice c4.d c4.m c4.e, .bool c5.b, .slice c5.a c5.n c5.c, .slice c5.d c5.m c5.e, .bool c6.b, .slice c6.a c6.n c6.c, .slice c6.d c6.m c6.e], 46), (kX.heap.size, #[.bool c0.b, .slice c0.a c0.n c0.c, .slice c0.d c0.m c0.e, .bool c1.b, .slice c1.a c1.n c1.c, .slice c1.d c1.m c1.e, .bool c2.b, .slice c2.a c2.n c2.c, .slice c2.d c2.m c2.e, .bool c3.b, .slice c3.a c3.n c3.c, .slice c3.d c3.m c3.e, .bool c4.b, .slice c4.a c4.n c4.c, .slice c4.d c4.m c4.e, .bool c5.b, .slice c5.a c5.n c5.c, .slice c5.d c5.m c5.e, .bool c6.b, .slice c6.a c6.n c6.c, .slice c6.d c6.m c6.e], 46), (KP.heap.size, aY q0 q1, 43), (fB, z22.arr, 40), (d_, z21.arr, 40), (w8.heap.size, #[.slice ta es.length tc, .slice ra rn rc], 29), (w.heap.size, #[.int .u8 (n0 : Int), .int .u8 (n1 : Int), .int .u8 (n2 : Int), .int .u8 (n3 : Int)], 24)] [(true, c6.val, (aS ls j 6)), (true, c5.val, (aS ls j 5)), (true, c4.val, (aS ls j 4)), (true, c3.val, (aS ls j 3)), (true, c2.val, (aS ls j 2)), (true, c1.val, (aS ls j 1)), (true, c0.val, (aS ls j 0)), (true, q1.val, (nT a qs qs.length)), (true, q0.val, (nU a qs qs.length)), (true, z22.val, ed), (true, z21.val, a)]) := agq
        replace HG : Hid (jF w w48 [(W46.heap.size, #[.bool c0.b, .slice c0.a c0.n c0.c, .slice c0.d c0.m c0.e, .bool c1.b, .slice c1.a c1.n c1.c, .slice c1.d c1.m c1.e, .bool c2.b, .slice c2.a c2.n c2.c, .slice c2.d c2.m c2.e, .bool c3.b, .slice c3.a c3.n c3.c, .slice c3.d c3.m c3.e, .bool c4.b, .slice c4.a c4.n c4.c, .slice c4.d c4.m c4.e, .bool c5.b, .slice c5.a c5.n c5.c, .slice c5.d c5.m c5.e, .bool c6.b, .slice c6.a c6.n c6.c, .slice c6.d c6.m c6.e], 46), (kX.heap.size, #[.bool c0.b, .slice c0.a c0.n c0.c, .slice c0.d c0.m c0.e, .bool c1.b, .slice c1.a c1.n c1.c, .slice c1.d c1.m c1.e, .bool c2.b, .slice c2.a c2.n c2.c, .slice c2.d c2.m c2.e, .bool c3.b, .slice c3.a c3.n c3.c, .slice c3.d c3.m c3.e, .bool c4.b, .slice c4.a c4.n c4.c, .slice c4.d c4.m c4.e, .bool c5.b, .slice c5.a c5.n c5.c, .slice c5.d c5.m c5.e, .bool c6.b, .slice c6.a c6.n c6.c, .slice c6.d c6.m c6.e], 46), (KP.heap.size, aY q0 q1, 43), (fB, z22.arr, 40), (d_, z21.arr, 40), (w8.heap.size, #[.slice ta es.length tc, .slice ra rn rc], 29), (w.heap.size, #[.int .u8 (n0 : Int), .int .u8 (n1 : Int), .int .u8 (n2 : Int), .int .u8 (n3 : Int)], 24)] [⟨46, true, 7, (.slice (some ⟨g48, 0, none⟩) ((qQ ls i).length + 1) RZ), (tx ++ eX [c0, c1, c2, c3, c4, c5, c6]), ((qQ ls i) ++ [[(aS ls j 0), (aS ls j 1), (aS ls j 2), (aS ls j 3), (aS ls j 4), (aS ls j 5), (aS ls j 6)]])⟩, ⟨46, true, 7, .slice (some ⟨gb, 0, none⟩) qs.length bc, rx, ls⟩]) := age
        clear agq age Uw Zz SL agz amA anJ amY anD
        go_wp2_with fail
        have hk := HK1.out
        subst hk
        exact ⟨⟨i + 1, (.slice (some ⟨g48, 0, none⟩) ((qQ ls i).length + 1) RZ), (tx ++ eX [c0, c1, c2, c3, c4, c5, c6]), by have := gq.out; omega, by go_num, by first | rfl | rw [hln], TZ, ae (((((((HS.out).erase 0).erase 0).az (HS.out.p 10 _ _ rfl)).az (HS.out.p 9 _ _ rfl)).az (HS.out.p 8 _ _ rfl)).az (HS.out.p 7 _ _ rfl)), ae (by rw [HTN.out, HTC.out]; exact HG.out.mono (fun b hb => ⟨b, by simp only [List.mem_cons] at hb ⊢; first | exact hb | (repeat (first | exact hb | right)), rfl⟩)), jC⟩, bU gq.out⟩
      ·
       obtain rfl : i = qs.length := by omega
       obtain ⟨ua, uc, hu, _, _⟩ := (HG.out.row 0 _ rfl).af2
       dsimp only at hu
       rw [nG] at hu
       subst hu
       clear TZ
       obtain ⟨nx, hnx⟩ : ∃ z, z = nK ls es a ed 10 ls.length := ⟨_, rfl⟩
       obtain ⟨bk, hbk⟩ : ∃ z, z = nK (qQ ls ls.length) es a ed 10 ls.length := ⟨_, rfl⟩
       have HFA := ae (U3 HEE.out HKP.out HCO.out HLS.out TW.out HL5.out HCU.out HBD.out HBH.out HBA.out ⟨by rw [Ae.out]; exact Gv.out.1, by rw [Ae.out]; exact Gv.out.2⟩ SA.out SE.out hnx hbk)
       have HNL : Hid (nx.length = qs.length) := by show _ = _; rw [hnx, jL, Ae.out]
       have fU : Hid (bk.length = qs.length) := by show _ = _; rw [hbk, jL, Ae.out]
       have aoG := ae HFA.out.apU
       have akX := ae HFA.out.amm
       have HUN : Hid (∀ (W : World) (vx vy : Value), cZ W vx 0 0 → cZ W vy 1 1 → Calls Tryz.prog 9 #[vx, vy] W (iK 0 1 W)) := fun W vx vy h1 h2 => Vu h1 h2
       rw [Ae.out] at akX
       have hal2 : nU a ls ls.length = nU a qs qs.length := by rw [pI.out, Ae.out]
       have amb : nT a ls ls.length = nT a qs qs.length := by rw [HAH.out, Ae.out]
       have MR := HFA.out.tin
       rw [hal2, amb] at MR
       have hb1 := RJ HBA.out (fun i => HQB.out i 3 (.inl rfl)) qs.length
       have hb2 := RH HBA.out (fun i => HQB.out i 4 (.inr rfl)) qs.length
       have hz1 := Je SA.out TY.out qs.length
       have hz2 := Jd SA.out TY.out qs.length
       have ZRL := ae (v_ (k := 10) (by omega) (by omega) hb1)
       have ZRH := ae (IP (k := 10) (by omega) (by omega) hb2)
       have HRO : Hid (∀ (W : World) (vx : Value), cZ W vx (nU a qs qs.length) (nT a qs qs.length) → Calls Tryz.prog 13 #[vx, .int .i64 10] W (iK (gK (nU a qs qs.length) 10) (yu (nT a qs qs.length) 10) W)) := fun W vx h => zh _ _ 10 (by omega) 10 (by decide) vx W h (aj hz1 (by omega)) (aj (yj hz2) (by omega))
       have aoS := ae MR
       generalize gK (nU a qs qs.length) 10 = rl at *
       generalize yu (nT a qs qs.length) 10 = rh at *
       clear hnx hbk hal2 amb MR hb1 hb2 hz1 hz2
       have gW := (HS.out.at 3 _ _ _ rfl)
       have kC := af gW 0 (.slice ta es.length tc) rfl
       have kD := af gW 1 (.slice ra rn rc) rfl
       have lT := ah gW 0
       have lU := ah gW 1
       have yO := ai gW
       clear gW
       obtain ⟨jJ, lV, lW, kP, pz, pF⟩ := eu (x := z21) (HS.out.at 2 _ _ _ rfl)
       have vS := ai (HS.out.at 2 _ _ _ rfl)
       obtain ⟨rH, rJ, rM, ui, uj, uk⟩ := eu (x := z22) (HS.out.at 1 _ _ _ rfl)
       have Ji := ai (HS.out.at 1 _ _ _ rfl)
       have YB := HS.out.ne 3 2 rfl rfl (by decide)
       have YC := HS.out.ne 3 1 rfl rfl (by decide)
       have YD := HS.out.ne 2 1 rfl rfl (by decide)
       go_wp2_with fail
       clear kC kD lT lU yO jJ lV lW kP pz pF vS rH rJ rM ui uj uk Ji YB YC YD
       refine (aoG.out _ _ _ _ _ (di.ofRow (HG.out.row 1 _ rfl) (HG.out.mean 1 _ rfl)) (HTB.out.bP jC.out) (HS.out.p 3 _ _ rfl) (HS.out.p 2 _ _ rfl)).mono ?_
       rintro e Oq ⟨v49, rfl, aeq, aeh⟩
       obtain ⟨nna, nnc, rfl⟩ := di.slice aeq
       rw [HNL.out] at aeq ⊢
       have aoN := ae aeq
       clear aeq
       replace HS := ae (HS.out.below aeh)
       replace jC := ae (ax jC.out aeh)
       replace HG := ae (HG.out.below aeh)
       clear aeh
       have o_ := ae (Below.refl Oq.heap.size Oq)
       have gW := (HS.out.at 3 _ _ _ rfl)
       have kC := af gW 0 (.slice ta es.length tc) rfl
       have kD := af gW 1 (.slice ra rn rc) rfl
       have lT := ah gW 0
       have lU := ah gW 1
       have yO := ai gW
       clear gW
       obtain ⟨jJ, lV, lW, kP, pz, pF⟩ := eu (x := z21) (HS.out.at 2 _ _ _ rfl)
       have vS := ai (HS.out.at 2 _ _ _ rfl)
       obtain ⟨rH, rJ, rM, ui, uj, uk⟩ := eu (x := z22) (HS.out.at 1 _ _ _ rfl)
       have Ji := ai (HS.out.at 1 _ _ _ rfl)
       have YB := HS.out.ne 3 2 rfl rfl (by decide)
       have YC := HS.out.ne 3 1 rfl rfl (by decide)
       have YD := HS.out.ne 2 1 rfl rfl (by decide)
       go_wp2_with fail
       clear kC kD lT lU yO jJ lV lW kP pz pF vS rH rJ rM ui uj uk Ji YB YC YD
       refine (akX.out _ _ _ _ _ (di.ofRow (HG.out.row 0 _ rfl) (HG.out.mean 0 _ rfl)) (HTB.out.bP jC.out) (HS.out.p 3 _ _ rfl) (HS.out.p 2 _ _ rfl)).mono ?_
       rintro e Ot ⟨v50, rfl, aer, Zp⟩
       obtain ⟨kka, kkc, rfl⟩ := di.slice aer
       rw [fU.out] at aer ⊢
       have aoM := ae aer
       clear aer
       replace HS := ae (HS.out.below Zp)
       replace jC := ae (ax jC.out Zp)
       replace o_ := ae (ax o_.out Zp)
       replace HG := ae (HG.out.below Zp)
       clear Zp
       have pR := ae (Below.refl Ot.heap.size Ot)
       go_wp2_with fail
       refine (Z4 _).mono ?_
       rintro e w51 ⟨v51, rfl, ajy, UB⟩
       obtain ⟨z51, rfl⟩ := ajy.bn
       replace HS := ae (HS.out.below UB)
       replace jC := ae (ax jC.out UB)
       replace o_ := ae (ax o_.out UB)
       replace pR := ae (ax pR.out UB)
       replace HG := ae (HG.out.below UB)
       clear UB
       replace HS := ae (HS.out.az ajy)
       clear ajy
       go_wp2_with fail
       refine (x8 z51 _).mono ?_
       rintro e w52 ⟨rfl, UC⟩
       replace HS := ae (HS.out.below UC)
       replace jC := ae (ax jC.out UC)
       replace o_ := ae (ax o_.out UC)
       replace pR := ae (ax pR.out UC)
       replace HG := ae (HG.out.below UC)
       clear UC
       go_wp2_with fail
       refine (HI1.out _).mono ?_
       rintro e w53 ⟨v53, rfl, UR, MK⟩
       obtain ⟨z53, rfl⟩ := UR.bn
       replace HS := ae (HS.out.below MK)
       replace jC := ae (ax jC.out MK)
       replace o_ := ae (ax o_.out MK)
       replace pR := ae (ax pR.out MK)
       replace HG := ae (HG.out.below MK)
       clear MK
       replace HS := ae (HS.out.az UR)
       clear UR
       go_wp2_with fail
       refine (x8 z53 _).mono ?_
       rintro e w54 ⟨rfl, ML⟩
       replace HS := ae (HS.out.below ML)
       replace jC := ae (ax jC.out ML)
       replace o_ := ae (ax o_.out ML)
       replace pR := ae (ax pR.out ML)
       replace HG := ae (HG.out.below ML)
       clear ML
       go_wp2_with fail
       refine (HUN.out _ _ _ (gB (HS.out.p 1 _ _ rfl) (HS.out.p 1 _ _ rfl)) (gB (HS.out.p 0 _ _ rfl) (HS.out.p 0 _ _ rfl))).mono ?_
       rintro e WW ⟨v55, rfl, ⟨acB, acC, rfl, UT, anp⟩, Au⟩
       replace HS := ae (HS.out.below Au)
       replace jC := ae (ax jC.out Au)
       replace o_ := ae (ax o_.out Au)
       replace pR := ae (ax pR.out Au)
       replace HG := ae (HG.out.below Au)
       clear Au
       replace HS := ae (HS.out.az UT)
       clear UT
       replace HS := ae (HS.out.az anp)
       clear anp
       go_wp2_with fail
       have atq : Hid (kL.heap.size ≤ WW.heap.size) := by first | exact jC.out.size | (show _ ≤ _; have := jC.out.size; omega)
       have atr : Hid (Oq.heap.size ≤ WW.heap.size) := by first | exact o_.out.size | (show _ ≤ _; have := o_.out.size; omega)
       have aoF : Hid (Ot.heap.size ≤ WW.heap.size) := by first | exact pR.out.size | (show _ ≤ _; have := pR.out.size; omega)
       generalize ED : (WW).alloc (.cells _ _) = W56 at *
       replace HG := ae (((HG.out).alloc (B := WW.heap.size) rfl).to ED (by (try simp only [ig, ik]); rfl))
       replace HS := ae (((HS.out).alloc (B := WW.heap.size) rfl (by rfl)).to ED (by (try simp only [ig, ik]); rfl))
       replace jC : Hid (Below kL.heap.size kL W56) := by subst ED; exact ae ((dC jC.out))
       replace o_ : Hid (Below Oq.heap.size Oq W56) := by subst ED; exact ae ((dC o_.out))
       replace pR : Hid (Below Ot.heap.size Ot W56) := by subst ED; exact ae ((dC pR.out))
       clear ED
       obtain ⟨bnx, onx, atG, fC, aqL, af_, ama⟩ := aoN.out.pick (by rw [HNL.out]; exact Gv.out.1)
       injection aqL with e1 ea eb
       subst e1
       clear ea eb
       have Xi := ae ama
       have akW := ae af_
       clear ama af_
       obtain ⟨bbk, obk, atF, jg, aqK, af', al_⟩ := aoM.out.pick (by rw [fU.out]; exact Gv.out.1)
       injection aqK with e1 ea eb
       subst e1
       clear ea eb
       have Xh := ae al_
       have akV := ae af'
       clear al_ af'
       go_wp2_with fail
       go_loopw [161] (fun arX wr => ∃ (i : Nat), i ≤ qs.length ∧ arX = .int .i64 i ∧ Hid (Sx w wr [(WW.heap.size, aY acB acC, 43), (KP.heap.size, aY q0 q1, 43), (fB, z22.arr, 40), (d_, z21.arr, 40), (w8.heap.size, #[.slice ta es.length tc, .slice ra rn rc], 29), (w.heap.size, #[.int .u8 (n0 : Int), .int .u8 (n1 : Int), .int .u8 (n2 : Int), .int .u8 (n3 : Int)], 24)] [(true, acC.val, 1), (true, acB.val, 0), (true, q1.val, (nT a qs qs.length)), (true, q0.val, (nU a qs qs.length)), (true, z22.val, ed), (true, z21.val, a)]) ∧ Hid (jF w wr [(WW.heap.size, aY acB acC, 43), (KP.heap.size, aY q0 q1, 43), (fB, z22.arr, 40), (d_, z21.arr, 40), (w8.heap.size, #[.slice ta es.length tc, .slice ra rn rc], 29), (w.heap.size, #[.int .u8 (n0 : Int), .int .u8 (n1 : Int), .int .u8 (n2 : Int), .int .u8 (n3 : Int)], 24)] [⟨46, true, 7, .slice ua qs.length uc, tx, (qQ ls qs.length)⟩, ⟨46, true, 7, .slice (some ⟨gb, 0, none⟩) qs.length bc, rx, ls⟩]) ∧ Hid (Below kL.heap.size kL wr) ∧ Hid (Below Oq.heap.size Oq wr) ∧ Hid (Below Ot.heap.size Ot wr))
        (fun u _ => qs.length - (intOf u).toNat)
       case atStart => exact ⟨0, Nat.zero_le _, rfl, ae (((((((HS.out.bare).az (HS.out.p 7 _ _ rfl)).az (HS.out.p 6 _ _ rfl)).az (HS.out.p 5 _ _ rfl)).az (HS.out.p 4 _ _ rfl)).az (HS.out.p 1 _ _ rfl)).az (HS.out.p 0 _ _ rfl)), HG, jC, o_, pR⟩
       case round =>
        obtain ⟨Ov, anz⟩ : ∃ z, z = wr := ⟨_, rfl⟩
        subst anz
        clear HS HG jC o_ pR
        obtain ⟨i, hi, rfl, HS, HG, jC, o_, pR⟩ := hrel
        by_cases hlt : i < qs.length
        ·
         have hlt' : (i : Int) < qs.length := by omega
         have hge' : (0 : Int) ≤ i := by omega
         have gq := ae hlt
         have h6 : qs.length ≤ 6 := Gv.out.2
         have hnl := Ae.out
         obtain ⟨m1, hm1⟩ : ∃ m, qs.length = m + 1 := ⟨qs.length - 1, by omega⟩
         obtain ⟨j, hj⟩ : ∃ j, m1 = j + i := ⟨m1 - i, by omega⟩
         have hin : i < nx.length := by rw [HNL.out]; exact hlt
         have hjb : j < bk.length := by rw [fU.out]; omega
         have hj2 : (j : Int) < qs.length := by omega
         have hj1 : (0 : Int) ≤ j := by omega
         have hw1 : IntKind.i64.wrap ((qs.length : Int) - 1) = (m1 : Int) := (IntWalk.i64_in _ (by omega)).trans (by omega)
         have hw2 : IntKind.i64.wrap ((m1 : Int) - (i : Int)) = (j : Int) := (IntWalk.i64_in _ (by omega)).trans (by omega)
         have hil : i < ls.length := by omega
         have htr : ∀ q, 3 ≤ q → q < 7 → aS bk j q = aS nx i q := fun q h3 h7 => by rw [HFA.out.turn j q (by omega) h3 h7]; congr 1; omega
         have MR := aoS.out i hil
         have aei := HFA.out.cin i hil
         have hsz := HFA.out.sz i
         obtain ⟨Ac, hAc⟩ : ∃ z, onx + i * 21 = z := ⟨_, rfl⟩
         have cG := kS Xi.out i hin
         rw [hAc] at cG
         have cF3 : Fr true Oq (fC i 3).val (aS nx i 3) := (Xi.out i hin 3 (by omega)).2.2.2
         have cF4 : Fr true Oq (fC i 4).val (aS nx i 4) := (Xi.out i hin 4 (by omega)).2.2.2
         have cF5 : Fr true Oq (fC i 5).val (aS nx i 5) := (Xi.out i hin 5 (by omega)).2.2.2
         have cF6 : Fr true Oq (fC i 6).val (aS nx i 6) := (Xi.out i hin 6 (by omega)).2.2.2
         obtain ⟨c3, hc3⟩ : ∃ z, fC i 3 = z := ⟨_, rfl⟩
         rw [hc3] at cG cF3
         have Hc3 := ae hc3
         clear hc3
         replace HS := ae (HS.out.az (Fr.below cF3 o_.out))
         clear cF3
         obtain ⟨c4, hc4⟩ : ∃ z, fC i 4 = z := ⟨_, rfl⟩
         rw [hc4] at cG cF4
         have Hc4 := ae hc4
         clear hc4
         replace HS := ae (HS.out.az (Fr.below cF4 o_.out))
         clear cF4
         obtain ⟨c5, hc5⟩ : ∃ z, fC i 5 = z := ⟨_, rfl⟩
         rw [hc5] at cG cF5
         have Hc5 := ae hc5
         clear hc5
         replace HS := ae (HS.out.az (Fr.below cF5 o_.out))
         clear cF5
         obtain ⟨c6, hc6⟩ : ∃ z, fC i 6 = z := ⟨_, rfl⟩
         rw [hc6] at cG cF6
         have Hc6 := ae hc6
         clear hc6
         replace HS := ae (HS.out.az (Fr.below cF6 o_.out))
         clear cF6
         have cR := ae cG
         clear cG
         obtain ⟨Ad, hAd⟩ : ∃ z, obk + j * 21 = z := ⟨_, rfl⟩
         have dG := kS Xh.out j hjb
         rw [hAd] at dG
         have dF3 : Fr true Ot (jg j 3).val (aS nx i 3) := by rw [← htr 3 (by omega) (by omega)]; exact (Xh.out j hjb 3 (by omega)).2.2.2
         have dF4 : Fr true Ot (jg j 4).val (aS nx i 4) := by rw [← htr 4 (by omega) (by omega)]; exact (Xh.out j hjb 4 (by omega)).2.2.2
         have dF5 : Fr true Ot (jg j 5).val (aS nx i 5) := by rw [← htr 5 (by omega) (by omega)]; exact (Xh.out j hjb 5 (by omega)).2.2.2
         have dF6 : Fr true Ot (jg j 6).val (aS nx i 6) := by rw [← htr 6 (by omega) (by omega)]; exact (Xh.out j hjb 6 (by omega)).2.2.2
         obtain ⟨d3, hd3⟩ : ∃ z, jg j 3 = z := ⟨_, rfl⟩
         rw [hd3] at dG dF3
         have Hd3 := ae hd3
         clear hd3
         replace HS := ae (HS.out.az (Fr.below dF3 pR.out))
         clear dF3
         obtain ⟨d4, hd4⟩ : ∃ z, jg j 4 = z := ⟨_, rfl⟩
         rw [hd4] at dG dF4
         have Hd4 := ae hd4
         clear hd4
         replace HS := ae (HS.out.az (Fr.below dF4 pR.out))
         clear dF4
         obtain ⟨d5, hd5⟩ : ∃ z, jg j 5 = z := ⟨_, rfl⟩
         rw [hd5] at dG dF5
         have Hd5 := ae hd5
         clear hd5
         replace HS := ae (HS.out.az (Fr.below dF5 pR.out))
         clear dF5
         obtain ⟨d6, hd6⟩ : ∃ z, jg j 6 = z := ⟨_, rfl⟩
         rw [hd6] at dG dF6
         have Hd6 := ae hd6
         clear hd6
         replace HS := ae (HS.out.az (Fr.below dF6 pR.out))
         clear dF6
         have dR := ae dG
         clear dG
         have aoH : Hid (∀ (W : World) (vx vy : Value), cZ W vx (aS nx i 3) (aS nx i 4) → cZ W vy rl rh → Calls Tryz.prog 12 #[vx, vy] W (ja true W)) := fun W vx vy g1 g2 => Ti _ _ rl rh vx vy W g1 g2 MR.1 MR.2.1 MR.2.2 (aj (hsz 3) (by omega)) (aj (hsz 4) (by omega)) (aj ZRL.out (by omega)) (aj ZRH.out (by omega))
         have aoI : Hid (∀ (W : World) (vx vy : Value), cZ W vx (aS nx i 5) (aS nx i 6) → cZ W vy 0 1 → Calls Tryz.prog 12 #[vx, vy] W (ja true W)) := fun W vx vy g1 g2 => Ti _ _ 0 1 vx vy W g1 g2 aei.1 aei.2.1 aei.2.2 (aj (hsz 5) (by omega)) (aj (hsz 6) (by omega)) (h_ _ (by omega)) (jb _ (by omega))
         have HT3 : Hid (∀ (W : World) (v : Value), cZ W v (aS nx i 3) (aS nx i 4) → Calls Tryz.prog 14 #[v] W (KZ (QT (aS nx i 3) (aS nx i 4)) W)) := fun W v g => IJ _ _ v W g (aj (hsz 3) (by omega)) (aj (hsz 4) (by omega))
         have HT5 : Hid (∀ (W : World) (v : Value), cZ W v (aS nx i 5) (aS nx i 6) → Calls Tryz.prog 14 #[v] W (KZ (QT (aS nx i 5) (aS nx i 6)) W)) := fun W v g => IJ _ _ v W g (aj (hsz 5) (by omega)) (aj (hsz 6) (by omega))
         generalize QT (aS nx i 3) (aS nx i 4) = t3 at *
         generalize QT (aS nx i 5) (aS nx i 6) = t5 at *
         clear hnl hm1 hj hin hjb hil htr MR aei hsz hlt
         generalize aS nx i 3 = f3 at *
         generalize aS nx i 4 = f4 at *
         generalize aS nx i 5 = f5 at *
         generalize aS nx i 6 = f6 at *
         go_upto_region 30 with (first | (refine wpList_load_mid rfl 46 (.tmp 164) rfl bnx Ac rfl _ _ (jA cR.out o_.out akW.out) Tryz.underlying46 rfl (by kernel_rfl) ?_) | (refine cO rfl 46 (.tmp 25) (.tmp 165) rfl Ov.heap.size rfl #[.bool (fC i 0).b, .slice (fC i 0).a (fC i 0).n (fC i 0).c, .slice (fC i 0).d (fC i 0).m (fC i 0).e, .bool (fC i 1).b, .slice (fC i 1).a (fC i 1).n (fC i 1).c, .slice (fC i 1).d (fC i 1).m (fC i 1).e, .bool (fC i 2).b, .slice (fC i 2).a (fC i 2).n (fC i 2).c, .slice (fC i 2).d (fC i 2).m (fC i 2).e, .bool c3.b, .slice c3.a c3.n c3.c, .slice c3.d c3.m c3.e, .bool c4.b, .slice c4.a c4.n c4.c, .slice c4.d c4.m c4.e, .bool c5.b, .slice c5.a c5.n c5.c, .slice c5.d c5.m c5.e, .bool c6.b, .slice c6.a c6.n c6.c, .slice c6.d c6.m c6.e] #[.bool false, .slice none 0 0, .slice none 0 0, .bool false, .slice none 0 0, .slice none 0 0, .bool false, .slice none 0 0, .slice none 0 0, .bool false, .slice none 0 0, .slice none 0 0, .bool false, .slice none 0 0, .slice none 0 0, .bool false, .slice none 0 0, .slice none 0 0, .bool false, .slice none 0 0, .slice none 0 0] _ rfl rfl (by simp) (by kernel_rfl) (by simp [Value.oneCell']) ?_))
         have att : Hid (kL.heap.size ≤ Ov.heap.size) := by first | exact jC.out.size | (show _ ≤ _; have := jC.out.size; omega)
         have atu : Hid (Oq.heap.size ≤ Ov.heap.size) := by first | exact o_.out.size | (show _ ≤ _; have := o_.out.size; omega)
         have atv : Hid (Ot.heap.size ≤ Ov.heap.size) := by first | exact pR.out.size | (show _ ≤ _; have := pR.out.size; omega)
         generalize Uz : (Ov).alloc (.cells _ _) = Xz at *
         replace HG := ae (((HG.out).alloc (B := Ov.heap.size) rfl).to Uz (by (try simp only [ig, ik]); rfl))
         replace HS := ae (((HS.out).alloc (B := Ov.heap.size) rfl (by rfl)).to Uz (by (try simp only [ig, ik]); rfl))
         replace jC : Hid (Below kL.heap.size kL Xz) := by subst Uz; exact ae ((dC jC.out))
         replace o_ : Hid (Below Oq.heap.size Oq Xz) := by subst Uz; exact ae ((dC o_.out))
         replace pR : Hid (Below Ot.heap.size Ot Xz) := by subst Uz; exact ae ((dC pR.out))
         clear Uz
         go_wp2_with (first | (refine wpList_load_mid rfl 46 (.tmp 172) rfl bbk Ad rfl _ _ (jA dR.out pR.out akV.out) Tryz.underlying46 rfl (by kernel_rfl) ?_) | (refine cO rfl 46 (.tmp 26) (.tmp 173) rfl Xz.heap.size rfl #[.bool (jg j 0).b, .slice (jg j 0).a (jg j 0).n (jg j 0).c, .slice (jg j 0).d (jg j 0).m (jg j 0).e, .bool (jg j 1).b, .slice (jg j 1).a (jg j 1).n (jg j 1).c, .slice (jg j 1).d (jg j 1).m (jg j 1).e, .bool (jg j 2).b, .slice (jg j 2).a (jg j 2).n (jg j 2).c, .slice (jg j 2).d (jg j 2).m (jg j 2).e, .bool d3.b, .slice d3.a d3.n d3.c, .slice d3.d d3.m d3.e, .bool d4.b, .slice d4.a d4.n d4.c, .slice d4.d d4.m d4.e, .bool d5.b, .slice d5.a d5.n d5.c, .slice d5.d d5.m d5.e, .bool d6.b, .slice d6.a d6.n d6.c, .slice d6.d d6.m d6.e] #[.bool false, .slice none 0 0, .slice none 0 0, .bool false, .slice none 0 0, .slice none 0 0, .bool false, .slice none 0 0, .slice none 0 0, .bool false, .slice none 0 0, .slice none 0 0, .bool false, .slice none 0 0, .slice none 0 0, .bool false, .slice none 0 0, .slice none 0 0, .bool false, .slice none 0 0, .slice none 0 0] _ rfl rfl (by simp) (by kernel_rfl) (by simp [Value.oneCell']) ?_))
         have atw : Hid (kL.heap.size ≤ Xz.heap.size) := by first | exact jC.out.size | (show _ ≤ _; have := jC.out.size; omega)
         have atx : Hid (Oq.heap.size ≤ Xz.heap.size) := by first | exact o_.out.size | (show _ ≤ _; have := o_.out.size; omega)
         have aty : Hid (Ot.heap.size ≤ Xz.heap.size) := by first | exact pR.out.size | (show _ ≤ _; have := pR.out.size; omega)
         generalize UA : (Xz).alloc (.cells _ _) = W65 at *
         replace HG := ae (((HG.out).alloc (B := Xz.heap.size) rfl).to UA (by (try simp only [ig, ik]); rfl))
         replace HS := ae (((HS.out).alloc (B := Xz.heap.size) rfl (by rfl)).to UA (by (try simp only [ig, ik]); rfl))
         replace jC : Hid (Below kL.heap.size kL W65) := by subst UA; exact ae ((dC jC.out))
         replace o_ : Hid (Below Oq.heap.size Oq W65) := by subst UA; exact ae ((dC o_.out))
         replace pR : Hid (Below Ot.heap.size Ot W65) := by subst UA; exact ae ((dC pR.out))
         clear UA
         refine wp_region_held_drew (S := (fun w' => Sx w w' [(Xz.heap.size, #[.bool (jg j 0).b, .slice (jg j 0).a (jg j 0).n (jg j 0).c, .slice (jg j 0).d (jg j 0).m (jg j 0).e, .bool (jg j 1).b, .slice (jg j 1).a (jg j 1).n (jg j 1).c, .slice (jg j 1).d (jg j 1).m (jg j 1).e, .bool (jg j 2).b, .slice (jg j 2).a (jg j 2).n (jg j 2).c, .slice (jg j 2).d (jg j 2).m (jg j 2).e, .bool d3.b, .slice d3.a d3.n d3.c, .slice d3.d d3.m d3.e, .bool d4.b, .slice d4.a d4.n d4.c, .slice d4.d d4.m d4.e, .bool d5.b, .slice d5.a d5.n d5.c, .slice d5.d d5.m d5.e, .bool d6.b, .slice d6.a d6.n d6.c, .slice d6.d d6.m d6.e], 46), (Ov.heap.size, #[.bool (fC i 0).b, .slice (fC i 0).a (fC i 0).n (fC i 0).c, .slice (fC i 0).d (fC i 0).m (fC i 0).e, .bool (fC i 1).b, .slice (fC i 1).a (fC i 1).n (fC i 1).c, .slice (fC i 1).d (fC i 1).m (fC i 1).e, .bool (fC i 2).b, .slice (fC i 2).a (fC i 2).n (fC i 2).c, .slice (fC i 2).d (fC i 2).m (fC i 2).e, .bool c3.b, .slice c3.a c3.n c3.c, .slice c3.d c3.m c3.e, .bool c4.b, .slice c4.a c4.n c4.c, .slice c4.d c4.m c4.e, .bool c5.b, .slice c5.a c5.n c5.c, .slice c5.d c5.m c5.e, .bool c6.b, .slice c6.a c6.n c6.c, .slice c6.d c6.m c6.e], 46), (WW.heap.size, aY acB acC, 43), (KP.heap.size, aY q0 q1, 43), (fB, z22.arr, 40), (d_, z21.arr, 40), (w8.heap.size, #[.slice ta es.length tc, .slice ra rn rc], 29), (w.heap.size, #[.int .u8 (n0 : Int), .int .u8 (n1 : Int), .int .u8 (n2 : Int), .int .u8 (n3 : Int)], 24)] [])) (by kernel_rfl) ((HS.out.drew).bare) (fun hh => ?_)
         replace HS := ae HS.out.drew
         replace jC := ae (ax jC.out (Below.refl _ _).drew)
         replace o_ := ae (ax o_.out (Below.refl _ _).drew)
         replace pR := ae (ax pR.out (Below.refl _ _).drew)
         replace HG := ae (HG.out.below (Below.refl _ _).drew)
         refine dF (i := 0) (v := ?aox) rfl ?ZM ?aog
         case ZM => intro u aH; go_simp <;> with_reducible rfl
         try simp only [ag]
         refine dF (i := 1) (v := ?asv) rfl ?ajm ?arQ
         case ajm => intro u aH; (try dsimp only at aH); have df := (aH.at 1 _ _ _ rfl); have TB := af df 0 (.bool (fC i 0).b) rfl; have TC := af df 1 (.slice (fC i 0).a (fC i 0).n (fC i 0).c) rfl; have TD := af df 2 (.slice (fC i 0).d (fC i 0).m (fC i 0).e) rfl; have TE := af df 3 (.bool (fC i 1).b) rfl; have TF := af df 4 (.slice (fC i 1).a (fC i 1).n (fC i 1).c) rfl; have TG := af df 5 (.slice (fC i 1).d (fC i 1).m (fC i 1).e) rfl; have aaC := af df 6 (.bool (fC i 2).b) rfl; have aaD := af df 7 (.slice (fC i 2).a (fC i 2).n (fC i 2).c) rfl; have aaE := af df 8 (.slice (fC i 2).d (fC i 2).m (fC i 2).e) rfl; have aaF := af df 9 (.bool c3.b) rfl; have Qs := af df 10 (.slice c3.a c3.n c3.c) rfl; have Qu := af df 11 (.slice c3.d c3.m c3.e) rfl; have Qv := af df 12 (.bool c4.b) rfl; have Qw := af df 13 (.slice c4.a c4.n c4.c) rfl; have Qx := af df 14 (.slice c4.d c4.m c4.e) rfl; have Qy := af df 15 (.bool c5.b) rfl; have Qz := af df 16 (.slice c5.a c5.n c5.c) rfl; have QA := af df 17 (.slice c5.d c5.m c5.e) rfl; have QB := af df 18 (.bool c6.b) rfl; have QC := af df 19 (.slice c6.a c6.n c6.c) rfl; have QD := af df 20 (.slice c6.d c6.m c6.e) rfl; clear df; clear aH; go_simp <;> with_reducible rfl
         try simp only [ag]
         refine dF (i := 2) (v := ?au1) rfl ?aqa ?aus
         case aqa => intro u aH; (try dsimp only at aH); obtain ⟨Tq, Tt, Tu, Tv, Tz, TA, _⟩ := dO (x := q0) (y := q1) (aH.at 3 _ _ _ rfl); clear aH; go_simp <;> with_reducible rfl
         try simp only [ag]
         refine rdA (i := 3) rfl (fun K hK => ?_)
         go_simp
         have a74 := HS.out.p 11 _ _ rfl
         have a75 := HS.out.p 10 _ _ rfl
         go_wp2_with (go_at_call 13; (with_reducible refine (HRO.out _ _ (gB a74 a75)).mono ?_); rintro e w73 ⟨v73, rfl, ⟨avt, avu, rfl, ani, anq⟩, PI⟩)
         refine hK.out _ _ (Sx.below hh PI) (fun hh => ?_)
         clear hK K
         try simp only [ag]
         replace HS := ae (HS.out.below PI)
         replace jC := ae (ax jC.out PI)
         replace o_ := ae (ax o_.out PI)
         replace pR := ae (ax pR.out PI)
         replace HG := ae (HG.out.below PI)
         clear PI a74 a75
         replace HS := ae (HS.out.az ani)
         clear ani
         replace HS := ae (HS.out.az anq)
         clear anq
         refine rdA (i := 4) rfl (fun K hK => ?_)
         go_simp
         have a77 := HS.out.p 9 _ _ rfl
         have a78 := HS.out.p 8 _ _ rfl
         have a79 := HS.out.p 1 _ _ rfl
         have a80 := HS.out.p 0 _ _ rfl
         go_wp2_with (go_at_call 12; (with_reducible refine (aoH.out _ _ _ (gB a77 a78) (gB a79 a80)).mono ?_); rintro e w76 ⟨rfl, PK⟩)
         refine hK.out _ _ (Sx.below hh PK) (fun hh => ?_)
         clear hK K
         try simp only [ag]
         replace HS := ae (HS.out.below PK)
         replace jC := ae (ax jC.out PK)
         replace o_ := ae (ax o_.out PK)
         replace pR := ae (ax pR.out PK)
         replace HG := ae (HG.out.below PK)
         clear PK a77 a78 a79 a80
         refine dF (i := 5) (v := ?au6) rfl ?aqf ?auy
         case aqf => intro u aH; go_simp <;> with_reducible rfl
         try simp only [ag]
         refine dF (i := 6) (v := ?au7) rfl ?aqg ?auz
         case aqg => intro u aH; go_simp <;> with_reducible rfl
         try simp only [ag]
         refine dF (i := 7) (v := ?au8) rfl ?aqh ?auA
         case aqh => intro u aH; go_simp <;> with_reducible rfl
         try simp only [ag]
         refine dF (i := 8) (v := ?au9) rfl ?aqi ?auB
         case aqi => intro u aH; (try dsimp only at aH); have df := (aH.at 1 _ _ _ rfl); have TB := af df 0 (.bool (fC i 0).b) rfl; have TC := af df 1 (.slice (fC i 0).a (fC i 0).n (fC i 0).c) rfl; have TD := af df 2 (.slice (fC i 0).d (fC i 0).m (fC i 0).e) rfl; have TE := af df 3 (.bool (fC i 1).b) rfl; have TF := af df 4 (.slice (fC i 1).a (fC i 1).n (fC i 1).c) rfl; have TG := af df 5 (.slice (fC i 1).d (fC i 1).m (fC i 1).e) rfl; have aaC := af df 6 (.bool (fC i 2).b) rfl; have aaD := af df 7 (.slice (fC i 2).a (fC i 2).n (fC i 2).c) rfl; have aaE := af df 8 (.slice (fC i 2).d (fC i 2).m (fC i 2).e) rfl; have aaF := af df 9 (.bool c3.b) rfl; have Qs := af df 10 (.slice c3.a c3.n c3.c) rfl; have Qu := af df 11 (.slice c3.d c3.m c3.e) rfl; have Qv := af df 12 (.bool c4.b) rfl; have Qw := af df 13 (.slice c4.a c4.n c4.c) rfl; have Qx := af df 14 (.slice c4.d c4.m c4.e) rfl; have Qy := af df 15 (.bool c5.b) rfl; have Qz := af df 16 (.slice c5.a c5.n c5.c) rfl; have QA := af df 17 (.slice c5.d c5.m c5.e) rfl; have QB := af df 18 (.bool c6.b) rfl; have QC := af df 19 (.slice c6.a c6.n c6.c) rfl; have QD := af df 20 (.slice c6.d c6.m c6.e) rfl; clear df; clear aH; go_simp <;> with_reducible rfl
         try simp only [ag]
         refine dF (i := 9) (v := ?au') rfl ?aqj ?auC
         case aqj => intro u aH; (try dsimp only at aH); obtain ⟨asX, asY, asZ, as1, as2, as3, _⟩ := dO (x := acB) (y := acC) (aH.at 2 _ _ _ rfl); clear aH; go_simp <;> with_reducible rfl
         try simp only [ag]
         refine rdA (i := 10) rfl (fun K hK => ?_)
         go_simp
         have a87 := HS.out.p 7 _ _ rfl
         have a88 := HS.out.p 6 _ _ rfl
         have a89 := HS.out.p 11 _ _ rfl
         have a90 := HS.out.p 10 _ _ rfl
         go_wp2_with (go_at_call 12; (with_reducible refine (aoI.out _ _ _ (gB a87 a88) (gB a89 a90)).mono ?_); rintro e w86 ⟨rfl, PL⟩)
         refine hK.out _ _ (Sx.below hh PL) (fun hh => ?_)
         clear hK K
         try simp only [ag]
         replace HS := ae (HS.out.below PL)
         replace jC := ae (ax jC.out PL)
         replace o_ := ae (ax o_.out PL)
         replace pR := ae (ax pR.out PL)
         replace HG := ae (HG.out.below PL)
         clear PL a87 a88 a89 a90
         refine dF (i := 11) (v := ?asw) rfl ?ajn ?arR
         case ajn => intro u aH; go_simp <;> with_reducible rfl
         try simp only [ag]
         refine dF (i := 12) (v := ?asx) rfl ?ajo ?arS
         case ajo => intro u aH; go_simp <;> with_reducible rfl
         try simp only [ag]
         refine dF (i := 13) (v := ?asy) rfl ?ajp ?arT
         case ajp => intro u aH; go_simp <;> with_reducible rfl
         try simp only [ag]
         refine dF (i := 14) (v := ?avb) rfl ?aqm ?auF
         case aqm => intro u aH; go_simp <;> with_reducible rfl
         try simp only [ag]
         refine dF (i := 15) (v := ?avc) rfl ?aqn ?auG
         case aqn => intro u aH; (try dsimp only at aH); have df := (aH.at 1 _ _ _ rfl); have TB := af df 0 (.bool (fC i 0).b) rfl; have TC := af df 1 (.slice (fC i 0).a (fC i 0).n (fC i 0).c) rfl; have TD := af df 2 (.slice (fC i 0).d (fC i 0).m (fC i 0).e) rfl; have TE := af df 3 (.bool (fC i 1).b) rfl; have TF := af df 4 (.slice (fC i 1).a (fC i 1).n (fC i 1).c) rfl; have TG := af df 5 (.slice (fC i 1).d (fC i 1).m (fC i 1).e) rfl; have aaC := af df 6 (.bool (fC i 2).b) rfl; have aaD := af df 7 (.slice (fC i 2).a (fC i 2).n (fC i 2).c) rfl; have aaE := af df 8 (.slice (fC i 2).d (fC i 2).m (fC i 2).e) rfl; have aaF := af df 9 (.bool c3.b) rfl; have Qs := af df 10 (.slice c3.a c3.n c3.c) rfl; have Qu := af df 11 (.slice c3.d c3.m c3.e) rfl; have Qv := af df 12 (.bool c4.b) rfl; have Qw := af df 13 (.slice c4.a c4.n c4.c) rfl; have Qx := af df 14 (.slice c4.d c4.m c4.e) rfl; have Qy := af df 15 (.bool c5.b) rfl; have Qz := af df 16 (.slice c5.a c5.n c5.c) rfl; have QA := af df 17 (.slice c5.d c5.m c5.e) rfl; have QB := af df 18 (.bool c6.b) rfl; have QC := af df 19 (.slice c6.a c6.n c6.c) rfl; have QD := af df 20 (.slice c6.d c6.m c6.e) rfl; clear df; clear aH; go_simp <;> with_reducible rfl
         try simp only [ag]
         refine dF (i := 17) (v := ?avd) rfl ?aqo ?auH
         case aqo => intro u aH; go_simp <;> with_reducible rfl
         try simp only [ag]
         refine dF (i := 18) (v := ?ave) rfl ?aqp ?auI
         case aqp => intro u aH; (try dsimp only at aH); have jl := (aH.at 0 _ _ _ rfl); have anW := af jl 0 (.bool (jg j 0).b) rfl; have anX := af jl 1 (.slice (jg j 0).a (jg j 0).n (jg j 0).c) rfl; have anY := af jl 2 (.slice (jg j 0).d (jg j 0).m (jg j 0).e) rfl; have anZ := af jl 3 (.bool (jg j 1).b) rfl; have an0 := af jl 4 (.slice (jg j 1).a (jg j 1).n (jg j 1).c) rfl; have an1 := af jl 5 (.slice (jg j 1).d (jg j 1).m (jg j 1).e) rfl; have an2 := af jl 6 (.bool (jg j 2).b) rfl; have an3 := af jl 7 (.slice (jg j 2).a (jg j 2).n (jg j 2).c) rfl; have an4 := af jl 8 (.slice (jg j 2).d (jg j 2).m (jg j 2).e) rfl; have an5 := af jl 9 (.bool d3.b) rfl; have aka := af jl 10 (.slice d3.a d3.n d3.c) rfl; have akb := af jl 11 (.slice d3.d d3.m d3.e) rfl; have akc := af jl 12 (.bool d4.b) rfl; have akd := af jl 13 (.slice d4.a d4.n d4.c) rfl; have ake := af jl 14 (.slice d4.d d4.m d4.e) rfl; have akf := af jl 15 (.bool d5.b) rfl; have akg := af jl 16 (.slice d5.a d5.n d5.c) rfl; have akh := af jl 17 (.slice d5.d d5.m d5.e) rfl; have aki := af jl 18 (.bool d6.b) rfl; have akj := af jl 19 (.slice d6.a d6.n d6.c) rfl; have akk := af jl 20 (.slice d6.d d6.m d6.e) rfl; clear jl; clear aH; go_simp <;> with_reducible rfl
         try simp only [ag]
         refine rdA (i := 16) rfl (fun K hK => ?_)
         go_simp
         have a99 := HS.out.p 9 _ _ rfl
         have alg := HS.out.p 8 _ _ rfl
         go_wp2_with (go_at_call 14; (with_reducible refine (HT3.out _ _ (gB a99 alg)).mono ?_); rintro e w98 ⟨rfl, PM⟩)
         refine hK.out _ _ (Sx.below hh PM) (fun hh => ?_)
         clear hK K
         try simp only [ag]
         replace HS := ae (HS.out.below PM)
         replace jC := ae (ax jC.out PM)
         replace o_ := ae (ax o_.out PM)
         replace pR := ae (ax pR.out PM)
         replace HG := ae (HG.out.below PM)
         clear PM a99 alg
         refine rdA (i := 19) rfl (fun K hK => ?_)
         go_simp
         have XA := HS.out.p 5 _ _ rfl
         have ali := HS.out.p 4 _ _ rfl
         go_wp2_with (go_at_call 14; (with_reducible refine (HT3.out _ _ (gB XA ali)).mono ?_); rintro e avh ⟨rfl, EE⟩)
         refine hK.out _ _ (Sx.below hh EE) (fun hh => ?_)
         clear hK K
         try simp only [ag]
         replace HS := ae (HS.out.below EE)
         replace jC := ae (ax jC.out EE)
         replace o_ := ae (ax o_.out EE)
         replace pR := ae (ax pR.out EE)
         replace HG := ae (HG.out.below EE)
         clear EE XA ali
         refine dF (i := 20) (v := ?aom) rfl ?ZC ?an7
         case ZC => intro u aH; go_simp <;> with_reducible rfl
         try simp only [ag]
         refine dF (i := 21) (v := ?ate) rfl ?amE ?as5
         case amE => intro u aH; go_simp <;> with_reducible rfl
         try simp only [ag]
         refine dF (i := 22) (v := ?atf) rfl ?amF ?as6
         case amF => intro u aH; go_simp <;> with_reducible rfl
         try simp only [ag]
         refine dF (i := 23) (v := ?atg) rfl ?amG ?as7
         case amG => intro u aH; go_simp <;> with_reducible rfl
         try simp only [ag]
         refine dF (i := 24) (v := ?ath) rfl ?amH ?as8
         case amH => intro u aH; (try dsimp only at aH); have df := (aH.at 1 _ _ _ rfl); have TB := af df 0 (.bool (fC i 0).b) rfl; have TC := af df 1 (.slice (fC i 0).a (fC i 0).n (fC i 0).c) rfl; have TD := af df 2 (.slice (fC i 0).d (fC i 0).m (fC i 0).e) rfl; have TE := af df 3 (.bool (fC i 1).b) rfl; have TF := af df 4 (.slice (fC i 1).a (fC i 1).n (fC i 1).c) rfl; have TG := af df 5 (.slice (fC i 1).d (fC i 1).m (fC i 1).e) rfl; have aaC := af df 6 (.bool (fC i 2).b) rfl; have aaD := af df 7 (.slice (fC i 2).a (fC i 2).n (fC i 2).c) rfl; have aaE := af df 8 (.slice (fC i 2).d (fC i 2).m (fC i 2).e) rfl; have aaF := af df 9 (.bool c3.b) rfl; have Qs := af df 10 (.slice c3.a c3.n c3.c) rfl; have Qu := af df 11 (.slice c3.d c3.m c3.e) rfl; have Qv := af df 12 (.bool c4.b) rfl; have Qw := af df 13 (.slice c4.a c4.n c4.c) rfl; have Qx := af df 14 (.slice c4.d c4.m c4.e) rfl; have Qy := af df 15 (.bool c5.b) rfl; have Qz := af df 16 (.slice c5.a c5.n c5.c) rfl; have QA := af df 17 (.slice c5.d c5.m c5.e) rfl; have QB := af df 18 (.bool c6.b) rfl; have QC := af df 19 (.slice c6.a c6.n c6.c) rfl; have QD := af df 20 (.slice c6.d c6.m c6.e) rfl; clear df; clear aH; go_simp <;> with_reducible rfl
         try simp only [ag]
         refine dF (i := 26) (v := ?ati) rfl ?amI ?as9
         case amI => intro u aH; go_simp <;> with_reducible rfl
         try simp only [ag]
         refine dF (i := 27) (v := ?atj) rfl ?amJ ?ata
         case amJ => intro u aH; (try dsimp only at aH); have jl := (aH.at 0 _ _ _ rfl); have anW := af jl 0 (.bool (jg j 0).b) rfl; have anX := af jl 1 (.slice (jg j 0).a (jg j 0).n (jg j 0).c) rfl; have anY := af jl 2 (.slice (jg j 0).d (jg j 0).m (jg j 0).e) rfl; have anZ := af jl 3 (.bool (jg j 1).b) rfl; have an0 := af jl 4 (.slice (jg j 1).a (jg j 1).n (jg j 1).c) rfl; have an1 := af jl 5 (.slice (jg j 1).d (jg j 1).m (jg j 1).e) rfl; have an2 := af jl 6 (.bool (jg j 2).b) rfl; have an3 := af jl 7 (.slice (jg j 2).a (jg j 2).n (jg j 2).c) rfl; have an4 := af jl 8 (.slice (jg j 2).d (jg j 2).m (jg j 2).e) rfl; have an5 := af jl 9 (.bool d3.b) rfl; have aka := af jl 10 (.slice d3.a d3.n d3.c) rfl; have akb := af jl 11 (.slice d3.d d3.m d3.e) rfl; have akc := af jl 12 (.bool d4.b) rfl; have akd := af jl 13 (.slice d4.a d4.n d4.c) rfl; have ake := af jl 14 (.slice d4.d d4.m d4.e) rfl; have akf := af jl 15 (.bool d5.b) rfl; have akg := af jl 16 (.slice d5.a d5.n d5.c) rfl; have akh := af jl 17 (.slice d5.d d5.m d5.e) rfl; have aki := af jl 18 (.bool d6.b) rfl; have akj := af jl 19 (.slice d6.a d6.n d6.c) rfl; have akk := af jl 20 (.slice d6.d d6.m d6.e) rfl; clear jl; clear aH; go_simp <;> with_reducible rfl
         try simp only [ag]
         refine rdA (i := 25) rfl (fun K hK => ?_)
         go_simp
         have alj := HS.out.p 7 _ _ rfl
         have alk := HS.out.p 6 _ _ rfl
         go_wp2_with (go_at_call 14; (with_reducible refine (HT5.out _ _ (gB alj alk)).mono ?_); rintro e avi ⟨rfl, EF⟩)
         refine hK.out _ _ (Sx.below hh EF) (fun hh => ?_)
         clear hK K
         try simp only [ag]
         replace HS := ae (HS.out.below EF)
         replace jC := ae (ax jC.out EF)
         replace o_ := ae (ax o_.out EF)
         replace pR := ae (ax pR.out EF)
         replace HG := ae (HG.out.below EF)
         clear EF alj alk
         refine rdA (i := 28) rfl (fun K hK => ?_)
         go_simp
         have alm := HS.out.p 3 _ _ rfl
         have a116 := HS.out.p 2 _ _ rfl
         go_wp2_with (go_at_call 14; (with_reducible refine (HT5.out _ _ (gB alm a116)).mono ?_); rintro e avj ⟨rfl, EG⟩)
         refine hK.out _ _ (Sx.below hh EG) (fun hh => ?_)
         clear hK K
         try simp only [ag]
         replace HS := ae (HS.out.below EG)
         replace jC := ae (ax jC.out EG)
         replace o_ := ae (ax o_.out EG)
         replace pR := ae (ax pR.out EG)
         replace HG := ae (HG.out.below EG)
         clear EG alm a116
         refine dF (i := 29) (v := ?atl) rfl ?amK ?atc
         case amK => intro u aH; go_simp <;> with_reducible rfl
         try simp only [ag]
         refine dF (i := 30) (v := ?atm) rfl ?amL ?atd
         case amL => intro u aH; go_simp <;> with_reducible rfl
         try simp only [ag]
         refine wpAnyH_done (by kernel_rfl) ?_ _
         go_wp2_with fail
         exact ⟨⟨i + 1, by have := gq.out; omega, by go_num, ae (((((((((HS.out).erase 0).erase 0).az (HS.out.p 15 _ _ rfl)).az (HS.out.p 14 _ _ rfl)).az (HS.out.p 13 _ _ rfl)).az (HS.out.p 12 _ _ rfl)).az (HS.out.p 11 _ _ rfl)).az (HS.out.p 10 _ _ rfl)), ae (HG.out.mono (fun b hb => ⟨b, by simp only [List.mem_cons] at hb ⊢; first | exact hb | (repeat (first | exact hb | right)), rfl⟩)), jC, o_, pR⟩, bU gq.out⟩
        ·
         obtain rfl : i = qs.length := by omega
         go_wp2_with fail
         refine (qX _).mono ?_
         rintro e avk ⟨rfl, Il⟩
         replace HS := ae (HS.out.below Il)
         replace jC := ae (ax jC.out Il)
         replace o_ := ae (ax o_.out Il)
         replace pR := ae (ax pR.out Il)
         replace HG := ae (HG.out.below Il)
         clear Il
         go_wp2_with fail
         go_ret
         exact ⟨by rfl, HS.out.bel⟩
end Go.Proofs.YtkblihocfapklaaGreat
