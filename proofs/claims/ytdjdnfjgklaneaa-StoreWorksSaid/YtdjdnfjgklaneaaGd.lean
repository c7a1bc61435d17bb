/- Part d of the lemmas and walks. -/
import Derived.Laws.FloatArith
import Derived.Test.YtdjdnfjgklaneaaGa
import Derived.Test.YtdjdnfjgklaneaaGb
import Derived.Test.YtdjdnfjgklaneaaGc

/- THE WALK OF store.CheckTable. -/
namespace Go.Proofs.Ytdjdnfjgklaneaa
open Go.RowKit

/-- The first answer that is not 0 of the first n. -/
def firstErr (f : Nat → Int) : Nat → Int
  | 0 => 0
  | k + 1 => if firstErr f k = 0 then f k else firstErr f k
theorem firstErr_step {f : Nat → Int} {i : Nat} (h : firstErr f i = 0) : firstErr f (i + 1) = f i := by simp [firstErr, h]
theorem firstErr_stay {f : Nat → Int} {i n : Nat} (h : firstErr f i ≠ 0) (hn : i ≤ n) : firstErr f n = firstErr f i := by
  obtain ⟨k, rfl⟩ : ∃ k, n = i + k := ⟨n - i, by omega⟩
  induction k with
  | zero => rfl
  | succ k ih =>
    have := ih (by omega)
    show (if firstErr f (i + k) = 0 then f (i + k) else firstErr f (i + k)) = _
    rw [this, if_neg h]

/-- The error of entry i of a table. -/
def entErr (es : List (Rat × Int)) (i : Nat) : Int :=
  if 0 < i ∧ cmpR (es.getD i (0, 0)).1 (es.getD (i - 1) (0, 0)).1 ≤ 0 then 7
  else if (es.getD i (0, 0)).2 < 0 ∨ 1000 < (es.getD i (0, 0)).2 ∨ (0 < i ∧ (es.getD i (0, 0)).2 < (es.getD (i - 1) (0, 0)).2) then 1 else 0
/-- The error of a table. -/
def tabErr (es : List (Rat × Int)) : Int := if es.length < 1 ∨ 16 < es.length then 4 else firstErr (entErr es) es.length

theorem keepA6 {n : Nat} {W a b : World} {A0 A1 A2 A3 A4 A5 : Addr} {v0 v1 v2 v3 v4 v5 : Value} (hn : n ≤ W.heap.size) (hb : Below a.heap.size a b)
    (h : Below n W a ∧ a.cell? A0 = some v0 ∧ a.cell? A1 = some v1 ∧ a.cell? A2 = some v2 ∧ a.cell? A3 = some v3 ∧ a.cell? A4 = some v4 ∧ a.cell? A5 = some v5) :
    Below n W b ∧ b.cell? A0 = some v0 ∧ b.cell? A1 = some v1 ∧ b.cell? A2 = some v2 ∧ b.cell? A3 = some v3 ∧ b.cell? A4 = some v4 ∧ b.cell? A5 = some v5 := by
  obtain ⟨h0, h1, h2, h3, h4, h5, h6⟩ := h
  have e : ∀ A v, a.cell? A = some v → b.cell? A = some v := fun A v h => (hb.cell (World.block_lt_of_cell? (h := h))).trans h
  have hs := h0.size
  exact ⟨h0.trans (hb.mono (by omega)), e _ _ h1, e _ _ h2, e _ _ h3, e _ _ h4, e _ _ h5, e _ _ h6⟩

theorem keepA8 {n : Nat} {W a b : World} {A0 A1 A2 A3 A4 A5 A6 A7 : Addr} {v0 v1 v2 v3 v4 v5 v6 v7 : Value} (hn : n ≤ W.heap.size) (hb : Below a.heap.size a b)
    (h : Below n W a ∧ a.cell? A0 = some v0 ∧ a.cell? A1 = some v1 ∧ a.cell? A2 = some v2 ∧ a.cell? A3 = some v3 ∧ a.cell? A4 = some v4 ∧ a.cell? A5 = some v5 ∧ a.cell? A6 = some v6 ∧ a.cell? A7 = some v7) :
    Below n W b ∧ b.cell? A0 = some v0 ∧ b.cell? A1 = some v1 ∧ b.cell? A2 = some v2 ∧ b.cell? A3 = some v3 ∧ b.cell? A4 = some v4 ∧ b.cell? A5 = some v5 ∧ b.cell? A6 = some v6 ∧ b.cell? A7 = some v7 := by
  obtain ⟨h0, h1, h2, h3, h4, h5, h6, h7, h8⟩ := h
  have e : ∀ A v, a.cell? A = some v → b.cell? A = some v := fun A v h => (hb.cell (World.block_lt_of_cell? (h := h))).trans h
  have hs := h0.size
  exact ⟨h0.trans (hb.mono (by omega)), e _ _ h1, e _ _ h2, e _ _ h3, e _ _ h4, e _ _ h5, e _ _ h6, e _ _ h7, e _ _ h8⟩

set_option maxRecDepth 100000 in
set_option maxHeartbeats 4000000 in
theorem checkTable_any (es : List (Rat × Int)) (ve : Value) (w : World) (he : EntsOf IsRat w ve es) (hs : ∀ i, i < es.length → szR (es.getD i (0, 0)).1 274877906944) :
    Calls Try.prog 19 #[ve] w (RetInt (tabErr es) w) := by
  obtain ⟨ao, cap, rfl, hE⟩ := he
  have HS := Lib.hid hs
  have HE := Lib.hid hE
  clear hs hE
  by_cases h1 : es.length < 1
  · have t1 : decide ((es.length : Int) < 1) = true := by simp; omega
    have Hr : Hid (tabErr es = 4) := by show tabErr es = 4; unfold tabErr; rw [if_pos (.inl h1)]
    clear h1
    go_enter Try.func19, Try.ntmps19
    go_wp2_with fail
    go_ret
    exact ⟨by rw [Hr.out]; rfl, Below.refl _ _⟩
  · by_cases h16 : 16 < es.length
    · have t1 : decide ((es.length : Int) < 1) = false := by simp; omega
      have t2 : decide ((es.length : Int) > 16) = true := by simp; omega
      have Hr : Hid (tabErr es = 4) := by show tabErr es = 4; unfold tabErr; rw [if_pos (.inr h16)]
      clear h1 h16
      go_enter Try.func19, Try.ntmps19
      go_wp2_with fail
      go_ret
      exact ⟨by rw [Hr.out]; rfl, Below.refl _ _⟩
    · have t1 : decide ((es.length : Int) < 1) = false := by simp; omega
      have t2 : decide ((es.length : Int) > 16) = false := by simp; omega
      have Hr : Hid (tabErr es = firstErr (entErr es) es.length) := by show tabErr es = _; unfold tabErr; rw [if_neg (by omega)]
      have hlen : es.length ≤ 16 := by omega
      obtain ⟨b, off, rfl, hbl, hEE⟩ := HE.out (by omega)
      have HEE := Lib.hid hEE
      clear HE h1 h16 hEE
      go_enter Try.func19, Try.ntmps19
      go_wp2_with fail
      go_loopw [15] (fun iv wr => ∃ (i : Nat), i ≤ es.length ∧ iv = .int .i64 i ∧ Hid (firstErr (entErr es) i = 0) ∧ Below w.heap.size w wr)
        (fun iv _ => es.length - (intOf iv).toNat)
      case atStart => exact ⟨0, Nat.zero_le _, rfl, rfl, Below.refl _ _⟩
      case round =>
        obtain ⟨i, hi, rfl, hF, hbel⟩ := hrel
        by_cases hlt : i < es.length
        · have hEi := (HEE.out i hlt).below IsRat.belowAll hbel hbl
          obtain ⟨v0, vn, vd, g0, g1, g2, g3, gR⟩ := hEi
          have HR := Lib.hid gR
          obtain ⟨e1, f1, e2, f2, hag, m1, m2⟩ := gR.opened
          simp only [Value.agg.injEq, Array.mk.injEq, List.cons.injEq, and_true] at hag
          obtain ⟨rfl, rfl, rfl⟩ := hag
          have hst := Lib.hid (firstErr_step hF.out)
          have hstay : Hid (entErr es i ≠ 0 → tabErr es = entErr es i) := fun h => by
            rw [Hr.out, ← hst.out]
            exact firstErr_stay (by rw [hst.out]; exact h) hlt
          have hsz := Lib.hid (HS.out i hlt)
          have hlt' : (i : Int) < es.length := by omega
          have hbl2 : b < wr.heap.size := Nat.lt_of_lt_of_le hbl hbel.size
          clear m1 m2 gR
          rcases Nat.eq_zero_or_pos i with hi0 | hi0
          · have hent : entErr es i = if (es.getD i (0, 0)).2 < 0 ∨ 1000 < (es.getD i (0, 0)).2 then 1 else 0 := by
              unfold entErr
              rw [if_neg (by omega)]
              simp [hi0]
            have ti : decide (0 < i) = false := by simp [hi0]
            have Hent := Lib.hid hent
            clear hent hi0
            generalize (es.getD i (0, 0)).1 = x at *
            generalize (es.getD i (0, 0)).2 = y at *
            have hW2 : Below w.heap.size w (((wr.alloc (.cells #[.bool (decide (x.num < 0)), .slice e1 (dig b64 x.num.natAbs).length f1, .slice e2 (dig b64 (dn x.den)).length f2, .int .i64 y] 119)).drew).drew) := (hbel.alloc hbel.size _).drew.drew
            by_cases hy1 : y < 0
            · have ty1 : decide (y < 0) = true := decide_eq_true hy1
              have Hv : Hid (tabErr es = 1) := by
                have h : entErr es i = 1 := by rw [Hent.out]; rw [if_pos (.inl hy1)]
                show tabErr es = 1
                rw [hstay.out (by rw [h]; decide), h]
              clear hy1
              go_wp2_with fail
              go_region
              go_wp2_with fail
              go_region
              go_wp2_with fail
              go_ret
              exact ⟨by rw [Hv.out]; rfl, hW2⟩
            · have ty1 : decide (y < 0) = false := decide_eq_false hy1
              by_cases hy2 : 1000 < y
              · have ty2 : decide (y > 1000) = true := decide_eq_true hy2
                have Hv : Hid (tabErr es = 1) := by
                  have h : entErr es i = 1 := by rw [Hent.out]; rw [if_pos (.inr hy2)]
                  show tabErr es = 1
                  rw [hstay.out (by rw [h]; decide), h]
                clear hy1 hy2
                go_wp2_with fail
                go_region
                go_wp2_with fail
                go_region
                go_wp2_with fail
                go_ret
                exact ⟨by rw [Hv.out]; rfl, hW2⟩
              · have ty2 : decide (y > 1000) = false := decide_eq_false hy2
                have Hno : Hid (¬ (y < 0 ∨ 1000 < y)) := by show ¬ _; omega
                clear hy1 hy2
                go_wp2_with fail
                go_region
                go_wp2_with fail
                have Hv : Hid (firstErr (entErr es) (i + 1) = 0) := by
                  show _ = _
                  rw [hst.out, Hent.out]
                  rw [if_neg Hno.out]
                go_region
                go_wp2_with fail
                exact ⟨⟨i + 1, by omega, by go_num, Hv.out, hW2⟩, meas_up hlt⟩
          · have ti : decide (0 < i) = true := by simp [hi0]
            obtain ⟨j, hj⟩ : ∃ j, i = j + 1 := ⟨i - 1, by omega⟩
            have hEj := (HEE.out j (by omega)).below IsRat.belowAll hbel hbl
            obtain ⟨v0, vn, vd, k0, k1, k2, k3, kR⟩ := hEj
            have KR := Lib.hid kR
            obtain ⟨e3, f3, e4, f4, hag, m1, m2⟩ := kR.opened
            simp only [Value.agg.injEq, Array.mk.injEq, List.cons.injEq, and_true] at hag
            obtain ⟨rfl, rfl, rfl⟩ := hag
            have hszj := Lib.hid (HS.out j (by omega))
            have Hent : Hid (entErr es i = if cmpR (es.getD i (0, 0)).1 (es.getD j (0, 0)).1 ≤ 0 then 7 else if (es.getD i (0, 0)).2 < 0 ∨ 1000 < (es.getD i (0, 0)).2 ∨ (es.getD i (0, 0)).2 < (es.getD j (0, 0)).2 then 1 else 0) := by
              show entErr es i = _
              unfold entErr
              have e : i - 1 = j := by omega
              simp [hi0, e]
            have e1' : IntKind.i64.wrap ((i : Int) - 1) = (j : Int) := by rw [show (i : Int) - 1 = (j : Int) by omega]; exact IntWalk.i64_in _ (by omega)
            have hj2 : (j : Int) < es.length := by omega
            have hj0 : (0 : Int) ≤ j := by omega
            clear m1 m2 kR hi0 hj
            generalize (es.getD i (0, 0)).1 = x at *
            generalize (es.getD i (0, 0)).2 = y at *
            generalize (es.getD j (0, 0)).1 = x0 at *
            generalize (es.getD j (0, 0)).2 = y0 at *
            have hal2 : Below wr.heap.size wr (wr.alloc (.cells #[.bool (decide (x.num < 0)), .slice e1 (dig b64 x.num.natAbs).length f1, .slice e2 (dig b64 (dn x.den)).length f2, .int .i64 y] 119)) := (Below.refl _ _).alloc (Nat.le_refl _) _
            have hN := blk_new wr #[.bool (decide (x.num < 0)), .slice e1 (dig b64 x.num.natAbs).length f1, .slice e2 (dig b64 (dn x.den)).length f2, .int .i64 y] 119
            have hk : ∀ (j : Nat) (v : Value), wr.cell? ⟨b, j, none⟩ = some v → (wr.alloc (.cells #[.bool (decide (x.num < 0)), .slice e1 (dig b64 x.num.natAbs).length f1, .slice e2 (dig b64 (dn x.den)).length f2, .int .i64 y] 119)).cell? ⟨b, j, none⟩ = some v := fun j v h => (hal2.cell (p := ⟨b, j, none⟩) hbl2).trans h
            have s0 : (wr.alloc (.cells #[.bool (decide (x.num < 0)), .slice e1 (dig b64 x.num.natAbs).length f1, .slice e2 (dig b64 (dn x.den)).length f2, .int .i64 y] 119)).drew.cell? ⟨wr.heap.size, 0, none⟩ = some (.bool (decide (x.num < 0))) := blk_cell hN 0 _ rfl
            have s1 : (wr.alloc (.cells #[.bool (decide (x.num < 0)), .slice e1 (dig b64 x.num.natAbs).length f1, .slice e2 (dig b64 (dn x.den)).length f2, .int .i64 y] 119)).drew.cell? ⟨wr.heap.size, 1, none⟩ = some (.slice e1 (dig b64 x.num.natAbs).length f1) := blk_cell hN 1 _ rfl
            have s2 : (wr.alloc (.cells #[.bool (decide (x.num < 0)), .slice e1 (dig b64 x.num.natAbs).length f1, .slice e2 (dig b64 (dn x.den)).length f2, .int .i64 y] 119)).drew.cell? ⟨wr.heap.size, 2, none⟩ = some (.slice e2 (dig b64 (dn x.den)).length f2) := blk_cell hN 2 _ rfl
            have s3 : (wr.alloc (.cells #[.bool (decide (x.num < 0)), .slice e1 (dig b64 x.num.natAbs).length f1, .slice e2 (dig b64 (dn x.den)).length f2, .int .i64 y] 119)).drew.cell? ⟨wr.heap.size, 3, none⟩ = some (.int .i64 y) := blk_cell hN 3 _ rfl
            go_wp2_with fail
            go_region_held3 (fun w' => Below wr.heap.size wr w' ∧ w'.cell? ⟨wr.heap.size, 0, none⟩ = some (.bool (decide (x.num < 0))) ∧ w'.cell? ⟨wr.heap.size, 1, none⟩ = some (.slice e1 (dig b64 x.num.natAbs).length f1) ∧ w'.cell? ⟨wr.heap.size, 2, none⟩ = some (.slice e2 (dig b64 (dn x.den)).length f2) ∧ w'.cell? ⟨b, off + j * 4, none⟩ = some (.bool (decide (x0.num < 0))) ∧ w'.cell? ⟨b, off + j * 4 + 1, none⟩ = some (.slice e3 (dig b64 x0.num.natAbs).length f3) ∧ w'.cell? ⟨b, off + j * 4 + 2, none⟩ = some (.slice e4 (dig b64 (dn x0.den)).length f4) ∧ w'.cell? ⟨b, off + j * 4 + 3, none⟩ = some (.int .i64 y0) ∧ w'.cell? ⟨wr.heap.size, 3, none⟩ = some (.int .i64 y))
              (first | exact ⟨hal2.drew, s0, s1, s2, hk _ _ k0, hk _ _ k1, hk _ _ k2, hk _ _ k3, s3⟩ | exact keepA8 (Nat.le_refl _) hb2 (by assumption))
              (first | (go_at_call 38; refine (cmpRat_any x x0 _ _ _ (HR.out.below (And.left (by assumption))) (KR.out.below (And.left (by assumption))) hsz.out hszj.out).mono ?_; rintro e w2 ⟨rfl, hb2⟩))
            rename_i hS2
            obtain ⟨hW2, s0', s1', s2', k0', k1', k2', k3', s3'⟩ := hS2
            have hW3 := ext_trans hbel hW2
            clear s0 s1 s2 s3 k0 k1 k2 k3 g0 g1 g2 g3 hk hN hal2 hb2 s0' s1' s2' k0' k1' k2' hW2
            by_cases hc : cmpR x x0 ≤ 0
            · have hc' : decide (cmpR x x0 ≤ 0) = true := decide_eq_true hc
              have Hv : Hid (tabErr es = 7) := by
                have h : entErr es i = 7 := by rw [Hent.out]; rw [if_pos hc]
                show tabErr es = 7
                rw [hstay.out (by rw [h]; decide), h]
              clear hc
              generalize cmpR x x0 = c at *
              rw [hc']
              go_wp2_with fail
              go_ret
              exact ⟨by rw [Hv.out]; rfl, hW3⟩
            · have hc' : decide (cmpR x x0 ≤ 0) = false := decide_eq_false hc
              replace Hent : Hid (entErr es i = if y < 0 ∨ 1000 < y ∨ y < y0 then 1 else 0) := by show _ = _; rw [Hent.out, if_neg hc]
              clear hc
              generalize cmpR x x0 = c at *
              rw [hc']
              by_cases hy1 : y < 0
              · have ty1 : decide (y < 0) = true := decide_eq_true hy1
                have Hv : Hid (tabErr es = 1) := by
                  have h : entErr es i = 1 := by rw [Hent.out]; rw [if_pos (.inl hy1)]
                  show tabErr es = 1
                  rw [hstay.out (by rw [h]; decide), h]
                clear hy1
                go_wp2_with fail
                go_region
                go_wp2_with fail
                go_ret
                exact ⟨by rw [Hv.out]; rfl, hW3.drew⟩
              · have ty1 : decide (y < 0) = false := decide_eq_false hy1
                by_cases hy2 : 1000 < y
                · have ty2 : decide (y > 1000) = true := decide_eq_true hy2
                  have Hv : Hid (tabErr es = 1) := by
                    have h : entErr es i = 1 := by rw [Hent.out]; rw [if_pos (.inr (.inl hy2))]
                    show tabErr es = 1
                    rw [hstay.out (by rw [h]; decide), h]
                  clear hy1 hy2
                  go_wp2_with fail
                  go_region
                  go_wp2_with fail
                  go_ret
                  exact ⟨by rw [Hv.out]; rfl, hW3.drew⟩
                · have ty2 : decide (y > 1000) = false := decide_eq_false hy2
                  by_cases hy3 : y < y0
                  · have ty3 : decide (y < y0) = true := decide_eq_true hy3
                    have Hv : Hid (tabErr es = 1) := by
                      have h : entErr es i = 1 := by rw [Hent.out]; rw [if_pos (.inr (.inr hy3))]
                      show tabErr es = 1
                      rw [hstay.out (by rw [h]; decide), h]
                    clear hy1 hy2 hy3
                    go_wp2_with fail
                    go_region
                    go_wp2_with fail
                    go_ret
                    exact ⟨by rw [Hv.out]; rfl, hW3.drew⟩
                  · have ty3 : decide (y < y0) = false := decide_eq_false hy3
                    have Hno : Hid (¬ (y < 0 ∨ 1000 < y ∨ y < y0)) := by show ¬ _; omega
                    clear hy1 hy2 hy3
                    have Hv : Hid (firstErr (entErr es) (i + 1) = 0) := by
                      show _ = _
                      rw [hst.out, Hent.out]
                      rw [if_neg Hno.out]
                    go_wp2_with fail
                    go_region
                    go_wp2_with fail
                    exact ⟨⟨i + 1, by omega, by go_num, Hv.out, hW3.drew⟩, meas_up hlt⟩
        · obtain rfl : i = es.length := by omega
          have Hf : Hid (tabErr es = 0) := by show tabErr es = 0; rw [Hr.out, hF.out]
          clear hF
          go_wp2_with fail
          go_ret
          exact ⟨by rw [Hf.out]; rfl, hbel⟩

end Go.Proofs.Ytdjdnfjgklaneaa

/- JOBS: what a slice of pairs of integers reads as; the walks of store.checkJobs and store.from. -/
namespace Go.Proofs.Ytdjdnfjgklaneaa
open Go.RowKit

/-- Two cells read as a pair of integers. -/
def PairAt (w : World) (b o : Nat) (r : Int × Int) : Prop := w.cell? ⟨b, o, none⟩ = some (.int .i64 r.1) ∧ w.cell? ⟨b, o + 1, none⟩ = some (.int .i64 r.2)
/-- The slice v reads as the pairs ps. -/
def PairsOf (w : World) (v : Value) (ps : List (Int × Int)) : Prop :=
  ∃ ao cap, v = .slice ao ps.length cap ∧ (0 < ps.length → ∃ b off, ao = some ⟨b, off, none⟩ ∧ b < w.heap.size ∧ ∀ i, i < ps.length → PairAt w b (off + i * 2) (ps.getD i (0, 0)))
theorem PairAt.below {w w' : World} {b o : Nat} {r : Int × Int} (h : PairAt w b o r) (hb : Below w.heap.size w w') (hl : b < w.heap.size) : PairAt w' b o r :=
  ⟨(hb.cell (p := ⟨b, o, none⟩) hl).trans h.1, (hb.cell (p := ⟨b, o + 1, none⟩) hl).trans h.2⟩
theorem PairsOf.below {w w' : World} {v : Value} {ps : List (Int × Int)} (h : PairsOf w v ps) (hb : Below w.heap.size w w') : PairsOf w' v ps := by
  obtain ⟨ao, cap, rfl, h⟩ := h
  refine ⟨ao, cap, rfl, fun hl => ?_⟩
  obtain ⟨b, off, rfl, hlt, h⟩ := h hl
  exact ⟨b, off, rfl, Nat.lt_of_lt_of_le hlt hb.size, fun i hi => (h i hi).below hb hlt⟩

/-- The error of job i. -/
def jobErr (js : List (Int × Int)) (i : Nat) : Int :=
  if (js.getD i (0, 0)).1 < 0 ∨ 1000000 < (js.getD i (0, 0)).1 ∨ (js.getD i (0, 0)).2 < 0 ∨ 1000000 < (js.getD i (0, 0)).2 then 1 else 0
/-- The error of jobs. -/
def jobsErr (js : List (Int × Int)) (ovens : Int) : Int :=
  if 64 < js.length then 4 else if ovens < 1 ∨ 8 < ovens then 1 else firstErr (jobErr js) js.length

set_option maxHeartbeats 2000000 in
theorem checkJobs_any (js : List (Int × Int)) (ovens : Int) (vj : Value) (w : World) (hj : PairsOf w vj js) : Calls Try.prog 58 #[vj, .int .i64 ovens] w (RetInt (jobsErr js ovens) w) := by
  obtain ⟨ao, cap, rfl, hE⟩ := hj
  have HE := Lib.hid hE
  clear hE
  by_cases h1 : 64 < js.length
  · have t1 : decide ((js.length : Int) > 64) = true := by simp; omega
    have Hr : Hid (jobsErr js ovens = 4) := by show _ = _; unfold jobsErr; rw [if_pos h1]
    clear h1
    go_enter Try.func58, Try.ntmps58
    go_wp2_with fail
    go_ret
    exact ⟨by rw [Hr.out]; rfl, Below.refl _ _⟩
  · have t1 : decide ((js.length : Int) > 64) = false := by simp; omega
    by_cases h2 : ovens < 1
    · have t2 : decide (ovens < 1) = true := decide_eq_true h2
      have Hr : Hid (jobsErr js ovens = 1) := by show _ = _; unfold jobsErr; rw [if_neg h1, if_pos (.inl h2)]
      clear h1 h2
      go_enter Try.func58, Try.ntmps58
      go_wp2_with fail
      go_ret
      exact ⟨by rw [Hr.out]; rfl, Below.refl _ _⟩
    · have t2 : decide (ovens < 1) = false := decide_eq_false h2
      by_cases h3 : 8 < ovens
      · have t3 : decide (ovens > 8) = true := decide_eq_true h3
        have Hr : Hid (jobsErr js ovens = 1) := by show _ = _; unfold jobsErr; rw [if_neg h1, if_pos (.inr h3)]
        clear h1 h2 h3
        go_enter Try.func58, Try.ntmps58
        go_wp2_with fail
        go_ret
        exact ⟨by rw [Hr.out]; rfl, Below.refl _ _⟩
      · have t3 : decide (ovens > 8) = false := decide_eq_false h3
        have Hr : Hid (jobsErr js ovens = firstErr (jobErr js) js.length) := by show _ = _; unfold jobsErr; rw [if_neg h1, if_neg (by omega)]
        have hlen : js.length ≤ 64 := by omega
        clear h1 h2 h3
        go_enter Try.func58, Try.ntmps58
        go_wp2_with fail
        go_loopw [20] (fun iv wr => ∃ (i : Nat), i ≤ js.length ∧ iv = .int .i64 i ∧ Hid (firstErr (jobErr js) i = 0) ∧ Below w.heap.size w wr)
          (fun iv _ => js.length - (intOf iv).toNat)
        case atStart => exact ⟨0, Nat.zero_le _, rfl, rfl, Below.refl _ _⟩
        case round =>
          obtain ⟨i, hi, rfl, hF, hbel⟩ := hrel
          by_cases hlt : i < js.length
          · obtain ⟨b, off, rfl, hbl, hEE⟩ := HE.out (by omega)
            obtain ⟨g0, g1⟩ := (hEE i hlt).below hbel hbl
            have hst := Lib.hid (firstErr_step hF.out)
            have hstay : Hid (jobErr js i ≠ 0 → jobsErr js ovens = jobErr js i) := fun h => by
              rw [Hr.out, ← hst.out]
              exact firstErr_stay (by rw [hst.out]; exact h) hlt
            have hlt' : (i : Int) < js.length := by omega
            have hge' : (0 : Int) ≤ i := by omega
            have hbl2 : b < wr.heap.size := Nat.lt_of_lt_of_le hbl hbel.size
            have Hent : Hid (jobErr js i = if (js.getD i (0, 0)).1 < 0 ∨ 1000000 < (js.getD i (0, 0)).1 ∨ (js.getD i (0, 0)).2 < 0 ∨ 1000000 < (js.getD i (0, 0)).2 then 1 else 0) := rfl
            generalize (js.getD i (0, 0)).1 = r at *
            generalize (js.getD i (0, 0)).2 = m at *
            have hal := hbel.alloc hbel.size (.cells #[.int .i64 r, .int .i64 m] 106)
            clear hEE
            have bad : (r < 0 ∨ 1000000 < r ∨ m < 0 ∨ 1000000 < m) → Hid (jobsErr js ovens = 1) := fun hb => by
              have h : jobErr js i = 1 := by rw [Hent.out, if_pos hb]
              show jobsErr js ovens = 1
              rw [hstay.out (by rw [h]; decide), h]
            by_cases c1 : r < 0
            · have t4 : decide (r < 0) = true := decide_eq_true c1
              have Hv := bad (.inl c1)
              clear c1 bad
              go_wp2_with fail
              go_ret
              exact ⟨by rw [Hv.out]; rfl, hal⟩
            · have t4 : decide (r < 0) = false := decide_eq_false c1
              by_cases c2 : 1000000 < r
              · have t5 : decide (r > 1000000) = true := decide_eq_true c2
                have Hv := bad (.inr (.inl c2))
                clear c1 c2 bad
                go_wp2_with fail
                go_ret
                exact ⟨by rw [Hv.out]; rfl, hal⟩
              · have t5 : decide (r > 1000000) = false := decide_eq_false c2
                by_cases c3 : m < 0
                · have t6 : decide (m < 0) = true := decide_eq_true c3
                  have Hv := bad (.inr (.inr (.inl c3)))
                  clear c1 c2 c3 bad
                  go_wp2_with fail
                  go_ret
                  exact ⟨by rw [Hv.out]; rfl, hal⟩
                · have t6 : decide (m < 0) = false := decide_eq_false c3
                  by_cases c4 : 1000000 < m
                  · have t7 : decide (m > 1000000) = true := decide_eq_true c4
                    have Hv := bad (.inr (.inr (.inr c4)))
                    clear c1 c2 c3 c4 bad
                    go_wp2_with fail
                    go_ret
                    exact ⟨by rw [Hv.out]; rfl, hal⟩
                  · have t7 : decide (m > 1000000) = false := decide_eq_false c4
                    have Hv : Hid (firstErr (jobErr js) (i + 1) = 0) := by
                      show _ = _
                      rw [hst.out, Hent.out, if_neg (by omega)]
                    clear c1 c2 c3 c4 bad
                    go_wp2_with fail
                    exact ⟨⟨i + 1, by omega, by go_num, Hv.out, hal⟩, meas_up hlt⟩
          · obtain rfl : i = js.length := by omega
            have Hf : Hid (jobsErr js ovens = 0) := by show jobsErr js ovens = 0; rw [Hr.out, hF.out]
            clear hF
            go_wp2_with fail
            go_ret
            exact ⟨by rw [Hf.out]; rfl, hbel⟩

structure GoodJobs (js : List (Int × Int)) (ovens : Int) : Prop where
  len : js.length ≤ 64
  o1 : 1 ≤ ovens
  o8 : ovens ≤ 8
  job : ∀ i, i < js.length → 0 ≤ (js.getD i (0, 0)).1 ∧ (js.getD i (0, 0)).1 ≤ 1000000 ∧ 0 ≤ (js.getD i (0, 0)).2 ∧ (js.getD i (0, 0)).2 ≤ 1000000

end Go.Proofs.Ytdjdnfjgklaneaa

/- THE WALK OF THE REFERENCE's CheckTable. -/
namespace Go.Proofs.Ytdjdnfjgklaneaa
open Go.RowKit

set_option maxRecDepth 100000 in
set_option maxHeartbeats 4000000 in
theorem qcheckTable_any (es : List (Rat × Int)) (ve : Value) (w : World) (he : EntsOf IsR w ve es) (hs : ∀ i, i < es.length → szQ (es.getD i (0, 0)).1 17179869184) :
    Calls Try.prog 20 #[ve] w (RetInt (tabErr es) w) := by
  obtain ⟨ao, cap, rfl, hE⟩ := he
  have HS := Lib.hid hs
  have HE := Lib.hid hE
  clear hs hE
  by_cases h1 : es.length < 1
  · have t1 : decide ((es.length : Int) < 1) = true := by simp; omega
    have Hr : Hid (tabErr es = 4) := by show tabErr es = 4; unfold tabErr; rw [if_pos (.inl h1)]
    clear h1
    go_enter Try.func20, Try.ntmps20
    go_wp2_with fail
    go_ret
    exact ⟨by rw [Hr.out]; rfl, Below.refl _ _⟩
  · by_cases h16 : 16 < es.length
    · have t1 : decide ((es.length : Int) < 1) = false := by simp; omega
      have t2 : decide ((es.length : Int) > 16) = true := by simp; omega
      have Hr : Hid (tabErr es = 4) := by show tabErr es = 4; unfold tabErr; rw [if_pos (.inr h16)]
      clear h1 h16
      go_enter Try.func20, Try.ntmps20
      go_wp2_with fail
      go_ret
      exact ⟨by rw [Hr.out]; rfl, Below.refl _ _⟩
    · have t1 : decide ((es.length : Int) < 1) = false := by simp; omega
      have t2 : decide ((es.length : Int) > 16) = false := by simp; omega
      have Hr : Hid (tabErr es = firstErr (entErr es) es.length) := by show tabErr es = _; unfold tabErr; rw [if_neg (by omega)]
      have hlen : es.length ≤ 16 := by omega
      obtain ⟨b, off, rfl, hbl, hEE⟩ := HE.out (by omega)
      have HEE := Lib.hid hEE
      clear HE h1 h16 hEE
      go_enter Try.func20, Try.ntmps20
      go_wp2_with fail
      go_loopw [3] (fun iv wr => ∃ (i : Nat), i ≤ es.length ∧ iv = .int .i64 i ∧ Hid (firstErr (entErr es) i = 0) ∧ Below w.heap.size w wr)
        (fun iv _ => es.length - (intOf iv).toNat)
      case atStart => exact ⟨0, Nat.zero_le _, rfl, rfl, Below.refl _ _⟩
      case round =>
        obtain ⟨i, hi, rfl, hF, hbel⟩ := hrel
        by_cases hlt : i < es.length
        · have hEi := (HEE.out i hlt).below IsR.belowAll hbel hbl
          obtain ⟨v0, vn, vd, g0, g1, g2, g3, gR⟩ := hEi
          have HR := Lib.hid gR
          obtain ⟨q1, e1, f1, e2, f2, hag, m1, m2, D1⟩ := gR.opened
          simp only [Value.agg.injEq, Array.mk.injEq, List.cons.injEq, and_true] at hag
          obtain ⟨rfl, rfl, rfl⟩ := hag
          have hst := Lib.hid (firstErr_step hF.out)
          have hstay : Hid (entErr es i ≠ 0 → tabErr es = entErr es i) := fun h => by
            rw [Hr.out, ← hst.out]
            exact firstErr_stay (by rw [hst.out]; exact h) hlt
          have hsz := Lib.hid (HS.out i hlt)
          have hlt' : (i : Int) < es.length := by omega
          have hge' : (0 : Int) ≤ i := by omega
          have hbl2 : b < wr.heap.size := Nat.lt_of_lt_of_le hbl hbel.size
          clear m1 m2 gR
          rcases Nat.eq_zero_or_pos i with hi0 | hi0
          · have hent : entErr es i = if (es.getD i (0, 0)).2 < 0 ∨ 1000 < (es.getD i (0, 0)).2 then 1 else 0 := by
              unfold entErr
              rw [if_neg (by omega)]
              simp [hi0]
            have ti : decide (0 < i) = false := by simp [hi0]
            have Hent := Lib.hid hent
            clear hent hi0
            generalize (es.getD i (0, 0)).1 = x at *
            generalize (es.getD i (0, 0)).2 = y at *
            have hW2 : Below w.heap.size w (wr.drew.drew) := hbel.drew.drew
            by_cases hy1 : y < 0
            · have ty1 : decide (y < 0) = true := decide_eq_true hy1
              have Hv : Hid (tabErr es = 1) := by
                have h : entErr es i = 1 := by rw [Hent.out]; rw [if_pos (.inl hy1)]
                show tabErr es = 1
                rw [hstay.out (by rw [h]; decide), h]
              clear hy1
              go_wp2_with fail
              go_region
              go_wp2_with fail
              go_region
              go_wp2_with fail
              go_ret
              exact ⟨by rw [Hv.out]; rfl, hW2⟩
            · have ty1 : decide (y < 0) = false := decide_eq_false hy1
              by_cases hy2 : 1000 < y
              · have ty2 : decide (y > 1000) = true := decide_eq_true hy2
                have Hv : Hid (tabErr es = 1) := by
                  have h : entErr es i = 1 := by rw [Hent.out]; rw [if_pos (.inr hy2)]
                  show tabErr es = 1
                  rw [hstay.out (by rw [h]; decide), h]
                clear hy1 hy2
                go_wp2_with fail
                go_region
                go_wp2_with fail
                go_region
                go_wp2_with fail
                go_ret
                exact ⟨by rw [Hv.out]; rfl, hW2⟩
              · have ty2 : decide (y > 1000) = false := decide_eq_false hy2
                have Hno : Hid (¬ (y < 0 ∨ 1000 < y)) := by show ¬ _; omega
                clear hy1 hy2
                go_wp2_with fail
                go_region
                go_wp2_with fail
                have Hv : Hid (firstErr (entErr es) (i + 1) = 0) := by
                  show _ = _
                  rw [hst.out, Hent.out]
                  rw [if_neg Hno.out]
                go_region
                go_wp2_with fail
                exact ⟨⟨i + 1, by omega, by go_num, Hv.out, hW2⟩, meas_up hlt⟩
          · have ti : decide (0 < i) = true := by simp [hi0]
            obtain ⟨j, hj⟩ : ∃ j, i = j + 1 := ⟨i - 1, by omega⟩
            have hEj := (HEE.out j (by omega)).below IsR.belowAll hbel hbl
            obtain ⟨v0, vn, vd, k0, k1, k2, k3, kR⟩ := hEj
            have KR := Lib.hid kR
            obtain ⟨q2, e3, f3, e4, f4, hag, m1, m2, D2⟩ := kR.opened
            simp only [Value.agg.injEq, Array.mk.injEq, List.cons.injEq, and_true] at hag
            obtain ⟨rfl, rfl, rfl⟩ := hag
            have hszj := Lib.hid (HS.out j (by omega))
            have Hent : Hid (entErr es i = if cmpR (es.getD i (0, 0)).1 (es.getD j (0, 0)).1 ≤ 0 then 7 else if (es.getD i (0, 0)).2 < 0 ∨ 1000 < (es.getD i (0, 0)).2 ∨ (es.getD i (0, 0)).2 < (es.getD j (0, 0)).2 then 1 else 0) := by
              show entErr es i = _
              unfold entErr
              have e : i - 1 = j := by omega
              simp [hi0, e]
            have e1' : IntKind.i64.wrap ((i : Int) - 1) = (j : Int) := by rw [show (i : Int) - 1 = (j : Int) by omega]; exact IntWalk.i64_in _ (by omega)
            have hj2 : (j : Int) < es.length := by omega
            have hj0 : (0 : Int) ≤ j := by omega
            clear m1 m2 kR hi0 hj
            generalize (es.getD i (0, 0)).1 = x at *
            generalize (es.getD i (0, 0)).2 = y at *
            generalize (es.getD j (0, 0)).1 = x0 at *
            generalize (es.getD j (0, 0)).2 = y0 at *
            go_wp2_with fail
            go_region_held3 (fun w' => Below wr.heap.size wr w' ∧ w'.cell? ⟨b, off + i * 4, none⟩ = some (.bool (decide (x.num < 0))) ∧ w'.cell? ⟨b, off + i * 4 + 1, none⟩ = some (.slice e1 (dig b32 x.num.natAbs).length f1) ∧ w'.cell? ⟨b, off + i * 4 + 2, none⟩ = some (.slice e2 (dig b32 q1).length f2) ∧ w'.cell? ⟨b, off + j * 4, none⟩ = some (.bool (decide (x0.num < 0))) ∧ w'.cell? ⟨b, off + j * 4 + 1, none⟩ = some (.slice e3 (dig b32 x0.num.natAbs).length f3) ∧ w'.cell? ⟨b, off + j * 4 + 2, none⟩ = some (.slice e4 (dig b32 q2).length f4) ∧ w'.cell? ⟨b, off + j * 4 + 3, none⟩ = some (.int .i64 y0) ∧ w'.cell? ⟨b, off + i * 4 + 3, none⟩ = some (.int .i64 y))
              (first | exact ⟨(Below.refl _ _).drew, g0, g1, g2, k0, k1, k2, k3, g3⟩ | exact keepA8 (Nat.le_refl _) hb2 (by assumption))
              (first | (go_at_call 49; refine (qcmp_any x x0 _ _ _ (HR.out.below (And.left (by assumption))) (KR.out.below (And.left (by assumption))) hsz.out hszj.out).mono ?_; rintro e w2 ⟨rfl, hb2⟩))
            rename_i hS2
            obtain ⟨hW2, s0', s1', s2', k0', k1', k2', k3', s3'⟩ := hS2
            have hW3 := ext_trans hbel hW2
            clear k0 k1 k2 k3 g0 g1 g2 g3 hb2 s0' s1' s2' k0' k1' k2' hW2
            by_cases hc : cmpR x x0 ≤ 0
            · have hc' : decide (cmpR x x0 ≤ 0) = true := decide_eq_true hc
              have Hv : Hid (tabErr es = 7) := by
                have h : entErr es i = 7 := by rw [Hent.out]; rw [if_pos hc]
                show tabErr es = 7
                rw [hstay.out (by rw [h]; decide), h]
              clear hc
              generalize cmpR x x0 = c at *
              rw [hc']
              go_wp2_with fail
              go_ret
              exact ⟨by rw [Hv.out]; rfl, hW3⟩
            · have hc' : decide (cmpR x x0 ≤ 0) = false := decide_eq_false hc
              replace Hent : Hid (entErr es i = if y < 0 ∨ 1000 < y ∨ y < y0 then 1 else 0) := by show _ = _; rw [Hent.out, if_neg hc]
              clear hc
              generalize cmpR x x0 = c at *
              rw [hc']
              by_cases hy1 : y < 0
              · have ty1 : decide (y < 0) = true := decide_eq_true hy1
                have Hv : Hid (tabErr es = 1) := by
                  have h : entErr es i = 1 := by rw [Hent.out]; rw [if_pos (.inl hy1)]
                  show tabErr es = 1
                  rw [hstay.out (by rw [h]; decide), h]
                clear hy1
                go_wp2_with fail
                go_region
                go_wp2_with fail
                go_ret
                exact ⟨by rw [Hv.out]; rfl, hW3.drew⟩
              · have ty1 : decide (y < 0) = false := decide_eq_false hy1
                by_cases hy2 : 1000 < y
                · have ty2 : decide (y > 1000) = true := decide_eq_true hy2
                  have Hv : Hid (tabErr es = 1) := by
                    have h : entErr es i = 1 := by rw [Hent.out]; rw [if_pos (.inr (.inl hy2))]
                    show tabErr es = 1
                    rw [hstay.out (by rw [h]; decide), h]
                  clear hy1 hy2
                  go_wp2_with fail
                  go_region
                  go_wp2_with fail
                  go_ret
                  exact ⟨by rw [Hv.out]; rfl, hW3.drew⟩
                · have ty2 : decide (y > 1000) = false := decide_eq_false hy2
                  by_cases hy3 : y < y0
                  · have ty3 : decide (y < y0) = true := decide_eq_true hy3
                    have Hv : Hid (tabErr es = 1) := by
                      have h : entErr es i = 1 := by rw [Hent.out]; rw [if_pos (.inr (.inr hy3))]
                      show tabErr es = 1
                      rw [hstay.out (by rw [h]; decide), h]
                    clear hy1 hy2 hy3
                    go_wp2_with fail
                    go_region
                    go_wp2_with fail
                    go_ret
                    exact ⟨by rw [Hv.out]; rfl, hW3.drew⟩
                  · have ty3 : decide (y < y0) = false := decide_eq_false hy3
                    have Hno : Hid (¬ (y < 0 ∨ 1000 < y ∨ y < y0)) := by show ¬ _; omega
                    clear hy1 hy2 hy3
                    have Hv : Hid (firstErr (entErr es) (i + 1) = 0) := by
                      show _ = _
                      rw [hst.out, Hent.out]
                      rw [if_neg Hno.out]
                    go_wp2_with fail
                    go_region
                    go_wp2_with fail
                    exact ⟨⟨i + 1, by omega, by go_num, Hv.out, hW3.drew⟩, meas_up hlt⟩
        · obtain rfl : i = es.length := by omega
          have Hf : Hid (tabErr es = 0) := by show tabErr es = 0; rw [Hr.out, hF.out]
          clear hF
          go_wp2_with fail
          go_ret
          exact ⟨by rw [Hf.out]; rfl, hbel⟩

end Go.Proofs.Ytdjdnfjgklaneaa

/- THE WALKS OF isGap, isTime, RateAt (both). -/
namespace Go.Proofs.Ytdjdnfjgklaneaa
open Go.RowKit

def gapB (n : Int) : Bool := decide (1 ≤ n) && decide (n ≤ 86400)
def timeB (n : Int) : Bool := decide (0 ≤ n) && decide (n ≤ 1073741824)
def RetBoolS (b : Bool) (w : World) (e : Ending) (w' : World) : Prop := e = .returned (.bool b) ∧ w = w'
def RetIE (n err : Int) (w : World) (e : Ending) (w' : World) : Prop := e = .returned (.tuple #[.int .i64 n, .int .i64 err]) ∧ Below w.heap.size w w'

theorem gap_any (n : Int) (w : World) : Calls Try.prog 40 #[.int .i64 n] w (RetBoolS (gapB n) w) := by
  by_cases h : 1 ≤ n
  · have t : decide (n ≥ 1) = true := decide_eq_true h
    have Hr : Hid (gapB n = decide (n ≤ 86400)) := by show gapB n = _; unfold gapB; simp [h]
    clear h
    go_enter Try.func40, Try.ntmps40
    go_wp2_with fail
    go_ret
    exact ⟨by rw [Hr.out]; rfl, rfl⟩
  · have t : decide (n ≥ 1) = false := decide_eq_false h
    have Hr : Hid (gapB n = false) := by show gapB n = _; unfold gapB; simp [h]
    clear h
    go_enter Try.func40, Try.ntmps40
    go_wp2_with fail
    go_ret
    exact ⟨by rw [Hr.out]; rfl, rfl⟩

theorem time_any (n : Int) (w : World) : Calls Try.prog 42 #[.int .i64 n] w (RetBoolS (timeB n) w) := by
  by_cases h : 0 ≤ n
  · have t : decide (n ≥ 0) = true := decide_eq_true h
    have Hr : Hid (timeB n = decide (n ≤ 1073741824)) := by show timeB n = _; unfold timeB; simp [h]
    clear h
    go_enter Try.func42, Try.ntmps42
    go_wp2_with fail
    go_ret
    exact ⟨by rw [Hr.out]; rfl, rfl⟩
  · have t : decide (n ≥ 0) = false := decide_eq_false h
    have Hr : Hid (timeB n = false) := by show timeB n = _; unfold timeB; simp [h]
    clear h
    go_enter Try.func42, Try.ntmps42
    go_wp2_with fail
    go_ret
    exact ⟨by rw [Hr.out]; rfl, rfl⟩

theorem qtime_any (n : Int) (w : World) : Calls Try.prog 45 #[.int .i64 n] w (RetBoolS (timeB n) w) := by
  by_cases h : 0 ≤ n
  · have t : decide (n ≥ 0) = true := decide_eq_true h
    have Hr : Hid (timeB n = decide (n ≤ 1073741824)) := by show timeB n = _; unfold timeB; simp [h]
    clear h
    go_enter Try.func45, Try.ntmps45
    go_wp2_with fail
    go_ret
    exact ⟨by rw [Hr.out]; rfl, rfl⟩
  · have t : decide (n ≥ 0) = false := decide_eq_false h
    have Hr : Hid (timeB n = false) := by show timeB n = _; unfold timeB; simp [h]
    clear h
    go_enter Try.func45, Try.ntmps45
    go_wp2_with fail
    go_ret
    exact ⟨by rw [Hr.out]; rfl, rfl⟩

/-- What RateAt tells of a temperature. -/
def rateV (es : List (Rat × Int)) (T : Rat) : Int := if tabErr es = 0 then rateUp es T else 0

set_option maxHeartbeats 1000000 in
theorem rateAt_any (es : List (Rat × Int)) (T : Rat) (ve vT : Value) (w : World) (he : EntsOf IsRat w ve es) (hT : IsRat w vT T) (hs : ∀ i, i < es.length → szR (es.getD i (0, 0)).1 274877906944) (hsT : szR T 274877906944) (hlen : es.length ≤ 1000000) :
    Calls Try.prog 15 #[ve, vT] w (RetIE (rateV es T) (tabErr es) w) := by
  obtain ⟨a1, c1, a2, c2, rfl, n1, n2⟩ := hT.opened
  have HT := Lib.hid hT
  have HE := Lib.hid he
  have HS := Lib.hid hs
  have HST := Lib.hid hsT
  clear hT hs hsT n1 n2 he
  have hal : Below w.heap.size w (w.alloc (.cells #[.bool (decide (T.num < 0)), .slice a1 (dig b64 T.num.natAbs).length c1, .slice a2 (dig b64 (dn T.den)).length c2] 45)) := (Below.refl _ _).alloc (Nat.le_refl _) _
  have hB0 := blk_new w #[.bool (decide (T.num < 0)), .slice a1 (dig b64 T.num.natAbs).length c1, .slice a2 (dig b64 (dn T.den)).length c2] 45
  by_cases h0 : tabErr es = 0
  · have t0 : (tabErr es != 0) = false := by simp [h0]
    have Hv : Hid (rateV es T = rateUp es T) := by show rateV es T = _; unfold rateV; rw [if_pos h0]
    have H0 := Lib.hid h0
    clear h0
    go_enter Try.func15, Try.ntmps15
    go_wp2_with fail
    refine (checkTable_any es _ _ (HE.out.below IsRat.belowAll hal) HS.out).mono ?_
    rintro e w1 ⟨rfl, hb1⟩
    have hx1 := ext_trans hal hb1
    have hB1 := blk_keep hB0 hb1 (by simp)
    have t0' := blk_cell hB1 0 (.bool (decide (T.num < 0))) rfl
    have t1 := blk_cell hB1 1 (.slice a1 (dig b64 T.num.natAbs).length c1) rfl
    have t2 := blk_cell hB1 2 (.slice a2 (dig b64 (dn T.den)).length c2) rfl
    generalize tabErr es = te at *
    go_wp2_with fail
    refine (rate_any es T _ _ _ (HE.out.below IsRat.belowAll hx1) (HT.out.below hx1) HS.out HST.out hlen).mono ?_
    rintro e w2 ⟨rfl, hb2⟩
    go_wp2_with fail
    go_ret2
    exact ⟨by rw [Hv.out, H0.out]; rfl, ext_trans hx1 hb2⟩
  · have t0 : (tabErr es != 0) = true := by simp [h0]
    have Hv : Hid (rateV es T = 0) := by show rateV es T = _; unfold rateV; rw [if_neg h0]
    clear h0
    go_enter Try.func15, Try.ntmps15
    go_wp2_with fail
    refine (checkTable_any es _ _ (HE.out.below IsRat.belowAll hal) HS.out).mono ?_
    rintro e w1 ⟨rfl, hb1⟩
    have hx1 := ext_trans hal hb1
    generalize tabErr es = te at *
    go_wp2_with fail
    go_ret2
    exact ⟨by rw [Hv.out]; rfl, hx1⟩

end Go.Proofs.Ytdjdnfjgklaneaa

/- THE WALK OF THE REFERENCE's RateAt. -/
namespace Go.Proofs.Ytdjdnfjgklaneaa
open Go.RowKit

set_option maxRecDepth 100000 in
set_option maxHeartbeats 2000000 in
theorem qrateAt_any (es : List (Rat × Int)) (T : Rat) (ve vT : Value) (w : World) (he : EntsOf IsR w ve es) (hT : IsR w vT T) (hs : ∀ i, i < es.length → szQ (es.getD i (0, 0)).1 17179869184) (hsT : szQ T 17179869184) :
    Calls Try.prog 17 #[ve, vT] w (RetIE (rateV es T) (tabErr es) w) := by
  obtain ⟨d', a1, c1, a2, c2, rfl, n1, n2, hden⟩ := hT.opened
  have HT := Lib.hid hT
  have HE := Lib.hid he
  have HS := Lib.hid hs
  have HST := Lib.hid hsT
  clear hT hs hsT n1 n2 he hden
  have hal : Below w.heap.size w (w.alloc (.cells #[.bool (decide (T.num < 0)), .slice a1 (dig b32 T.num.natAbs).length c1, .slice a2 (dig b32 d').length c2] 50)) := (Below.refl _ _).alloc (Nat.le_refl _) _
  have hB0 := blk_new w #[.bool (decide (T.num < 0)), .slice a1 (dig b32 T.num.natAbs).length c1, .slice a2 (dig b32 d').length c2] 50
  by_cases h0 : tabErr es = 0
  · have t0 : (tabErr es != 0) = false := by simp [h0]
    have Hv : Hid (rateV es T = rateUp es T) := by show rateV es T = _; unfold rateV; rw [if_pos h0]
    have H0 := Lib.hid h0
    have hlen : es.length ≤ 16 := by
      rcases Nat.lt_or_ge 16 es.length with h | h
      · have : tabErr es = 4 := by unfold tabErr; rw [if_pos (.inr h)]
        omega
      · exact h
    clear h0
    go_enter Try.func17, Try.ntmps17
    go_wp2_with fail
    refine (qcheckTable_any es _ _ (HE.out.below IsR.belowAll hal) HS.out).mono ?_
    rintro e w1 ⟨rfl, hb1⟩
    have hx1 := ext_trans hal hb1
    have hB1 := Lib.hid (blk_keep hB0 hb1 (by simp))
    obtain ⟨ao, cap, rfl, hEE⟩ := HE.out.below IsR.belowAll hx1
    have HEE := Lib.hid hEE
    generalize tabErr es = te at *
    clear hEE hb1 hal hB0
    go_wp2_with fail
    go_loopw [7, 8] (fun rv iv wr => ∃ (i : Nat), i ≤ es.length ∧ iv = .int .i64 i ∧ rv = .int .i64 (rateUp (es.take i) T) ∧ Below w1.heap.size w1 wr)
      (fun _ iv _ => es.length - (intOf iv).toNat)
    case atStart => exact ⟨0, Nat.zero_le _, rfl, by simp [rateUp], Below.refl _ _⟩
    case round =>
      obtain ⟨i, hi, rfl, rfl, hbel⟩ := hrel
      by_cases hlt : i < es.length
      · obtain ⟨b, off, rfl, hbl, hEE⟩ := HEE.out (by omega)
        have hEi := (hEE i hlt).below IsR.belowAll hbel hbl
        obtain ⟨v0, vn, vd, g0, g1, g2, g3, gR⟩ := hEi
        have HR := Lib.hid gR
        obtain ⟨q1, e1, f1, e2, f2, hag, m1, m2, D1⟩ := gR.opened
        simp only [Value.agg.injEq, Array.mk.injEq, List.cons.injEq, and_true] at hag
        obtain ⟨rfl, rfl, rfl⟩ := hag
        have hst := Lib.hid (rateUp_take es T i hlt)
        have hsz := Lib.hid (HS.out i hlt)
        have hlt' : (i : Int) < es.length := by omega
        have hge' : (0 : Int) ≤ i := by omega
        have hBr := blk_keep hB1.out hbel (blk_lt hB1.out)
        have hHT := HT.out.below (hx1.trans (hbel.mono hx1.size))
        have hHT' := Lib.hid hHT
        have t0 := blk_cell hBr 0 (.bool (decide (T.num < 0))) rfl
        have t1 := blk_cell hBr 1 (.slice a1 (dig b32 T.num.natAbs).length c1) rfl
        have t2 := blk_cell hBr 2 (.slice a2 (dig b32 d').length c2) rfl
        generalize (es.getD i (0, 0)).1 = x at *
        generalize (es.getD i (0, 0)).2 = y at *
        clear m1 m2 gR hEE hBr hHT
        go_wp2_with fail
        go_region_held3 (fun w' => Below wr.heap.size wr w' ∧ w'.cell? ⟨w.heap.size, 0, none⟩ = some (.bool (decide (T.num < 0))) ∧ w'.cell? ⟨w.heap.size, 1, none⟩ = some (.slice a1 (dig b32 T.num.natAbs).length c1) ∧ w'.cell? ⟨w.heap.size, 2, none⟩ = some (.slice a2 (dig b32 d').length c2) ∧
            w'.cell? ⟨b, off + i * 4, none⟩ = some (.bool (decide (x.num < 0))) ∧ w'.cell? ⟨b, off + i * 4 + 1, none⟩ = some (.slice e1 (dig b32 x.num.natAbs).length f1) ∧ w'.cell? ⟨b, off + i * 4 + 2, none⟩ = some (.slice e2 (dig b32 q1).length f2) ∧ w'.cell? ⟨b, off + i * 4 + 3, none⟩ = some (.int .i64 y) ∧ w'.cell? ⟨b, off + i * 4 + 3, none⟩ = some (.int .i64 y))
          (first | exact ⟨(Below.refl _ _).drew, t0, t1, t2, g0, g1, g2, g3, g3⟩ | exact keepA8 (Nat.le_refl _) hb2 (by assumption))
          (first | (go_at_call 49; refine (qcmp_any x T _ _ _ (HR.out.below (And.left (by assumption))) (hHT'.out.below (And.left (by assumption))) hsz.out HST.out).mono ?_; rintro e w2 ⟨rfl, hb2⟩))
        rename_i hS2
        obtain ⟨hW2, _, _, _, _, _, _, k3, _⟩ := hS2
        have hW3 := hbel.trans (hW2.mono hbel.size)
        clear t0 t1 t2 g0 g1 g2 g3 hb2 hW2
        by_cases hc : cmpR x T ≤ 0
        · have hc' : decide (cmpR x T ≤ 0) = true := decide_eq_true hc
          have hr : Hid (rateUp (es.take (i + 1)) T = y) := by show _ = y; rw [hst.out, if_pos hc]
          clear hc hst
          generalize cmpR x T = c at *
          rw [hc']
          go_wp2_with fail
          exact ⟨⟨i + 1, by omega, by go_num, by rw [hr.out], hW3⟩, meas_up hlt⟩
        · have hc' : decide (cmpR x T ≤ 0) = false := decide_eq_false hc
          have hr : Hid (rateUp (es.take (i + 1)) T = rateUp (es.take i) T) := by show _ = _; rw [hst.out, if_neg hc]
          clear hc hst
          generalize cmpR x T = c at *
          rw [hc']
          go_wp2_with fail
          exact ⟨⟨i + 1, by omega, by go_num, by rw [hr.out], hW3⟩, meas_up hlt⟩
      · obtain rfl : i = es.length := by omega
        rw [List.take_length]
        go_wp2_with fail
        go_ret2
        exact ⟨by rw [Hv.out, H0.out]; rfl, hx1.trans (hbel.mono hx1.size)⟩
  · have t0 : (tabErr es != 0) = true := by simp [h0]
    have Hv : Hid (rateV es T = 0) := by show rateV es T = _; unfold rateV; rw [if_neg h0]
    clear h0
    go_enter Try.func17, Try.ntmps17
    go_wp2_with fail
    refine (qcheckTable_any es _ _ (HE.out.below IsR.belowAll hal) HS.out).mono ?_
    rintro e w1 ⟨rfl, hb1⟩
    have hx1 := ext_trans hal hb1
    generalize tabErr es = te at *
    go_wp2_with fail
    go_ret2
    exact ⟨by rw [Hv.out]; rfl, hx1⟩

end Go.Proofs.Ytdjdnfjgklaneaa

/- float32 TO float64: a finite number stays finite, an infinity an infinity, a NaN gives some NaN. Plain, and the operation's equations. -/
namespace Go.Proofs.Ytdjdnfjgklaneaa
open Go.RowKit

def sgn32 : Nat := 2147483648
def inf32 : Nat := 2139095040
def bin23 : Nat := 8388608
theorem f32_sign : Ieee.single.signWeight = sgn32 := by decide +kernel
theorem f32_inf : Ieee.single.infRung = inf32 := by decide +kernel
theorem f32_bin : Ieee.single.binade = bin23 := by decide +kernel
theorem f32_least : Ieee.single.leastPlace = -149 := by decide +kernel

/-- The float32 is a finite number. -/
def tempOk (b : Nat) : Bool := decide (b % sgn32 < inf32)

theorem cut_zero (neg : Bool) (n : Nat) : Ieee.Toward.even.cut neg n 0 = n := by
  unfold Ieee.Toward.cut
  have e : min 0 (n.log2 + 2) = 0 := by omega
  simp only [e]
  have e1 : (1 <<< 0 : Nat) = 1 := rfl
  rw [e1]
  simp [Nat.mod_one]

theorem word_double (s : Bool) (r : Nat) (hr : r ≤ infR) : Ieee.double.word s r < b64 ∧ (fE (Ieee.double.word s r) = 2047 ↔ r = infR) ∧ (Ieee.double.word s r) % sgnW = r := by
  unfold Ieee.Format.word
  rw [f64_sign]
  unfold infR at *
  unfold fE sgnW b64 bin52
  cases s
  · simp only [Bool.false_eq_true, if_false]
    omega
  · simp only [if_true]
    omega

/-- A number of at most 24 bits, not too great, is a finite float64. -/
theorem nearest_double (s : Bool) (m : Nat) (p : Int) (hm : m < 16777216) (hp1 : -149 ≤ p) (hp2 : p ≤ 104) : ∃ r, r < infR ∧ Ieee.double.nearest s m p = Ieee.double.word s r := by
  unfold Ieee.Format.nearest
  by_cases h0 : m = 0
  · exact ⟨0, by unfold infR; omega, by rw [if_pos h0]⟩
  · rw [if_neg h0]
    have hlog : m.log2 < 24 := (Nat.log2_lt h0).2 hm
    have hself := Nat.lt_log2_self (n := m)
    rw [f64_least, f64_bin, f64_inf]
    have hf : (Ieee.double.fractionBits : Int) = 52 := rfl
    rw [hf]
    generalize hl : max (p + (m.log2 : Int) - 52) (-1074) = last
    have h1 : last ≤ p := by omega
    have h2 : last ≤ 75 := by omega
    have h3 : -1074 ≤ last := by omega
    have e1 : (last - p).toNat = 0 := by omega
    simp only [e1, cut_zero]
    have hk : (p - last).toNat + m.log2 ≤ 52 := by omega
    have hsh : m <<< (p - last).toNat < 9007199254740992 := by
      rw [Nat.shiftLeft_eq]
      have a : m * 2 ^ (p - last).toNat < 2 ^ (m.log2 + 1) * 2 ^ (p - last).toNat := Nat.mul_lt_mul_of_pos_right hself (Nat.two_pow_pos _)
      rw [← Nat.pow_add] at a
      have c : 2 ^ (m.log2 + 1 + (p - last).toNat) ≤ 2 ^ 53 := Nat.pow_le_pow_right (by omega) (by omega)
      have d : (2 : Nat) ^ 53 = 9007199254740992 := by decide
      omega
    generalize m <<< (p - last).toNat = kept at *
    have ht : (last - -1074).toNat ≤ 1149 := by omega
    generalize (last - -1074).toNat = t at *
    refine ⟨min (t * bin52 + kept) infR, ?_, rfl⟩
    have : t * bin52 ≤ 1149 * bin52 := Nat.mul_le_mul_right _ ht
    have hI : infR = 2047 * bin52 := by decide
    have hK : kept < 2 * bin52 := by
      have : (9007199254740992 : Nat) = 2 * bin52 := by decide
      omega
    have hP : 0 < bin52 := by decide
    generalize t * bin52 = A at *
    generalize bin52 = B at *
    omega

theorem conv_fin (b : Nat) (h : tempOk b = true) : ∃ r, floatToFloatBits .f32 b .f64 = some r ∧ r < b64 ∧ fE r ≠ 2047 := by
  have h1 : b % sgn32 < inf32 := by simpa [tempOk] using h
  obtain ⟨s, m, p, hd, hm, hp1, hp2⟩ : ∃ s m p, FloatKind.f32.decode b = .number s m p ∧ m < 16777216 ∧ -149 ≤ p ∧ p ≤ 104 := by
    show ∃ s m p, Ieee.single.read b = .number s m p ∧ _
    unfold Ieee.Format.read
    rw [f32_sign, f32_inf, f32_bin, f32_least]
    generalize b % sgn32 = r at *
    generalize (b / sgn32 % 2 == 1) = sg
    simp only []
    by_cases h2 : r < bin23
    · rw [if_pos h2]
      exact ⟨_, _, _, rfl, by unfold bin23 at h2; omega, by omega, by omega⟩
    · rw [if_neg h2, if_pos h1]
      refine ⟨_, _, _, rfl, ?_, ?_, ?_⟩
      · unfold bin23; omega
      · omega
      · unfold inf32 at h1; unfold bin23 at *; omega
  obtain ⟨r, hr, he⟩ := nearest_double s m p hm hp1 hp2
  have he' : FloatKind.f64.encode (.number s m p) = Ieee.double.word s r := he
  obtain ⟨w1, w2, w3⟩ := word_double s r (Nat.le_of_lt hr)
  have hfin : (FloatKind.f64.decode (Ieee.double.word s r)).isInfinity = false := by
    show (Ieee.double.read (Ieee.double.word s r)).isInfinity = false
    unfold Ieee.Format.read
    rw [f64_sign, f64_inf, f64_bin, f64_least, w3]
    simp only []
    by_cases h2 : r < bin52
    · rw [if_pos h2]; rfl
    · rw [if_neg h2, if_pos hr]; rfl
  refine ⟨Ieee.double.word s r, ?_, w1, fun h => ?_⟩
  · unfold floatToFloatBits
    rw [if_neg (by decide), hd]
    simp only []
    rw [he', hfin]
    rfl
  · have := w2.1 h; omega

theorem conv_inf (b : Nat) (h : b % sgn32 = inf32) : ∃ r, floatToFloatBits .f32 b .f64 = some r ∧ r < b64 ∧ fE r = 2047 := by
  obtain ⟨s, hd⟩ : ∃ s, FloatKind.f32.decode b = .infinity s := by
    show ∃ s, Ieee.single.read b = .infinity s
    unfold Ieee.Format.read
    rw [f32_sign, f32_inf, f32_bin, f32_least, h]
    simp only []
    rw [if_neg (by unfold inf32 bin23; omega), if_neg (by omega), if_pos trivial]
    exact ⟨_, rfl⟩
  obtain ⟨w1, w2, _⟩ := word_double s infR (Nat.le_refl _)
  refine ⟨Ieee.double.word s infR, ?_, w1, w2.2 rfl⟩
  unfold floatToFloatBits
  rw [if_neg (by decide), hd]
  simp only []
  show some (Ieee.double.write (.infinity s)) = _
  unfold Ieee.Format.write
  rw [f64_inf]

theorem conv_nan (b : Nat) (h1 : ¬ b % sgn32 < inf32) (h2 : b % sgn32 ≠ inf32) : ∃ s t, FloatKind.f32.decode b = .nan s t := by
  show ∃ s t, Ieee.single.read b = .nan s t
  unfold Ieee.Format.read
  rw [f32_sign, f32_inf, f32_bin, f32_least]
  simp only []
  rw [if_neg (by unfold inf32 at h1; unfold bin23; omega), if_neg h1, if_neg h2]
  exact ⟨_, _, rfl⟩

/-- The NaN that the conversion draws. -/
def nanOf (b : Nat) (w : World) : Nat := (Question.nanConv .f64 b).cut (w.tape w.drawn (.nanConv .f64 b))
theorem nanOf_ok (b : Nat) (w : World) : nanOf b w < b64 ∧ fE (nanOf b w) = 2047 := by
  unfold nanOf Question.cut
  simp only []
  generalize w.tape w.drawn (.nanConv .f64 b) = t
  have h1 : (t / 2) % (2 ^ 52 - 1) < 4503599627370495 := Nat.mod_lt _ (by omega)
  generalize (t / 2) % (2 ^ 52 - 1) = x at *
  have h2 : t % 2 < 2 := Nat.mod_lt _ (by omega)
  generalize t % 2 = y at *
  unfold fE b64 bin52
  omega

theorem run_conv_nan (b : Nat) (h1 : ¬ b % sgn32 < inf32) (h2 : b % sgn32 ≠ inf32) (w : World) :
    (convert 30 62 (.float .f32 b)).run Try.prog w = .ok (.float .f64 (nanOf b w)) w.drew := by
  obtain ⟨s, t, hd⟩ := conv_nan b h1 h2
  have hs : Try.prog.underlying 30 = some (.float .f32) := Try.underlying30
  have hk : Try.prog.underlying 62 = some (.float .f64) := Try.underlying62
  simp [convert, run_underlying hs, run_underlying hk, Conv.floatToFloat, hd, Question.forced, nanOf]
theorem run_conv (b r : Nat) (h : floatToFloatBits .f32 b .f64 = some r) (w : World) :
    (convert 30 62 (.float .f32 b)).run Try.prog w = .ok (.float .f64 r) w :=
  run_convert_float_float w _ _ .f32 .f64 b r (by rw [Try.underlying30]; rfl) Try.underlying62 h

end Go.Proofs.Ytdjdnfjgklaneaa

/- THE WALK OF store.exact: a reading's temperature as a fraction. -/
namespace Go.Proofs.Ytdjdnfjgklaneaa
open Go.RowKit

/-- A float32's value; 0 for what is no number. -/
def tempQ (b : Nat) : Rat := if tempOk b = true then fval ((floatToFloatBits .f32 b .f64).getD 0) else 0
def RetRB (q : Rat) (ok : Bool) (w : World) (e : Ending) (w' : World) : Prop :=
  ∃ v, e = .returned (.tuple #[v, .bool ok]) ∧ IsRat w' v q ∧ Below w.heap.size w w'

theorem fval_parts (b : Nat) (hE : fE b ≠ 2047) : (dig b64 (fM b * 2 ^ (fE1 b - 1075))).length ≤ 17 ∧ (dig b64 (2 ^ (1075 - fE1 b))).length ≤ 18 := by
  have hM := Nat.lt_trans (fM_lt b) bin52_b64
  have hE1 : fE1 b ≤ 2047 := by
    unfold fE1
    split
    · omega
    · have := Nat.mod_lt (b / bin52) (show 0 < 2048 by omega)
      unfold fE at *
      omega
  refine ⟨dig_pow_le _ _ 16 hM (by omega), ?_⟩
  have := dig_pow_le 1 (1075 - fE1 b) 17 (by unfold b64; omega) (by omega)
  rwa [Nat.one_mul] at this
theorem mkQ_szR (s : Bool) (n d k : Nat) (hd : 0 < d) (h1 : (dig b64 n).length ≤ k) (h2 : (dig b64 d).length ≤ k) : szR (mkQ s n d) k := by
  unfold szR
  rw [mkQ_num _ _ _ hd, mkQ_den _ _ _ hd]
  exact ⟨Nat.le_trans (dig_length_mono b64_two (Nat.div_le_self _ _)) h1, Nat.le_trans (dig_length_mono b64_two (Nat.div_le_self _ _)) h2⟩
theorem fval_szR (b : Nat) (hE : fE b ≠ 2047) : szR (fval b) 18 := by
  obtain ⟨h1, h2⟩ := fval_parts b hE
  exact mkQ_szR _ _ _ _ (Nat.two_pow_pos _) (by omega) h2
/-- Digits of 64 bits against digits of 32 bits. -/
theorem dig32_of_64 (n k : Nat) (h : (dig b64 n).length ≤ k) : (dig b32 n).length ≤ 2 * k := by
  refine dig_length_le b32_two _ _ ?_
  have h1 := lt_pow_dig_length b64_two n
  have h2 : b64 ^ (dig b64 n).length ≤ b64 ^ k := Nat.pow_le_pow_right b64_pos h
  have h3 : b32 ^ (2 * k) = b64 ^ k := by
    rw [Nat.pow_mul]
    congr 1
  omega
theorem fval_szQ (b : Nat) (hE : fE b ≠ 2047) : szQ (fval b) 36 := by
  obtain ⟨h1, h2⟩ := fval_szR b hE
  exact ⟨dig32_of_64 _ 18 h1, dig32_of_64 _ 18 h2⟩
theorem zero_szR : szR 0 1 := ⟨by show (dig b64 0).length ≤ 1; simp [dig_zero], by show (dig b64 1).length ≤ 1; exact dig_length_le b64_two 1 1 (by unfold b64; omega)⟩
theorem zero_szQ : szQ 0 1 := ⟨by show (dig b32 0).length ≤ 1; simp [dig_zero], dig32_one⟩
theorem tempQ_szR (b : Nat) : szR (tempQ b) 18 := by
  unfold tempQ
  by_cases h : tempOk b = true
  · rw [if_pos h]
    obtain ⟨r, hr, _, hE⟩ := conv_fin b h
    rw [hr]
    exact fval_szR r hE
  · rw [if_neg h]
    exact ⟨Nat.le_trans zero_szR.1 (by omega), Nat.le_trans zero_szR.2 (by omega)⟩
theorem tempQ_szQ (b : Nat) : szQ (tempQ b) 36 := by
  obtain ⟨h1, h2⟩ := tempQ_szR b
  exact ⟨dig32_of_64 _ 18 h1, dig32_of_64 _ 18 h2⟩

set_option maxHeartbeats 1000000 in
theorem exact_good (b r : Nat) (w : World) (hc : ∀ w, (convert 30 62 (.float .f32 b)).run Try.prog w = .ok (.float .f64 r) w) (q : Rat) (err : Int) (ok : Bool) (hok : (err == 0) = ok)
    (hF : ∀ w, Calls Try.prog 23 #[.float .f64 r] w (RetRatE q err w)) :
    Calls Try.prog 63 #[.float .f32 b] w (RetRB q ok w) := by
  have hal : Below w.heap.size w (w.alloc (.cells #[.bool false, .slice none 0 0, .slice none 0 0] 45)) := (Below.refl _ _).alloc (Nat.le_refl _) _
  have hB0 := blk_new w #[.bool false, .slice none 0 0, .slice none 0 0] 45
  have HF := Lib.hid hF
  clear hF
  go_enter Try.func63, Try.ntmps63
  go_wp2_with (simp only [hc])
  refine (HF.out _).mono ?_
  rintro e w1 ⟨v, rfl, hv, hb1⟩
  have hx1 := ext_trans hal hb1
  have hB1 := blk_keep hB0 hb1 (by simp)
  obtain ⟨a1, c1', a2, c2', rfl, n1, n2⟩ := hv.opened
  clear hv hb1 hal hB0
  have hBl := blk_lt hB1
  have c0 := blk_cell hB1 0 (.bool false) rfl
  have c1 := blk_cell hB1 1 (.slice none 0 0) rfl
  have c2 := blk_cell hB1 2 (.slice none 0 0) rfl
  have f0 := blk_frozen hB1 0
  have f1 := blk_frozen hB1 1
  have f2 := blk_frozen hB1 2
  have HB := Lib.hid hB1
  clear hB1
  have hxe := below_store3 (u0 := .bool (decide (q.num < 0))) (u1 := .slice a1 (dig b64 q.num.natAbs).length c1') (u2 := .slice a2 (dig b64 (dn q.den)).length c2') hx1 (Nat.le_refl _)
  go_wp2_with fail
  refine bodyPost_ret (v := .tuple #[.agg #[.bool (decide (q.num < 0)), .slice a1 (dig b64 q.num.natAbs).length _, .slice a2 (dig b64 (dn q.den)).length _], .bool ok]) (by simp [results, Try.results63, go_sem, hBl, c0, c1, c2]; first | done | exact ⟨⟨rfl, rfl⟩, rfl⟩ | exact ⟨rfl, rfl⟩ | rfl) rfl ⟨_, rfl, ?_, hxe.alloc hxe.size _⟩
  exact IsRat.below (w := ((w1.setCell ⟨w.heap.size, 0, none⟩ (.bool (decide (q.num < 0)))).setCell ⟨w.heap.size, 1, none⟩ (.slice a1 (dig b64 q.num.natAbs).length c1')).setCell ⟨w.heap.size, 2, none⟩ (.slice a2 (dig b64 (dn q.den)).length c2')) ⟨_, _, rfl, store3 HB.out n1, store3 HB.out n2⟩ ((Below.refl _ _).alloc (Nat.le_refl _) _)

set_option maxHeartbeats 1000000 in
theorem exact_nan (b : Nat) (w : World) (hc : ∀ w, (convert 30 62 (.float .f32 b)).run Try.prog w = .ok (.float .f64 (nanOf b w)) w.drew) (q : Rat)
    (hF : ∀ x w, Calls Try.prog 23 #[.float .f64 (nanOf b x)] w (RetRatE q 1 w)) :
    Calls Try.prog 63 #[.float .f32 b] w (RetRB q false w) := by
  have hal : Below w.heap.size w (w.alloc (.cells #[.bool false, .slice none 0 0, .slice none 0 0] 45)) := (Below.refl _ _).alloc (Nat.le_refl _) _
  have hB0 := blk_new w #[.bool false, .slice none 0 0, .slice none 0 0] 45
  have HF := Lib.hid hF
  clear hF
  go_enter Try.func63, Try.ntmps63
  go_wp2_with (simp only [hc])
  refine (HF.out _ _).mono ?_
  rintro e w1 ⟨v, rfl, hv, hb1⟩
  have hx1 := ext_trans (ext_trans hal (Below.refl _ _).drew) hb1
  have hB1 := blk_keep (w := (w.alloc (.cells #[.bool false, .slice none 0 0, .slice none 0 0] 45)).drew) hB0 hb1 (by simp)
  obtain ⟨a1, c1', a2, c2', rfl, n1, n2⟩ := hv.opened
  clear hv hb1 hal hB0
  have hBl := blk_lt hB1
  have c0 := blk_cell hB1 0 (.bool false) rfl
  have c1 := blk_cell hB1 1 (.slice none 0 0) rfl
  have c2 := blk_cell hB1 2 (.slice none 0 0) rfl
  have f0 := blk_frozen hB1 0
  have f1 := blk_frozen hB1 1
  have f2 := blk_frozen hB1 2
  have HB := Lib.hid hB1
  clear hB1
  have hxe := below_store3 (u0 := .bool (decide (q.num < 0))) (u1 := .slice a1 (dig b64 q.num.natAbs).length c1') (u2 := .slice a2 (dig b64 (dn q.den)).length c2') hx1 (Nat.le_refl _)
  go_wp2_with fail
  refine bodyPost_ret (v := .tuple #[.agg #[.bool (decide (q.num < 0)), .slice a1 (dig b64 q.num.natAbs).length _, .slice a2 (dig b64 (dn q.den)).length _], .bool false]) (by simp [results, Try.results63, go_sem, hBl, c0, c1, c2]; first | done | exact ⟨⟨rfl, rfl⟩, rfl⟩ | exact ⟨rfl, rfl⟩ | rfl) rfl ⟨_, rfl, ?_, hxe.alloc hxe.size _⟩
  exact IsRat.below (w := ((w1.setCell ⟨w.heap.size, 0, none⟩ (.bool (decide (q.num < 0)))).setCell ⟨w.heap.size, 1, none⟩ (.slice a1 (dig b64 q.num.natAbs).length c1')).setCell ⟨w.heap.size, 2, none⟩ (.slice a2 (dig b64 (dn q.den)).length c2')) ⟨_, _, rfl, store3 HB.out n1, store3 HB.out n2⟩ ((Below.refl _ _).alloc (Nat.le_refl _) _)


theorem exact_any (b : Nat) (w : World) : Calls Try.prog 63 #[.float .f32 b] w (RetRB (tempQ b) (tempOk b) w) := by
  by_cases h : tempOk b = true
  · obtain ⟨r, hr, hb, hE⟩ := conv_fin b h
    have e : tempQ b = fval r := by unfold tempQ; rw [if_pos h, hr]; rfl
    rw [e, h]
    exact exact_good b r w (run_conv b r hr) _ 0 _ rfl (fun w => float_ok r w hb hE)
  · have e : tempQ b = 0 := by unfold tempQ; rw [if_neg h]
    have h' : tempOk b = false := by simpa using h
    rw [e, h']
    have h1 : ¬ b % sgn32 < inf32 := by simpa [tempOk] using h
    by_cases h2 : b % sgn32 = inf32
    · obtain ⟨r, hr, hb, hE⟩ := conv_inf b h2
      exact exact_good b r w (run_conv b r hr) _ 1 _ rfl (fun w => float_err r w hb hE)
    · exact exact_nan b w (run_conv_nan b h1 h2) 0 (fun x w => float_err _ w (nanOf_ok b x).1 (nanOf_ok b x).2)

end Go.Proofs.Ytdjdnfjgklaneaa

/- LOGS: what a slice of readings reads as; the walk of store.checkLog. -/
namespace Go.Proofs.Ytdjdnfjgklaneaa
open Go.RowKit

/-- Two cells read as a reading: a time and a temperature's bits. -/
def RdAt (w : World) (b o : Nat) (r : Int × Nat) : Prop := w.cell? ⟨b, o, none⟩ = some (.int .i64 r.1) ∧ w.cell? ⟨b, o + 1, none⟩ = some (.float .f32 r.2)
/-- The slice v reads as the log ls. -/
def LogOf (w : World) (v : Value) (ls : List (Int × Nat)) : Prop :=
  ∃ ao cap, v = .slice ao ls.length cap ∧ (0 < ls.length → ∃ b off, ao = some ⟨b, off, none⟩ ∧ b < w.heap.size ∧ ∀ i, i < ls.length → RdAt w b (off + i * 2) (ls.getD i (0, 0)))
theorem RdAt.below {w w' : World} {b o : Nat} {r : Int × Nat} (h : RdAt w b o r) (hb : Below w.heap.size w w') (hl : b < w.heap.size) : RdAt w' b o r :=
  ⟨(hb.cell (p := ⟨b, o, none⟩) hl).trans h.1, (hb.cell (p := ⟨b, o + 1, none⟩) hl).trans h.2⟩
theorem LogOf.below {w w' : World} {v : Value} {ls : List (Int × Nat)} (h : LogOf w v ls) (hb : Below w.heap.size w w') : LogOf w' v ls := by
  obtain ⟨ao, cap, rfl, h⟩ := h
  refine ⟨ao, cap, rfl, fun hl => ?_⟩
  obtain ⟨b, off, rfl, hlt, h⟩ := h hl
  exact ⟨b, off, rfl, Nat.lt_of_lt_of_le hlt hb.size, fun i hi => (h i hi).below hb hlt⟩

theorem run_store_f32 (a : Addr) (x : Nat) (m : Mode) (w : World) : (store a (.float .f32 x) m).run Try.prog w = stored Try.prog w a (.float .f32 x) m := run_store _ w a _ m rfl

/-- The error of reading i of a log. -/
def rdErr (ls : List (Int × Nat)) (i : Nat) : Int :=
  if timeB (ls.getD i (0, 0)).1 = false ∨ tempOk (ls.getD i (0, 0)).2 = false then 1
  else if 0 < i ∧ (ls.getD i (0, 0)).1 ≤ (ls.getD (i - 1) (0, 0)).1 then 7 else 0
/-- The error of a log. -/
def logErr (ls : List (Int × Nat)) : Int := if 256 < ls.length then 4 else firstErr (rdErr ls) ls.length

set_option maxRecDepth 100000 in
set_option maxHeartbeats 4000000 in
theorem checkLog_any (ls : List (Int × Nat)) (vl : Value) (w : World) (hl : LogOf w vl ls) : Calls Try.prog 41 #[vl] w (RetInt (logErr ls) w) := by
  obtain ⟨ao, cap, rfl, hE⟩ := hl
  have HE := Lib.hid hE
  clear hE
  by_cases h1 : 256 < ls.length
  · have t1 : decide ((ls.length : Int) > 256) = true := by simp; omega
    have Hr : Hid (logErr ls = 4) := by show logErr ls = 4; unfold logErr; rw [if_pos h1]
    clear h1
    go_enter Try.func41, Try.ntmps41
    go_wp2_with fail
    go_ret
    exact ⟨by rw [Hr.out]; rfl, Below.refl _ _⟩
  · have t1 : decide ((ls.length : Int) > 256) = false := by simp; omega
    have Hr : Hid (logErr ls = firstErr (rdErr ls) ls.length) := by show logErr ls = _; unfold logErr; rw [if_neg h1]
    have hlen : ls.length ≤ 256 := by omega
    have hsf := run_store_f32
    clear h1
    go_enter Try.func41, Try.ntmps41
    go_wp2_with fail
    go_loopw [12] (fun iv wr => ∃ (i : Nat), i ≤ ls.length ∧ iv = .int .i64 i ∧ Hid (firstErr (rdErr ls) i = 0) ∧ Below w.heap.size w wr)
      (fun iv _ => ls.length - (intOf iv).toNat)
    case atStart => exact ⟨0, Nat.zero_le _, rfl, rfl, Below.refl _ _⟩
    case round =>
      obtain ⟨i, hi, rfl, hF, hbel⟩ := hrel
      by_cases hlt : i < ls.length
      · obtain ⟨b, off, rfl, hbl, hEE⟩ := HE.out (by omega)
        obtain ⟨g0, g1⟩ := (hEE i hlt).below hbel hbl
        have hst := Lib.hid (firstErr_step hF.out)
        have hstay : Hid (rdErr ls i ≠ 0 → logErr ls = rdErr ls i) := fun h => by
          rw [Hr.out, ← hst.out]
          exact firstErr_stay (by rw [hst.out]; exact h) hlt
        have hlt' : (i : Int) < ls.length := by omega
        have hge' : (0 : Int) ≤ i := by omega
        have hbl2 : b < wr.heap.size := Nat.lt_of_lt_of_le hbl hbel.size
        have HEE := Lib.hid hEE
        have Hent0 : Hid (rdErr ls i = if timeB (ls.getD i (0, 0)).1 = false ∨ tempOk (ls.getD i (0, 0)).2 = false then 1 else if 0 < i ∧ (ls.getD i (0, 0)).1 ≤ (ls.getD (i - 1) (0, 0)).1 then 7 else 0) := rfl
        clear hEE
        generalize hty : (ls.getD i (0, 0)).1 = ty at *
        generalize (ls.getD i (0, 0)).2 = bt at *
        clear hty
        have hal := (Below.refl w.heap.size w |>.trans hbel).alloc hbel.size (.cells #[.int .i64 ty, .float .f32 bt] 32)
        have hN := blk_new wr #[.int .i64 ty, .float .f32 bt] 32
        go_wp2_with fail
        refine (exact_any bt _).mono ?_
        rintro e w2 ⟨v, rfl, hv, hb2⟩
        have hN2 := blk_keep hN hb2 (by simp)
        have hx2 := hal.trans (hb2.mono hal.size)
        have hal2 : Below wr.heap.size wr w2 := (((Below.refl wr.heap.size wr).alloc (Nat.le_refl _) _).trans (hb2.mono (by simp)))
        obtain ⟨a1, c1, a2, c2, rfl, n1, n2⟩ := hv.opened
        have m0 := blk_cell hN2 0 (.int .i64 ty) rfl
        have hNl := blk_lt hN2
        generalize tempQ bt = q at *
        clear hv n1 n2 hb2 hN hal
        go_wp2_with fail
        refine (time_any ty _).mono ?_
        rintro e w' ⟨rfl, rfl⟩
        have hx3 := hx2.alloc hx2.size (.cells #[.bool (decide (q.num < 0)), .slice a1 (dig b64 q.num.natAbs).length c1, .slice a2 (dig b64 (dn q.den)).length c2] 45)
        cases hT : timeB ty with
        | false =>
          have Hv : Hid (logErr ls = 1) := by
            have h : rdErr ls i = 1 := by rw [Hent0.out, if_pos (.inl hT)]
            show logErr ls = 1
            rw [hstay.out (by rw [h]; decide), h]
          clear hT
          go_wp2_with fail
          go_ret
          exact ⟨by rw [Hv.out]; rfl, hx3⟩
        | true =>
          cases hK : tempOk bt with
          | false =>
            have Hv : Hid (logErr ls = 1) := by
              have h : rdErr ls i = 1 := by rw [Hent0.out, if_pos (.inr hK)]
              show logErr ls = 1
              rw [hstay.out (by rw [h]; decide), h]
            clear hT hK
            go_wp2_with fail
            go_ret
            exact ⟨by rw [Hv.out]; rfl, hx3⟩
          | true =>
            have Hent : Hid (rdErr ls i = if 0 < i ∧ ty ≤ (ls.getD (i - 1) (0, 0)).1 then 7 else 0) := by
              show _ = _
              rw [Hent0.out, if_neg (by rw [hT, hK]; simp)]
            clear hT hK Hent0
            rcases Nat.eq_zero_or_pos i with hi0 | hi0
            · have ti : decide (0 < i) = false := by simp [hi0]
              have Hv : Hid (firstErr (rdErr ls) (i + 1) = 0) := by
                show _ = _
                rw [hst.out, Hent.out, if_neg (by omega)]
              clear hi0
              go_wp2_with fail
              go_region
              go_wp2_with fail
              exact ⟨⟨i + 1, by omega, by go_num, Hv.out, hx3.drew⟩, meas_up hlt⟩
            · have ti : decide (0 < i) = true := by simp [hi0]
              obtain ⟨j, hj⟩ : ∃ j, i = j + 1 := ⟨i - 1, by omega⟩
              obtain ⟨k0, k1⟩ := (HEE.out j (by omega)).below hx2 hbl
              have e1' : IntKind.i64.wrap ((i : Int) - 1) = (j : Int) := by rw [show (i : Int) - 1 = (j : Int) by omega]; exact IntWalk.i64_in _ (by omega)
              have e2' : (i : Int) - 1 = (j : Int) := by omega
              have hj2 : (j : Int) < ls.length := by omega
              have hj0 : (0 : Int) ≤ j := by omega
              have hbl3 : b < w2.heap.size := Nat.lt_of_lt_of_le hbl hx2.size
              have e3 : i - 1 = j := by omega
              rw [e3] at Hent
              generalize (ls.getD j (0, 0)).1 = tj at *
              by_cases hle : ty ≤ tj
              · have hc : decide (ty ≤ tj) = true := decide_eq_true hle
                have Hv : Hid (logErr ls = 7) := by
                  have h : rdErr ls i = 7 := by rw [Hent.out, if_pos ⟨hi0, hle⟩]
                  show logErr ls = 7
                  rw [hstay.out (by rw [h]; decide), h]
                clear hle hi0 hj e3
                go_wp2_with fail
                go_region
                go_wp2_with fail
                go_ret
                exact ⟨by rw [Hv.out]; rfl, hx3.drew⟩
              · have hc : decide (ty ≤ tj) = false := decide_eq_false hle
                have Hv : Hid (firstErr (rdErr ls) (i + 1) = 0) := by
                  show _ = _
                  rw [hst.out, Hent.out, if_neg (fun h => hle h.2)]
                clear hle hi0 hj e3
                go_wp2_with fail
                go_region
                go_wp2_with fail
                exact ⟨⟨i + 1, by omega, by go_num, Hv.out, hx3.drew⟩, meas_up hlt⟩
      · obtain rfl : i = ls.length := by omega
        have Hf : Hid (logErr ls = 0) := by show logErr ls = 0; rw [Hr.out, hF.out]
        clear hF
        go_wp2_with fail
        go_ret
        exact ⟨by rw [Hf.out]; rfl, hbel⟩

end Go.Proofs.Ytdjdnfjgklaneaa

/- THE WALK OF THE REFERENCE's CheckLog. -/
namespace Go.Proofs.Ytdjdnfjgklaneaa
open Go.RowKit

/-- The error of a temperature. -/
def tempE (b : Nat) : Int := if tempOk b = true then 0 else 1
/-- What the conversion of a float32 and the reference's Float come to: one of two ways. -/
theorem conv_ways (b : Nat) :
    (∃ r, (∀ w, (convert 30 62 (.float .f32 b)).run Try.prog w = .ok (.float .f64 r) w) ∧ (∀ w, Calls Try.prog 64 #[.float .f64 r] w (RetRE (tempQ b) (tempE b) w))) ∨
    (tempE b = 1 ∧ (∀ w, (convert 30 62 (.float .f32 b)).run Try.prog w = .ok (.float .f64 (nanOf b w)) w.drew) ∧ (∀ x w, Calls Try.prog 64 #[.float .f64 (nanOf b x)] w (RetRE (tempQ b) (tempE b) w))) := by
  by_cases h : tempOk b = true
  · obtain ⟨r, hr, hb, hE⟩ := conv_fin b h
    have e : tempQ b = fval r := by unfold tempQ; rw [if_pos h, hr]; rfl
    have e2 : tempE b = 0 := by unfold tempE; rw [if_pos h]
    rw [e, e2]
    exact .inl ⟨r, run_conv b r hr, fun w => qfloat_ok r w hb hE⟩
  · have e : tempQ b = 0 := by unfold tempQ; rw [if_neg h]
    have e2 : tempE b = 1 := by unfold tempE; rw [if_neg h]
    rw [e, e2]
    have h1 : ¬ b % sgn32 < inf32 := by simpa [tempOk] using h
    by_cases h2 : b % sgn32 = inf32
    · obtain ⟨r, hr, hb, hE⟩ := conv_inf b h2
      exact .inl ⟨r, run_conv b r hr, fun w => qfloat_err r w hb hE⟩
    · exact .inr ⟨rfl, run_conv_nan b h1 h2, fun x w => qfloat_err _ w (nanOf_ok b x).1 (nanOf_ok b x).2⟩

set_option maxRecDepth 100000 in
set_option maxHeartbeats 4000000 in
theorem qcheckLog_any (ls : List (Int × Nat)) (vl : Value) (w : World) (hl : LogOf w vl ls) : Calls Try.prog 44 #[vl] w (RetInt (logErr ls) w) := by
  obtain ⟨ao, cap, rfl, hE⟩ := hl
  have HE := Lib.hid hE
  clear hE
  by_cases h1 : 256 < ls.length
  · have t1 : decide ((ls.length : Int) > 256) = true := by simp; omega
    have Hr : Hid (logErr ls = 4) := by show logErr ls = 4; unfold logErr; rw [if_pos h1]
    clear h1
    go_enter Try.func44, Try.ntmps44
    go_wp2_with fail
    go_ret
    exact ⟨by rw [Hr.out]; rfl, Below.refl _ _⟩
  · have t1 : decide ((ls.length : Int) > 256) = false := by simp; omega
    have Hr : Hid (logErr ls = firstErr (rdErr ls) ls.length) := by show logErr ls = _; unfold logErr; rw [if_neg h1]
    have hlen : ls.length ≤ 256 := by omega
    have hsf := run_store_f32
    clear h1
    go_enter Try.func44, Try.ntmps44
    go_wp2_with fail
    go_loopw [3] (fun iv wr => ∃ (i : Nat), i ≤ ls.length ∧ iv = .int .i64 i ∧ Hid (firstErr (rdErr ls) i = 0) ∧ Below w.heap.size w wr)
      (fun iv _ => ls.length - (intOf iv).toNat)
    case atStart => exact ⟨0, Nat.zero_le _, rfl, rfl, Below.refl _ _⟩
    case round =>
      obtain ⟨i, hi, rfl, hF, hbel⟩ := hrel
      by_cases hlt : i < ls.length
      · obtain ⟨b, off, rfl, hbl, hEE⟩ := HE.out (by omega)
        obtain ⟨g0, g1⟩ := (hEE i hlt).below hbel hbl
        have hst := Lib.hid (firstErr_step hF.out)
        have hstay : Hid (rdErr ls i ≠ 0 → logErr ls = rdErr ls i) := fun h => by
          rw [Hr.out, ← hst.out]
          exact firstErr_stay (by rw [hst.out]; exact h) hlt
        have hlt' : (i : Int) < ls.length := by omega
        have hge' : (0 : Int) ≤ i := by omega
        have hbl2 : b < wr.heap.size := Nat.lt_of_lt_of_le hbl hbel.size
        have HEE := Lib.hid hEE
        have HRd : Hid (RdAt w b (off + i * 2) ((ls.getD i (0, 0)).1, (ls.getD i (0, 0)).2)) := hEE i hlt
        have Hent0 : Hid (rdErr ls i = if timeB (ls.getD i (0, 0)).1 = false ∨ tempOk (ls.getD i (0, 0)).2 = false then 1 else if 0 < i ∧ (ls.getD i (0, 0)).1 ≤ (ls.getD (i - 1) (0, 0)).1 then 7 else 0) := rfl
        clear hEE
        generalize hty : (ls.getD i (0, 0)).1 = ty at *
        generalize (ls.getD i (0, 0)).2 = bt at *
        clear hty
        rcases conv_ways bt with ⟨r, hc, hFl⟩ | ⟨hE1, hc, hFl⟩
        · have HFl := Lib.hid hFl
          clear hFl
          go_wp2_with (simp only [hc])
          refine (HFl.out _).mono ?_
          rintro e w2 ⟨v, rfl, hv, hb2⟩
          have hx2 := hbel.trans (hb2.mono hbel.size)
          obtain ⟨d', a1, c1, a2, c2, rfl, n1, n2, hden⟩ := hv.opened
          have hbl3 : b < w2.heap.size := Nat.lt_of_lt_of_le hbl hx2.size
          obtain ⟨g0', _⟩ := HRd.out.below hx2 hbl
          have Hb2 := Lib.hid hb2
          generalize tempQ bt = q at *
          clear hv n1 n2 hden hb2 g0 g1
          go_wp2_with fail
          refine (qtime_any ty _).mono ?_
          rintro e w' ⟨rfl, rfl⟩
          have hx3 := hx2.alloc hx2.size (.cells #[.bool (decide (q.num < 0)), .slice a1 (dig b32 q.num.natAbs).length c1, .slice a2 (dig b32 d').length c2] 50)
          cases hT : timeB ty with
          | false =>
            have Hv : Hid (logErr ls = 1) := by
              have h : rdErr ls i = 1 := by rw [Hent0.out, if_pos (.inl hT)]
              show logErr ls = 1
              rw [hstay.out (by rw [h]; decide), h]
            clear hT
            go_wp2_with fail
            go_ret
            exact ⟨by rw [Hv.out]; rfl, hx3⟩
          | true =>
            by_cases hK : tempOk bt = false
            · have Hv : Hid (logErr ls = 1) := by
                have h : rdErr ls i = 1 := by rw [Hent0.out, if_pos (.inr hK)]
                show logErr ls = 1
                rw [hstay.out (by rw [h]; decide), h]
              have hte : (tempE bt != 0) = true := by unfold tempE; rw [if_neg (by rw [hK]; decide)]; rfl
              clear hT hK
              generalize tempE bt = te at *
              go_wp2_with fail
              go_ret
              exact ⟨by rw [Hv.out]; rfl, hx3⟩
            · have hte : (tempE bt != 0) = false := by unfold tempE; rw [if_pos (by simpa using hK)]; rfl
              have Hent : Hid (rdErr ls i = if 0 < i ∧ ty ≤ (ls.getD (i - 1) (0, 0)).1 then 7 else 0) := by
                show _ = _
                rw [Hent0.out, if_neg (by rw [hT]; simp; simpa using hK)]
              clear hT hK Hent0
              generalize tempE bt = te at *
              rcases Nat.eq_zero_or_pos i with hi0 | hi0
              · have ti : decide (0 < i) = false := by simp [hi0]
                have Hv : Hid (firstErr (rdErr ls) (i + 1) = 0) := by
                  show _ = _
                  rw [hst.out, Hent.out, if_neg (by omega)]
                clear hi0
                go_wp2_with fail
                go_region
                go_wp2_with fail
                exact ⟨⟨i + 1, by omega, by go_num, Hv.out, hx3.drew⟩, meas_up hlt⟩
              · have ti : decide (0 < i) = true := by simp [hi0]
                obtain ⟨j, hj⟩ : ∃ j, i = j + 1 := ⟨i - 1, by omega⟩
                obtain ⟨k0, k1⟩ := (HEE.out j (by omega)).below hx2 hbl
                have e1' : IntKind.i64.wrap ((i : Int) - 1) = (j : Int) := by rw [show (i : Int) - 1 = (j : Int) by omega]; exact IntWalk.i64_in _ (by omega)
                have e2' : (i : Int) - 1 = (j : Int) := by omega
                have hj2 : (j : Int) < ls.length := by omega
                have hj0 : (0 : Int) ≤ j := by omega
                have e3 : i - 1 = j := by omega
                rw [e3] at Hent
                generalize (ls.getD j (0, 0)).1 = tj at *
                by_cases hle : ty ≤ tj
                · have hc' : decide (ty ≤ tj) = true := decide_eq_true hle
                  have Hv : Hid (logErr ls = 7) := by
                    have h : rdErr ls i = 7 := by rw [Hent.out, if_pos ⟨hi0, hle⟩]
                    show logErr ls = 7
                    rw [hstay.out (by rw [h]; decide), h]
                  clear hle hi0 hj e3
                  go_wp2_with fail
                  go_region
                  go_wp2_with fail
                  go_ret
                  exact ⟨by rw [Hv.out]; rfl, hx3.drew⟩
                · have hc' : decide (ty ≤ tj) = false := decide_eq_false hle
                  have Hv : Hid (firstErr (rdErr ls) (i + 1) = 0) := by
                    show _ = _
                    rw [hst.out, Hent.out, if_neg (fun h => hle h.2)]
                  clear hle hi0 hj e3
                  go_wp2_with fail
                  go_region
                  go_wp2_with fail
                  exact ⟨⟨i + 1, by omega, by go_num, Hv.out, hx3.drew⟩, meas_up hlt⟩
        · have HFl := Lib.hid hFl
          clear hFl
          go_wp2_with (simp only [hc])
          refine (HFl.out _ _).mono ?_
          rintro e w2 ⟨v, rfl, hv, hb2⟩
          have hx2 := (hbel.drew).trans (hb2.mono hbel.size)
          obtain ⟨d', a1, c1, a2, c2, rfl, n1, n2, hden⟩ := hv.opened
          have hbl3 : b < w2.heap.size := Nat.lt_of_lt_of_le hbl hx2.size
          clear hE1
          obtain ⟨g0', _⟩ := HRd.out.below hx2 hbl
          have Hb2 := Lib.hid hb2
          generalize tempQ bt = q at *
          clear hv n1 n2 hden hb2 g0 g1
          go_wp2_with fail
          refine (qtime_any ty _).mono ?_
          rintro e w' ⟨rfl, rfl⟩
          have hx3 := hx2.alloc hx2.size (.cells #[.bool (decide (q.num < 0)), .slice a1 (dig b32 q.num.natAbs).length c1, .slice a2 (dig b32 d').length c2] 50)
          cases hT : timeB ty with
          | false =>
            have Hv : Hid (logErr ls = 1) := by
              have h : rdErr ls i = 1 := by rw [Hent0.out, if_pos (.inl hT)]
              show logErr ls = 1
              rw [hstay.out (by rw [h]; decide), h]
            clear hT
            go_wp2_with fail
            go_ret
            exact ⟨by rw [Hv.out]; rfl, hx3⟩
          | true =>
            by_cases hK : tempOk bt = false
            · have Hv : Hid (logErr ls = 1) := by
                have h : rdErr ls i = 1 := by rw [Hent0.out, if_pos (.inr hK)]
                show logErr ls = 1
                rw [hstay.out (by rw [h]; decide), h]
              have hte : (tempE bt != 0) = true := by unfold tempE; rw [if_neg (by rw [hK]; decide)]; rfl
              clear hT hK
              generalize tempE bt = te at *
              go_wp2_with fail
              go_ret
              exact ⟨by rw [Hv.out]; rfl, hx3⟩
            · have hte : (tempE bt != 0) = false := by unfold tempE; rw [if_pos (by simpa using hK)]; rfl
              have Hent : Hid (rdErr ls i = if 0 < i ∧ ty ≤ (ls.getD (i - 1) (0, 0)).1 then 7 else 0) := by
                show _ = _
                rw [Hent0.out, if_neg (by rw [hT]; simp; simpa using hK)]
              clear hT hK Hent0
              generalize tempE bt = te at *
              rcases Nat.eq_zero_or_pos i with hi0 | hi0
              · have ti : decide (0 < i) = false := by simp [hi0]
                have Hv : Hid (firstErr (rdErr ls) (i + 1) = 0) := by
                  show _ = _
                  rw [hst.out, Hent.out, if_neg (by omega)]
                clear hi0
                go_wp2_with fail
                go_region
                go_wp2_with fail
                exact ⟨⟨i + 1, by omega, by go_num, Hv.out, hx3.drew⟩, meas_up hlt⟩
              · have ti : decide (0 < i) = true := by simp [hi0]
                obtain ⟨j, hj⟩ : ∃ j, i = j + 1 := ⟨i - 1, by omega⟩
                obtain ⟨k0, k1⟩ := (HEE.out j (by omega)).below hx2 hbl
                have e1' : IntKind.i64.wrap ((i : Int) - 1) = (j : Int) := by rw [show (i : Int) - 1 = (j : Int) by omega]; exact IntWalk.i64_in _ (by omega)
                have e2' : (i : Int) - 1 = (j : Int) := by omega
                have hj2 : (j : Int) < ls.length := by omega
                have hj0 : (0 : Int) ≤ j := by omega
                have e3 : i - 1 = j := by omega
                rw [e3] at Hent
                generalize (ls.getD j (0, 0)).1 = tj at *
                by_cases hle : ty ≤ tj
                · have hc' : decide (ty ≤ tj) = true := decide_eq_true hle
                  have Hv : Hid (logErr ls = 7) := by
                    have h : rdErr ls i = 7 := by rw [Hent.out, if_pos ⟨hi0, hle⟩]
                    show logErr ls = 7
                    rw [hstay.out (by rw [h]; decide), h]
                  clear hle hi0 hj e3
                  go_wp2_with fail
                  go_region
                  go_wp2_with fail
                  go_ret
                  exact ⟨by rw [Hv.out]; rfl, hx3.drew⟩
                · have hc' : decide (ty ≤ tj) = false := decide_eq_false hle
                  have Hv : Hid (firstErr (rdErr ls) (i + 1) = 0) := by
                    show _ = _
                    rw [hst.out, Hent.out, if_neg (fun h => hle h.2)]
                  clear hle hi0 hj e3
                  go_wp2_with fail
                  go_region
                  go_wp2_with fail
                  exact ⟨⟨i + 1, by omega, by go_num, Hv.out, hx3.drew⟩, meas_up hlt⟩
      · obtain rfl : i = ls.length := by omega
        have Hf : Hid (logErr ls = 0) := by show logErr ls = 0; rw [Hr.out, hF.out]
        clear hF
        go_wp2_with fail
        go_ret
        exact ⟨by rw [Hf.out]; rfl, hbel⟩

end Go.Proofs.Ytdjdnfjgklaneaa

/- THE WALKS OF THE REFERENCE's both AND rateOf. -/
namespace Go.Proofs.Ytdjdnfjgklaneaa
open Go.RowKit

/-- How long two stretches have in common. -/
def bothI (f t a b : Int) : Int := max 0 (min t b - max f a)

set_option maxHeartbeats 1000000 in
theorem both_any (f t a b : Int) (w : World) (h1 : IntKind.i64.wrap (min t b - max f a) = min t b - max f a) :
    Calls Try.prog 62 #[.agg #[.int .i64 f, .int .i64 t], .agg #[.int .i64 a, .int .i64 b]] w (RetInt (bothI f t a b) w) := by
  have hal := ((Below.refl w.heap.size w).alloc (Nat.le_refl _) (.cells #[.int .i64 f, .int .i64 t] 112)).alloc (by simp) (.cells #[.int .i64 a, .int .i64 b] 112)
  have Hv : Hid (bothI f t a b = max 0 (min t b - max f a)) := rfl
  go_enter Try.func62, Try.ntmps62
  go_wp2_with fail
  go_ret
  exact ⟨by rw [Hv.out]; rfl, hal⟩

set_option maxHeartbeats 1000000 in
theorem rateOf_any (es : List (Rat × Int)) (tm : Int) (b : Nat) (ve : Value) (w : World) (he : EntsOf IsR w ve es) (hs : ∀ i, i < es.length → szQ (es.getD i (0, 0)).1 17179869184) :
    Calls Try.prog 73 #[ve, .agg #[.int .i64 tm, .float .f32 b]] w (RetInt (rateV es (tempQ b)) w) := by
  have HE := Lib.hid he
  have HS := Lib.hid hs
  have HST : Hid (szQ (tempQ b) 17179869184) := by
    have := tempQ_szQ b
    exact ⟨Nat.le_trans this.1 (by omega), Nat.le_trans this.2 (by omega)⟩
  have hal := (Below.refl w.heap.size w).alloc (Nat.le_refl _) (.cells #[.int .i64 tm, .float .f32 b] 33)
  clear he hs
  rcases conv_ways b with ⟨r, hc, hFl⟩ | ⟨hE1, hc, hFl⟩
  · have HFl := Lib.hid hFl
    clear hFl
    go_enter Try.func73, Try.ntmps73
    go_wp2_with (simp only [hc])
    refine (HFl.out _).mono ?_
    rintro e w2 ⟨v, rfl, hv, hb2⟩
    have hx2 := hal.trans (hb2.mono hal.size)
    have Hv := Lib.hid hv
    obtain ⟨d', a1, c1, a2, c2, rfl, n1, n2, hden⟩ := hv.opened
    clear hv n1 n2 hden hb2
    go_wp2_with fail
    have hx3 := hx2.alloc hx2.size (.cells #[.bool (decide ((tempQ b).num < 0)), .slice a1 (dig b32 (tempQ b).num.natAbs).length c1, .slice a2 (dig b32 d').length c2] 50)
    refine (qrateAt_any es (tempQ b) _ _ _ (HE.out.below IsR.belowAll hx3) (Hv.out.below ((Below.refl _ _).alloc (Nat.le_refl _) _)) HS.out HST.out).mono ?_
    rintro e w3 ⟨rfl, hb3⟩
    have hx4 := hx3.trans (hb3.mono hx3.size)
    go_wp2_with fail
    go_ret
    exact ⟨rfl, hx4⟩
  · have HFl := Lib.hid hFl
    clear hFl hE1
    go_enter Try.func73, Try.ntmps73
    go_wp2_with (simp only [hc])
    refine (HFl.out _ _).mono ?_
    rintro e w2 ⟨v, rfl, hv, hb2⟩
    have hx2 := hal.drew.trans (hb2.mono hal.size)
    have Hv := Lib.hid hv
    obtain ⟨d', a1, c1, a2, c2, rfl, n1, n2, hden⟩ := hv.opened
    clear hv n1 n2 hden hb2
    go_wp2_with fail
    have hx3 := hx2.alloc hx2.size (.cells #[.bool (decide ((tempQ b).num < 0)), .slice a1 (dig b32 (tempQ b).num.natAbs).length c1, .slice a2 (dig b32 d').length c2] 50)
    refine (qrateAt_any es (tempQ b) _ _ _ (HE.out.below IsR.belowAll hx3) (Hv.out.below ((Below.refl _ _).alloc (Nat.le_refl _) _)) HS.out HST.out).mono ?_
    rintro e w3 ⟨rfl, hb3⟩
    have hx4 := hx3.trans (hb3.mono hx3.size)
    go_wp2_with fail
    go_ret
    exact ⟨rfl, hx4⟩

end Go.Proofs.Ytdjdnfjgklaneaa

/- THE LIFE THAT A LOG TAKES: plain. -/
namespace Go.Proofs.Ytdjdnfjgklaneaa
open Go.RowKit

theorem firstErr_all {f : Nat → Int} {n : Nat} (h : firstErr f n = 0) : ∀ i, i < n → f i = 0 := by
  induction n with
  | zero => intro i hi; omega
  | succ n ih =>
    intro i hi
    have h0 : firstErr f n = 0 := by
      rcases Classical.em (firstErr f n = 0) with h1 | h1
      · exact h1
      · have := firstErr_stay h1 (Nat.le_succ n)
        rw [this] at h
        exact absurd h h1
    rw [firstErr_step h0] at h
    rcases Nat.lt_or_ge i n with h1 | h1
    · exact ih h0 i h1
    · obtain rfl : i = n := by omega
      exact h

theorem tab_ok {es : List (Rat × Int)} (h : tabErr es = 0) : 0 < es.length ∧ es.length ≤ 16 ∧ ∀ i, i < es.length → 0 ≤ (es.getD i (0, 0)).2 ∧ (es.getD i (0, 0)).2 ≤ 1000 := by
  unfold tabErr at h
  split at h
  · omega
  · rename_i hl
    refine ⟨by omega, by omega, fun i hi => ?_⟩
    have := firstErr_all h i hi
    unfold entErr at this
    split at this
    · omega
    · split at this
      · omega
      · omega

theorem rateUp_range {es : List (Rat × Int)} (h : ∀ i, i < es.length → 0 ≤ (es.getD i (0, 0)).2 ∧ (es.getD i (0, 0)).2 ≤ 1000) (T : Rat) : 0 ≤ rateUp es T ∧ rateUp es T ≤ 1000 := by
  have key : ∀ i, i ≤ es.length → 0 ≤ rateUp (es.take i) T ∧ rateUp (es.take i) T ≤ 1000 := by
    intro i
    induction i with
    | zero => intro _; simp [rateUp]
    | succ i ih =>
      intro hi
      rw [rateUp_take es T i (by omega)]
      split
      · exact h i (by omega)
      · exact ih (by omega)
  have := key es.length (Nat.le_refl _)
  rwa [List.take_length] at this

theorem log_ok {ls : List (Int × Nat)} (h : logErr ls = 0) : ls.length ≤ 256 ∧ ∀ i, i < ls.length → 0 ≤ (ls.getD i (0, 0)).1 ∧ (ls.getD i (0, 0)).1 ≤ 1073741824 ∧ tempOk (ls.getD i (0, 0)).2 = true := by
  unfold logErr at h
  split at h
  · omega
  · refine ⟨by omega, fun i hi => ?_⟩
    have := firstErr_all h i hi
    unfold rdErr at this
    split at this
    · omega
    · rename_i hn
      have h1 : timeB (ls.getD i (0, 0)).1 = true := by
        cases h : timeB (ls.getD i (0, 0)).1
        · exact absurd (.inl h) hn
        · rfl
      have h2 : tempOk (ls.getD i (0, 0)).2 = true := by
        cases h : tempOk (ls.getD i (0, 0)).2
        · exact absurd (.inr h) hn
        · rfl
      unfold timeB at h1
      simp at h1
      exact ⟨h1.1, h1.2, h2⟩

/-- The rate without a reading. -/
def hotI (es : List (Rat × Int)) : Int := (es.getD (es.length - 1) (0, 0)).2
/-- The rate ahead of reading i. -/
def rateI (es : List (Rat × Int)) (gap : Int) (ls : List (Int × Nat)) (i : Nat) : Int :=
  if 0 < i ∧ (ls.getD i (0, 0)).1 - (ls.getD (i - 1) (0, 0)).1 ≤ gap then max (rateUp es (tempQ (ls.getD (i - 1) (0, 0)).2)) (rateUp es (tempQ (ls.getD i (0, 0)).2)) else hotI es
/-- The time of the reading ahead of reading i. -/
def lastT (ls : List (Int × Nat)) (i : Nat) : Int := if i = 0 then 0 else (ls.getD (i - 1) (0, 0)).1
/-- The life lost ahead of reading i. -/
def usedI (es : List (Rat × Int)) (gap : Int) (ls : List (Int × Nat)) (f t : Int) : Nat → Int
  | 0 => 0
  | i + 1 => usedI es gap ls f t i + rateI es gap ls i * bothI f t (lastT ls i) (ls.getD i (0, 0)).1
/-- All the life lost. -/
def usedAll (es : List (Rat × Int)) (gap : Int) (ls : List (Int × Nat)) (f t : Int) : Int :=
  usedI es gap ls f t ls.length + hotI es * bothI f t (lastT ls ls.length) 1073741825

structure GoodLog (es : List (Rat × Int)) (ls : List (Int × Nat)) (f t : Int) : Prop where
  tab : tabErr es = 0
  log : logErr ls = 0
  f0 : 0 ≤ f
  f1 : f ≤ 1073741824
  t0 : 0 ≤ t
  t1 : t ≤ 1073741824

theorem GoodLog.hot {es : List (Rat × Int)} {ls : List (Int × Nat)} {f t : Int} (h : GoodLog es ls f t) : 0 ≤ hotI es ∧ hotI es ≤ 1000 := by
  obtain ⟨h1, h2, h3⟩ := tab_ok h.tab
  exact h3 _ (by omega)
theorem GoodLog.up {es : List (Rat × Int)} {ls : List (Int × Nat)} {f t : Int} (h : GoodLog es ls f t) (T : Rat) : 0 ≤ rateUp es T ∧ rateUp es T ≤ 1000 := rateUp_range (tab_ok h.tab).2.2 T
theorem GoodLog.rate {es : List (Rat × Int)} {ls : List (Int × Nat)} {f t : Int} (h : GoodLog es ls f t) (gap : Int) (i : Nat) : 0 ≤ rateI es gap ls i ∧ rateI es gap ls i ≤ 1000 := by
  unfold rateI
  split
  · have a := h.up (tempQ (ls.getD (i - 1) (0, 0)).2)
    have b := h.up (tempQ (ls.getD i (0, 0)).2)
    omega
  · exact h.hot
theorem GoodLog.last {es : List (Rat × Int)} {ls : List (Int × Nat)} {f t : Int} (h : GoodLog es ls f t) (i : Nat) (hi : i ≤ ls.length) : 0 ≤ lastT ls i ∧ lastT ls i ≤ 1073741824 := by
  unfold lastT
  split
  · omega
  · have := (log_ok h.log).2 (i - 1) (by omega)
    omega
theorem GoodLog.both {es : List (Rat × Int)} {ls : List (Int × Nat)} {f t : Int} (h : GoodLog es ls f t) (a b : Int) : 0 ≤ bothI f t a b ∧ bothI f t a b ≤ 1073741824 := by
  have := h.f0
  have := h.t1
  unfold bothI
  omega
theorem mul_range {x y : Int} (hx0 : 0 ≤ x) (hx : x ≤ 1000) (hy0 : 0 ≤ y) (hy : y ≤ 1073741824) : 0 ≤ x * y ∧ x * y ≤ 1073741824000 := by
  refine ⟨Int.mul_nonneg hx0 hy0, ?_⟩
  have a := Int.mul_le_mul_of_nonneg_right hx hy0
  have b := Int.mul_le_mul_of_nonneg_left hy (show (0 : Int) ≤ 1000 by omega)
  omega
theorem GoodLog.used {es : List (Rat × Int)} {ls : List (Int × Nat)} {f t : Int} (h : GoodLog es ls f t) (gap : Int) (i : Nat) : 0 ≤ usedI es gap ls f t i ∧ usedI es gap ls f t i ≤ 1073741824000 * i := by
  induction i with
  | zero => simp [usedI]
  | succ i ih =>
    have r := h.rate gap i
    have b := h.both (lastT ls i) (ls.getD i (0, 0)).1
    have m := mul_range r.1 r.2 b.1 b.2
    show 0 ≤ usedI es gap ls f t i + rateI es gap ls i * bothI f t (lastT ls i) (ls.getD i (0, 0)).1 ∧ usedI es gap ls f t i + rateI es gap ls i * bothI f t (lastT ls i) (ls.getD i (0, 0)).1 ≤ _
    generalize rateI es gap ls i * bothI f t (lastT ls i) (ls.getD i (0, 0)).1 = z at *
    omega

end Go.Proofs.Ytdjdnfjgklaneaa

/- THE WALK OF store.from. -/
namespace Go.Proofs.Ytdjdnfjgklaneaa
open Go.RowKit

theorem jobs_ok {js : List (Int × Int)} {ovens : Int} (h : jobsErr js ovens = 0) : GoodJobs js ovens := by
  unfold jobsErr at h
  split at h
  · omega
  · split at h
    · omega
    · rename_i h1 h2
      refine ⟨by omega, by omega, by omega, fun i hi => ?_⟩
      have := firstErr_all h i hi
      unfold jobErr at this
      split at this
      · omega
      · omega

/-- The jobs that are not ready ahead of r, of the first k. -/
def idxFrom (js : List (Int × Int)) (r : Int) : Nat → List Nat
  | 0 => []
  | k + 1 => if r ≤ (js.getD k (0, 0)).1 then idxFrom js r k ++ [k] else idxFrom js r k
def sumFrom (js : List (Int × Int)) (r : Int) : Nat → Int
  | 0 => 0
  | k + 1 => if r ≤ (js.getD k (0, 0)).1 then sumFrom js r k + (js.getD k (0, 0)).2 else sumFrom js r k
def timeFrom (js : List (Int × Int)) (ovens r : Int) : Int := r + (sumFrom js r js.length + ovens - 1) / ovens
theorem idxFrom_length (js : List (Int × Int)) (r : Int) (k : Nat) : (idxFrom js r k).length ≤ k := by
  induction k with
  | zero => simp [idxFrom]
  | succ k ih =>
    unfold idxFrom
    split
    · rw [List.length_append]; simp; omega
    · omega
theorem sumFrom_range {js : List (Int × Int)} {ovens : Int} (h : GoodJobs js ovens) (r : Int) (k : Nat) (hk : k ≤ js.length) : 0 ≤ sumFrom js r k ∧ sumFrom js r k ≤ 1000000 * k := by
  induction k with
  | zero => simp [sumFrom]
  | succ k ih =>
    have := ih (by omega)
    have := h.job k (by omega)
    unfold sumFrom
    split <;> omega

theorem info_int : (Try.prog.info? 3).map (fun i => (i.zero, i.size, i.bytes)) = some (some (.int .i64 0), 1, 8) := by kernel_rfl
/-- Indices as cells. -/
def idxCells (l : List Nat) : List Value := l.map (fun j : Nat => Value.int .i64 (j : Int))

/-- What a row of integers that the call owns reads as. -/
theorem LRow.isRow {w : World} {base : Nat} {e : TypeId} {v : Value} {l : List Nat} (h : LRow w base e 1 v l.length (idxCells l)) : IsRow .i64 w v l := by
  rcases Nat.eq_zero_or_pos l.length with h0 | hp
  · left
    have hl := List.eq_nil_of_length_eq_zero h0
    refine ⟨hl, ?_⟩
    rcases h.1.2 with ⟨rfl, _⟩ | ⟨g, cap, cur, rfl, _, _, _, hcm, _⟩
    · exact ⟨_, _, rfl, by unfold maxLen; omega, fun _ => rfl⟩
    · exact ⟨_, _, by rw [h0], hcm, by simp⟩
  · obtain ⟨g, cap, rfl⟩ := ownsRow_some h.1 hp
    obtain ⟨ho, h1, h2, _⟩ := Own.of_ownsRow (k := .i64) (ds := l) rfl h.1
    exact ho.isRowCap cap h1 h2

/-- What from hands back. -/
def RetIdx (l : List Nat) (n : Int) (w : World) (e : Ending) (w' : World) : Prop :=
  ∃ v, e = .returned (.tuple #[v, .int .i64 n]) ∧ IsRow .i64 w' v l ∧ Below w.heap.size w w'

theorem ownBlock_base {w : World} {base : Nat} {e : TypeId} {size : Nat} {v : Value} {n : Nat} {xs : List Value} (h : w.ownsRow base e size v n xs) : ∀ k, v.ownBlock = some k → base ≤ k := by
  intro k hk
  rcases h.2 with ⟨rfl, _⟩ | ⟨g, cap, cur, rfl, hb, _⟩
  · simp [Value.ownBlock] at hk
  · simp [Value.ownBlock] at hk
    omega

set_option maxHeartbeats 2000000 in
theorem from_any (js : List (Int × Int)) (ovens r : Int) (vj : Value) (w : World) (hj : PairsOf w vj js) (hg : GoodJobs js ovens) (hr0 : 0 ≤ r) (hr1 : r ≤ 1000000) :
    Calls Try.prog 60 #[vj, .int .i64 ovens, .int .i64 r] w (RetIdx (idxFrom js r js.length) (timeFrom js ovens r) w) := by
  obtain ⟨ao, cap, rfl, hE⟩ := hj
  have HE := Lib.hid hE
  have HG := Lib.hid hg
  have hlen := hg.len
  have ho1 := hg.o1
  have ho8 := hg.o8
  clear hE hg
  obtain ⟨i0, hi0, hz0, hz1, hz2⟩ := info_parts info_int
  have hzd : ∀ u ∈ (Value.int .i64 0).cells.toList, noDig u := by
    intro u hu
    simp [Value.cells] at hu
    rw [hu]
    exact noDig_i64 0
  go_enter Try.func60, Try.ntmps60
  go_wp2_with fail
  go_loopw [8, 9, 14] (fun ov sv iv wr => ∃ (i : Nat), i ≤ js.length ∧ iv = .int .i64 i ∧ sv = .int .i64 (sumFrom js r i) ∧ LRow wr w.heap.size 3 1 ov (idxFrom js r i).length (idxCells (idxFrom js r i)) ∧ Below w.heap.size w wr)
    (fun _ _ iv _ => js.length - (intOf iv).toNat)
  case atStart => exact ⟨0, Nat.zero_le _, rfl, rfl, LRow.nil _ _ _ _, Below.refl _ _⟩
  case round =>
    obtain ⟨i, hi, rfl, rfl, hL, hbel⟩ := hrel
    by_cases hlt : i < js.length
    · obtain ⟨b, off, rfl, hbl, hEE⟩ := HE.out (by omega)
      obtain ⟨g0, g1⟩ := (hEE i hlt).below hbel hbl
      have hlt' : (i : Int) < js.length := by omega
      have hge' : (0 : Int) ≤ i := by omega
      have hbl2 : b < wr.heap.size := Nat.lt_of_lt_of_le hbl hbel.size
      have hjob := HG.out.job i hlt
      have hsum := sumFrom_range HG.out r i hi
      have hil := idxFrom_length js r i
      have Hs1 : Hid (sumFrom js r (i + 1) = if r ≤ (js.getD i (0, 0)).1 then sumFrom js r i + (js.getD i (0, 0)).2 else sumFrom js r i) := rfl
      have Hi1 : Hid (idxFrom js r (i + 1) = if r ≤ (js.getD i (0, 0)).1 then idxFrom js r i ++ [i] else idxFrom js r i) := rfl
      clear hEE
      generalize (js.getD i (0, 0)).1 = rd at *
      generalize (js.getD i (0, 0)).2 = m at *
      have hws : IntKind.i64.wrap (sumFrom js r i + m) = sumFrom js r i + m := IntWalk.i64_in _ (by omega)
      generalize sumFrom js r i = S at *
      by_cases hc : r ≤ rd
      · have tc : decide (rd ≥ r) = true := decide_eq_true hc
        have hS1 := Hs1.out
        have hI1 := Hi1.out
        rw [if_pos hc] at hS1 hI1
        have HS1 := Lib.hid hS1
        have HI1 := Lib.hid hI1
        have hx1 := (Below.refl wr.heap.size wr).alloc (Nat.le_refl _) (.cells #[.int .i64 rd, .int .i64 m] 106)
        have hx2 := hx1.alloc hx1.size (.cells #[.int .i64 (i : Int)] 3)
        have hcn := cell_one_new (wr.alloc (.cells #[.int .i64 rd, .int .i64 m] 106)) (.int .i64 (i : Int)) 3
        rw [World.size_alloc] at hcn
        have HCN := Lib.hid hcn
        have HL2 := Lib.hid (hL.below hx2)
        have hN := blk_new wr #[.int .i64 rd, .int .i64 m] 106
        have hN2 := blk_keep (n := wr.heap.size + 1) hN ((Below.refl _ _).alloc (by simp) (.cells #[.int .i64 (i : Int)] 3)) (by omega)
        have hLlt := Lib.hid (fun g (h : u8.ownBlock = some g) => (hL.lt h).1)
        clear hS1 hI1 Hs1 Hi1 hc hcn hL hx1
        go_wp2_with (at_builtin; refine wpList_append_lrow _ rfl (.tmp 23) (.tmp 25) 73 rfl w.heap.size 3 i0 (.int .i64 0) 1 8 Try.underlying73 hi0 hz0 hz1 hz2 rfl (by decide) hzd _ _ _ rfl HL2.out ⟨wr.heap.size + 1, 0, none⟩ 1 1 [.int .i64 (i : Int)] rfl rfl HCN.out (by simp [Value.oneCell']) (by intro u hu; simp at hu; rw [hu]; exact noDig_i64 _) (by omega) (by unfold maxLen; omega) (by omega) (by simp; have := hbel.size; omega) ?_)
        intro g cap' w3 hL3 hgr hat
        have hsz3 := hgr.size
        rw [World.size_alloc, World.size_alloc] at hsz3
        have hN3 : w3.heap[wr.heap.size]? = some (.cells #[.int .i64 rd, .int .i64 m] 106 (0, 0)) := by
          rw [hgr.block _ (by simp; omega) (fun e => Nat.lt_irrefl _ (hLlt.out _ e.symm))]
          exact hN2
        have m0 := blk_cell hN3 0 (.int .i64 rd) rfl
        have m1 := blk_cell hN3 1 (.int .i64 m) rfl
        have hx3 : Below w.heap.size w w3 := (hbel.trans (hx2.mono hbel.size)).grown hgr (by simp; have := hbel.size; omega) (ownBlock_base HL2.out.1)
        go_wp2_with fail
        exact ⟨⟨i + 1, by omega, by go_num, by rw [HS1.out], by rw [HI1.out]; simpa [idxCells] using hL3, hx3⟩, meas_up hlt⟩
      · have tc : decide (rd ≥ r) = false := decide_eq_false hc
        have hS1 := Hs1.out
        have hI1 := Hi1.out
        rw [if_neg hc] at hS1 hI1
        have HS1 := Lib.hid hS1
        have HI1 := Lib.hid hI1
        have hx1 := (Below.refl wr.heap.size wr).alloc (Nat.le_refl _) (.cells #[.int .i64 rd, .int .i64 m] 106)
        clear hS1 hI1 Hs1 Hi1 hc
        go_wp2_with fail
        exact ⟨⟨i + 1, by omega, by go_num, by rw [HS1.out], by rw [HI1.out]; exact hL.below hx1, hbel.trans (hx1.mono hbel.size)⟩, meas_up hlt⟩
    · obtain rfl : i = js.length := by omega
      have hsum := sumFrom_range HG.out r js.length (Nat.le_refl _)
      have Ht : Hid (timeFrom js ovens r = r + (sumFrom js r js.length + ovens - 1) / ovens) := rfl
      generalize sumFrom js r js.length = S at *
      have hw1 : IntKind.i64.wrap (S + ovens) = S + ovens := IntWalk.i64_in _ (by omega)
      have hw2 : IntKind.i64.wrap (S + ovens - 1) = S + ovens - 1 := IntWalk.i64_in _ (by omega)
      have hne : ovens ≠ 0 := by omega
      have hq0 := Int.ediv_nonneg (show 0 ≤ S + ovens - 1 by omega) (show 0 ≤ ovens by omega)
      have hq1 := Int.ediv_le_self ovens (show 0 ≤ S + ovens - 1 by omega)
      have hw3 : IntKind.i64.wrap (r + (S + ovens - 1) / ovens) = r + (S + ovens - 1) / ovens := IntWalk.i64_in _ (by omega)
      have hw4 : wrap64 (r + (S + ovens - 1) / ovens) = r + (S + ovens - 1) / ovens := (IntWalk.i64_left _).symm.trans hw3
      have HL := Lib.hid hL.isRow
      clear hq0 hq1 hL
      go_wp2_with fail
      go_region
      go_wp2_with fail
      rw [← Ht.out] at *
      go_ret2
      exact ⟨_, rfl, HL.out, hbel.drew⟩

end Go.Proofs.Ytdjdnfjgklaneaa

/- THE WALK OF store.Bound. -/
namespace Go.Proofs.Ytdjdnfjgklaneaa
open Go.RowKit

/-- The best bound by the jobs that are not ready ahead of one of the first k, and that time. -/
def bestTo (js : List (Int × Int)) (ovens : Int) : Nat → Int × Int
  | 0 => (-1, 0)
  | k + 1 => if (bestTo js ovens k).1 < timeFrom js ovens (js.getD k (0, 0)).1 ∨ (timeFrom js ovens (js.getD k (0, 0)).1 = (bestTo js ovens k).1 ∧ (js.getD k (0, 0)).1 < (bestTo js ovens k).2)
    then (timeFrom js ovens (js.getD k (0, 0)).1, (js.getD k (0, 0)).1) else bestTo js ovens k
/-- The jobs that show it. -/
def proofTo (js : List (Int × Int)) (ovens : Int) (k : Nat) : List Nat := if k = 0 then [] else idxFrom js (bestTo js ovens k).2 js.length
/-- Then the best one by a job alone. -/
def topTo (js : List (Int × Int)) (ovens : Int) : Nat → Int × Option Nat
  | 0 => ((bestTo js ovens js.length).1, none)
  | k + 1 => if (topTo js ovens k).1 < (js.getD k (0, 0)).1 + (js.getD k (0, 0)).2 then ((js.getD k (0, 0)).1 + (js.getD k (0, 0)).2, some k) else topTo js ovens k
def shownBy (js : List (Int × Int)) (ovens : Int) (s : Option Nat) : List Nat := match s with | none => proofTo js ovens js.length | some i => [i]
def boundN (js : List (Int × Int)) (ovens : Int) : Int := if jobsErr js ovens = 0 then max (topTo js ovens js.length).1 0 else 0
def boundL (js : List (Int × Int)) (ovens : Int) : List Nat := if jobsErr js ovens = 0 then shownBy js ovens (topTo js ovens js.length).2 else []

theorem timeFrom_range {js : List (Int × Int)} {ovens : Int} (h : GoodJobs js ovens) {r : Int} (h0 : 0 ≤ r) (h1 : r ≤ 1000000) : 0 ≤ timeFrom js ovens r ∧ timeFrom js ovens r ≤ 100000000 := by
  have hs := sumFrom_range h r js.length (Nat.le_refl _)
  have := h.len
  have := h.o1
  have := h.o8
  have hq0 := Int.ediv_nonneg (show 0 ≤ sumFrom js r js.length + ovens - 1 by omega) (show 0 ≤ ovens by omega)
  have hq1 := Int.ediv_le_self ovens (show 0 ≤ sumFrom js r js.length + ovens - 1 by omega)
  unfold timeFrom
  omega
theorem bestTo_range {js : List (Int × Int)} {ovens : Int} (h : GoodJobs js ovens) (k : Nat) (hk : k ≤ js.length) : -1 ≤ (bestTo js ovens k).1 ∧ (bestTo js ovens k).1 ≤ 100000000 ∧ 0 ≤ (bestTo js ovens k).2 ∧ (bestTo js ovens k).2 ≤ 1000000 := by
  induction k with
  | zero => simp [bestTo]
  | succ k ih =>
    have := ih (by omega)
    have hj := h.job k (by omega)
    have := timeFrom_range h hj.1 hj.2.1
    unfold bestTo
    split
    · dsimp only; omega
    · exact ih (by omega)
theorem topTo_range {js : List (Int × Int)} {ovens : Int} (h : GoodJobs js ovens) (k : Nat) (hk : k ≤ js.length) : -1 ≤ (topTo js ovens k).1 ∧ (topTo js ovens k).1 ≤ 100000000 := by
  induction k with
  | zero => have := bestTo_range h js.length (Nat.le_refl _); exact ⟨this.1, this.2.1⟩
  | succ k ih =>
    have := ih (by omega)
    have hj := h.job k (by omega)
    unfold topTo
    split
    · dsimp only; omega
    · exact ih (by omega)

/-- What Bound hands back. -/
def RetBound (n : Int) (l : List Nat) (err : Int) (w : World) (e : Ending) (w' : World) : Prop :=
  ∃ v, e = .returned (.tuple #[.int .i64 n, v, .int .i64 err]) ∧ IsRow .i64 w' v l ∧ Below w.heap.size w w'

set_option maxRecDepth 100000 in
set_option maxHeartbeats 4000000 in
theorem bound_any (js : List (Int × Int)) (ovens : Int) (vj : Value) (w : World) (hj : PairsOf w vj js) :
    Calls Try.prog 27 #[vj, .int .i64 ovens] w (RetBound (boundN js ovens) (boundL js ovens) (jobsErr js ovens) w) := by
  have HJ := Lib.hid hj
  obtain ⟨ao, cap, rfl, hE⟩ := hj
  have HE := Lib.hid hE
  clear hE
  by_cases h0 : jobsErr js ovens = 0
  · have t0 : (jobsErr js ovens != 0) = false := by simp [h0]
    have HG := Lib.hid (jobs_ok h0)
    have Hn : Hid (boundN js ovens = max (topTo js ovens js.length).1 0) := by show _ = _; unfold boundN; rw [if_pos h0]
    have Hl : Hid (boundL js ovens = shownBy js ovens (topTo js ovens js.length).2) := by show _ = _; unfold boundL; rw [if_pos h0]
    have hlen := HG.out.len
    have H0 := Lib.hid h0
    clear h0
    go_enter Try.func27, Try.ntmps27
    go_wp2_with fail
    refine (checkJobs_any js ovens _ _ HJ.out).mono ?_
    rintro e w1 ⟨rfl, hb1⟩
    generalize jobsErr js ovens = je at *
    go_wp2_with fail
    go_loopw [8, 9, 10, 25] (fun bv rv pv iv wr => ∃ (i : Nat), i ≤ js.length ∧ iv = .int .i64 i ∧ bv = .int .i64 (bestTo js ovens i).1 ∧ rv = .int .i64 (bestTo js ovens i).2 ∧ IsRow .i64 wr pv (proofTo js ovens i) ∧ Below w.heap.size w wr)
      (fun _ _ _ iv _ => js.length - (intOf iv).toNat)
    case atStart => exact ⟨0, Nat.zero_le _, rfl, rfl, rfl, IsRow.nil _ _, hb1⟩
    case round =>
      clear hb1
      obtain ⟨i, hi, rfl, rfl, rfl, hP, hbel⟩ := hrel
      by_cases hlt : i < js.length
      · obtain ⟨b, off, rfl, hbl, hEE⟩ := HE.out (by omega)
        obtain ⟨g0, g1⟩ := (hEE i hlt).below hbel hbl
        have hlt' : (i : Int) < js.length := by omega
        have hge' : (0 : Int) ≤ i := by omega
        have hbl2 : b < wr.heap.size := Nat.lt_of_lt_of_le hbl hbel.size
        have hjob := HG.out.job i hlt
        have hbr := bestTo_range HG.out i hi
        have Hb1 : Hid (bestTo js ovens (i + 1) = if (bestTo js ovens i).1 < timeFrom js ovens (js.getD i (0, 0)).1 ∨ (timeFrom js ovens (js.getD i (0, 0)).1 = (bestTo js ovens i).1 ∧ (js.getD i (0, 0)).1 < (bestTo js ovens i).2) then (timeFrom js ovens (js.getD i (0, 0)).1, (js.getD i (0, 0)).1) else bestTo js ovens i) := rfl
        have Hp1 : Hid (proofTo js ovens (i + 1) = idxFrom js (bestTo js ovens (i + 1)).2 js.length) := by show _ = _; unfold proofTo; rw [if_neg (by omega)]
        have Hp0 : Hid (0 < i → proofTo js ovens i = idxFrom js (bestTo js ovens i).2 js.length) := fun h => by unfold proofTo; rw [if_neg (by omega)]
        have hb0 : Hid (i = 0 → (bestTo js ovens i).1 = -1) := fun h => by rw [h]; rfl
        have htf := timeFrom_range HG.out hjob.1 hjob.2.1
        have HEE := Lib.hid hEE
        clear hEE
        generalize (js.getD i (0, 0)).1 = r at *
        generalize (js.getD i (0, 0)).2 = m at *
        have hN := blk_new wr #[.int .i64 r, .int .i64 m] 106
        have hal := hbel.alloc hbel.size (.cells #[.int .i64 r, .int .i64 m] 106)
        have HP := Lib.hid (hP.below (((Below.refl wr.heap.size wr).alloc (Nat.le_refl _) (.cells #[.int .i64 r, .int .i64 m] 106))))
        clear hP
        go_wp2_with fail
        refine (from_any js ovens r _ _ (HJ.out.below hal) HG.out hjob.1 hjob.2.1).mono ?_
        rintro e w2 ⟨pv, rfl, hpv, hb2⟩
        have hx2 := hal.trans (hb2.mono hal.size)
        have hN2 := blk_keep hN hb2 (blk_lt hN)
        have m0 := blk_cell hN2 0 (.int .i64 r) rfl
        have HP2 := Lib.hid (HP.out.below hb2)
        have HPV := Lib.hid hpv
        generalize timeFrom js ovens r = n at *
        clear hpv HP hb2 hal hN hN2 g0 g1
        by_cases c1 : (bestTo js ovens i).1 < n
        · have t1 : decide (n > (bestTo js ovens i).1) = true := decide_eq_true c1
          have hB := Hb1.out
          rw [if_pos (.inl c1)] at hB
          have hPn := Hp1.out
          rw [hB] at hPn
          have HB := Lib.hid hB
          have HPn := Lib.hid hPn
          clear hB hPn Hb1 Hp1 Hp0 hb0 c1
          go_wp2_with fail
          go_region
          go_wp2_with fail
          exact ⟨⟨i + 1, by omega, by go_num, by rw [HB.out], by rw [HB.out], by rw [HPn.out]; exact HPV.out, hx2.drew⟩, meas_up hlt⟩
        · have t1 : decide (n > (bestTo js ovens i).1) = false := decide_eq_false c1
          have hi0 : 0 < i := by
            rcases Nat.eq_zero_or_pos i with h | h
            · have := hb0.out h; omega
            · exact h
          by_cases c2 : n = (bestTo js ovens i).1
          · have t2 : (n == (bestTo js ovens i).1) = true := beq_iff_eq.2 c2
            by_cases c3 : r < (bestTo js ovens i).2
            · have t3 : decide (r < (bestTo js ovens i).2) = true := decide_eq_true c3
              have hB := Hb1.out
              rw [if_pos (.inr ⟨c2, c3⟩)] at hB
              have hPn := Hp1.out
              rw [hB] at hPn
              have HB := Lib.hid hB
              have HPn := Lib.hid hPn
              clear hB hPn Hb1 Hp1 Hp0 hb0 c1 c2 c3 hi0
              go_wp2_with fail
              go_region
              go_wp2_with fail
              exact ⟨⟨i + 1, by omega, by go_num, by rw [HB.out], by rw [HB.out], by rw [HPn.out]; exact HPV.out, hx2.drew⟩, meas_up hlt⟩
            · have t3 : decide (r < (bestTo js ovens i).2) = false := decide_eq_false c3
              have hB := Hb1.out
              rw [if_neg (fun h => h.elim c1 (fun h => c3 h.2))] at hB
              have hPn := Hp1.out
              rw [hB, ← Hp0.out hi0] at hPn
              have HB := Lib.hid hB
              have HPn := Lib.hid hPn
              clear hB hPn Hb1 Hp1 Hp0 hb0 c1 c2 c3 hi0
              go_wp2_with fail
              exact ⟨⟨i + 1, by omega, by go_num, by rw [HB.out], by rw [HB.out], by rw [HPn.out]; exact HP2.out, hx2⟩, meas_up hlt⟩
          · have t2 : (n == (bestTo js ovens i).1) = false := beq_eq_false_iff_ne.2 c2
            have hB := Hb1.out
            rw [if_neg (fun h => h.elim c1 (fun h => c2 h.1))] at hB
            have hPn := Hp1.out
            rw [hB, ← Hp0.out hi0] at hPn
            have HB := Lib.hid hB
            have HPn := Lib.hid hPn
            clear hB hPn Hb1 Hp1 Hp0 hb0 c1 c2 hi0
            go_wp2_with fail
            exact ⟨⟨i + 1, by omega, by go_num, by rw [HB.out], by rw [HB.out], by rw [HPn.out]; exact HP2.out, hx2⟩, meas_up hlt⟩
      · obtain rfl : i = js.length := by omega
        have HP := Lib.hid hP
        have HX := Lib.hid hbel
        clear hP
        have hT0 : (bestTo js ovens js.length).1 = (topTo js ovens 0).1 := rfl
        rw [hT0]
        have HS0 : Hid (shownBy js ovens (topTo js ovens 0).2 = proofTo js ovens js.length) := rfl
        clear hT0
        go_wp2_with fail
        go_loopw [8, 10, 58] (fun bv pv iv wq => ∃ (i : Nat), i ≤ js.length ∧ iv = .int .i64 i ∧ bv = .int .i64 (topTo js ovens i).1 ∧ IsRow .i64 wq pv (shownBy js ovens (topTo js ovens i).2) ∧ Below w.heap.size w wq)
          (fun _ _ iv _ => js.length - (intOf iv).toNat)
        case atStart => exact ⟨0, Nat.zero_le _, rfl, rfl, by rw [HS0.out]; exact HP.out, hbel⟩
        case round =>
          clear HP HX HS0 hbel hi hlt
          obtain ⟨i, hi, rfl, rfl, hP, hbel⟩ := hrel
          by_cases hlt : i < js.length
          · obtain ⟨b, off, rfl, hbl, hEE⟩ := HE.out (by omega)
            obtain ⟨g0, g1⟩ := (hEE i hlt).below hbel hbl
            have hlt' : (i : Int) < js.length := by omega
            have hge' : (0 : Int) ≤ i := by omega
            have hbl2 := Nat.lt_of_lt_of_le hbl hbel.size
            have hjob := HG.out.job i hlt
            have htr := topTo_range HG.out i hi
            have Hb1 : Hid (topTo js ovens (i + 1) = if (topTo js ovens i).1 < (js.getD i (0, 0)).1 + (js.getD i (0, 0)).2 then ((js.getD i (0, 0)).1 + (js.getD i (0, 0)).2, some i) else topTo js ovens i) := rfl
            clear hEE
            generalize (js.getD i (0, 0)).1 = r at *
            generalize (js.getD i (0, 0)).2 = m at *
            have hws : IntKind.i64.wrap (r + m) = r + m := IntWalk.i64_in _ (by omega)
            by_cases c1 : (topTo js ovens i).1 < r + m
            · have t1 : decide (r + m > (topTo js ovens i).1) = true := decide_eq_true c1
              have hB := Hb1.out
              rw [if_pos c1] at hB
              have HB := Lib.hid hB
              clear hB Hb1 c1 hP
              go_wp2_with fail
              have hx1 := hbel.alloc hbel.size (.cells #[.int .i64 r, .int .i64 m] 106)
              have hx2 := hx1.alloc hx1.size (.cells #[.int .i64 (i : Int)] 3)
              have hI : IsRow .i64 ((wr.alloc (.cells #[.int .i64 r, .int .i64 m] 106)).alloc (.cells #[.int .i64 (i : Int)] 3)) (.slice (some ⟨wr.heap.size + 1, 0, none⟩) 1 1) [i] :=
                .inr ⟨by simp, wr.heap.size + 1, 0, 1, rfl, by simp, by unfold maxLen; omega, by simp, fun j hj => by
                  obtain rfl : j = 0 := by simp at hj; omega
                  simp⟩
              exact ⟨⟨i + 1, by omega, by go_num, by rw [HB.out], by rw [HB.out]; exact hI, hx2⟩, meas_up hlt⟩
            · have t1 : decide (r + m > (topTo js ovens i).1) = false := decide_eq_false c1
              have hB := Hb1.out
              rw [if_neg c1] at hB
              have HB := Lib.hid hB
              clear hB Hb1 c1
              go_wp2_with fail
              have hx1 := (Below.refl wr.heap.size wr).alloc (Nat.le_refl _) (.cells #[.int .i64 r, .int .i64 m] 106)
              exact ⟨⟨i + 1, by omega, by go_num, by rw [HB.out], by rw [HB.out]; exact hP.below hx1, hbel.trans (hx1.mono hbel.size)⟩, meas_up hlt⟩
          · obtain rfl : i = js.length := by omega
            have HP := Lib.hid hP
            clear hP
            go_wp2_with fail
            go_ret3
            exact ⟨_, by rw [Hn.out, H0.out]; rfl, by rw [Hl.out]; exact HP.out, hbel⟩
  · have t0 : (jobsErr js ovens != 0) = true := by simp [h0]
    have Hn : Hid (boundN js ovens = 0) := by show _ = _; unfold boundN; rw [if_neg h0]
    have Hl : Hid (boundL js ovens = []) := by show _ = _; unfold boundL; rw [if_neg h0]
    clear h0
    go_enter Try.func27, Try.ntmps27
    go_wp2_with fail
    refine (checkJobs_any js ovens _ _ HJ.out).mono ?_
    rintro e w1 ⟨rfl, hb1⟩
    generalize jobsErr js ovens = je at *
    go_wp2_with fail
    go_ret3
    exact ⟨.slice none 0 0, by rw [Hn.out]; rfl, by rw [Hl.out]; exact IsRow.nil _ _, hb1⟩

end Go.Proofs.Ytdjdnfjgklaneaa

/- TABLES MADE BY THE LAW: the walk of law06.table: two lists, appended to side by side. -/
namespace Go.Proofs.Ytdjdnfjgklaneaa
open Go.RowKit

theorem IsRat.grown {w w' : World} {v : Value} {q : Rat} {row : Option Nat} (h : IsRat w v q) (hg : w.grownBy w' row) (hr : ∀ g, row = some g → NoDig w g) : IsRat w' v q := by
  obtain ⟨vn, vd, rfl, h1, h2⟩ := h
  exact ⟨vn, vd, rfl, IsRow.grown (.inl rfl) h1 hg hr, IsRow.grown (.inl rfl) h2 hg hr⟩
theorem IsR.grown {w w' : World} {v : Value} {q : Rat} {row : Option Nat} (h : IsR w v q) (hg : w.grownBy w' row) (hr : ∀ g, row = some g → NoDig w g) : IsR w' v q := by
  obtain ⟨vn, vd, d', rfl, h1, h2, h3⟩ := h
  exact ⟨vn, vd, d', rfl, IsRow.grown (.inr rfl) h1 hg hr, IsRow.grown (.inr rfl) h2 hg hr, h3⟩

/-- The values xs, four by four, read as the table es. -/
def TabRow (R : World → Value → Rat → Prop) (w : World) (xs : List Value) (es : List (Rat × Int)) : Prop :=
  xs.length = es.length * 4 ∧ ∀ j, j < es.length → ∃ v0 vn vd, xs[j * 4]? = some v0 ∧ xs[j * 4 + 1]? = some vn ∧ xs[j * 4 + 2]? = some vd ∧ xs[j * 4 + 3]? = some (.int .i64 (es.getD j (0, 0)).2) ∧ R w (.agg #[v0, vn, vd]) (es.getD j (0, 0)).1
theorem TabRow.mono {R : World → Value → Rat → Prop} {w w' : World} {xs : List Value} {es : List (Rat × Int)} (h : TabRow R w xs es) (hr : ∀ v q, R w v q → R w' v q) : TabRow R w' xs es :=
  ⟨h.1, fun j hj => by obtain ⟨v0, vn, vd, h0, h1, h2, h3, h4⟩ := h.2 j hj; exact ⟨v0, vn, vd, h0, h1, h2, h3, hr _ _ h4⟩⟩
theorem TabRow.nil (R : World → Value → Rat → Prop) (w : World) : TabRow R w [] [] := ⟨rfl, fun j hj => absurd hj (by simp)⟩
theorem TabRow.snoc {R : World → Value → Rat → Prop} {w : World} {xs : List Value} {es : List (Rat × Int)} (h : TabRow R w xs es) {v0 vn vd : Value} {q : Rat} {r : Int} (hq : R w (.agg #[v0, vn, vd]) q) :
    TabRow R w (xs ++ [v0, vn, vd, .int .i64 r]) (es ++ [(q, r)]) := by
  obtain ⟨hl, h⟩ := h
  refine ⟨by simp [hl]; omega, fun j hj => ?_⟩
  rcases Nat.lt_or_ge j es.length with h1 | h1
  · obtain ⟨u0, un, ud, h0, h2, h3, h4, h5⟩ := h j h1
    have e : ∀ k, k < 4 → (xs ++ [v0, vn, vd, .int .i64 r])[j * 4 + k]? = xs[j * 4 + k]? := fun k hk => List.getElem?_append_left (by omega)
    have e2 : (es ++ [(q, r)]).getD j (0, 0) = es.getD j (0, 0) := by simp [List.getD, List.getElem?_append_left h1]
    rw [e2]
    exact ⟨u0, un, ud, by rw [← h0]; exact e 0 (by omega), by rw [← h2]; exact e 1 (by omega), by rw [← h3]; exact e 2 (by omega), by rw [← h4]; exact e 3 (by omega), h5⟩
  · obtain rfl : j = es.length := by simp at hj; omega
    have e : ∀ k, (xs ++ [v0, vn, vd, .int .i64 r])[es.length * 4 + k]? = ([v0, vn, vd, .int .i64 r] : List Value)[k]? := fun k => by rw [List.getElem?_append_right (by omega), hl]; congr 1; omega
    have e2 : (es ++ [(q, r)]).getD es.length (0, 0) = (q, r) := by simp [List.getD]
    rw [e2]
    exact ⟨v0, vn, vd, e 0, e 1, e 2, e 3, hq⟩
/-- A row that the call owns reads as a table. -/
theorem EntsOf.ofRow {R : World → Value → Rat → Prop} {w : World} {base : Nat} {e : TypeId} {v : Value} {xs : List Value} {es : List (Rat × Int)} (h : LRow w base e 4 v es.length xs) (ht : TabRow R w xs es) : EntsOf R w v es := by
  rcases Nat.eq_zero_or_pos es.length with h0 | hp
  · rcases h.1.2 with ⟨rfl, _⟩ | ⟨g, cap, cur, rfl, _⟩
    · exact ⟨none, 0, by rw [h0], fun h => absurd h (by omega)⟩
    · exact ⟨_, _, rfl, fun h => absurd h (by omega)⟩
  · obtain ⟨g, cap, rfl⟩ := ownsRow_some h.1 hp
    have hc : ∀ j u, xs[j]? = some u → w.cell? ((⟨g, 0, none⟩ : Addr).add j) = some u := h.1.cells (g := g) rfl
    have hlt : g < w.heap.size := (h.lt rfl).1
    refine ⟨_, _, rfl, fun _ => ⟨g, 0, rfl, hlt, fun i hi => ?_⟩⟩
    obtain ⟨v0, vn, vd, h0, h1, h2, h3, h4⟩ := ht.2 i hi
    have ea : ∀ j, (⟨g, 0, none⟩ : Addr).add j = ⟨g, 0 + j, none⟩ := fun j => by unfold Addr.add; split <;> simp_all
    refine ⟨v0, vn, vd, ?_, ?_, ?_, ?_, h4⟩
    · rw [← ea]; exact hc _ _ h0
    · rw [show 0 + i * 4 + 1 = 0 + (i * 4 + 1) by omega, ← ea]; exact hc _ _ h1
    · rw [show 0 + i * 4 + 2 = 0 + (i * 4 + 2) by omega, ← ea]; exact hc _ _ h2
    · rw [show 0 + i * 4 + 3 = 0 + (i * 4 + 3) by omega, ← ea]; exact hc _ _ h3

/-- Two rows that the call owns, of two types: they are two blocks. -/
theorem LRow.apart {w : World} {base : Nat} {eA eB : TypeId} {sA sB : Nat} {va vb : Value} {n m : Nat} {xs ys : List Value} (h : LRow w base eA sA va n xs) (k : LRow w base eB sB vb m ys) (hne : eA ≠ eB) : ∀ g, vb.ownBlock = some g → some g ≠ va.ownBlock := by
  intro g hg e
  rcases h.1.2 with ⟨rfl, _⟩ | ⟨g1, c1, cur1, rfl, _, hh1, _⟩
  · simp [Value.ownBlock] at e
  · rcases k.1.2 with ⟨rfl, _⟩ | ⟨g2, c2, cur2, rfl, _, hh2, _⟩
    · simp [Value.ownBlock] at hg
    · simp [Value.ownBlock] at e hg
      subst e hg
      rw [hh1] at hh2
      simp at hh2
      exact hne hh2.2

/-- The two lists so far. -/
structure TS (w0 w : World) (va vb : Value) (xsA xsB : List Value) (esA esB : List (Rat × Int)) : Prop where
  x : Below w0.heap.size w0 w
  la : LRow w w0.heap.size 119 4 va esA.length xsA
  lb : LRow w w0.heap.size 121 4 vb esB.length xsB
  ta : TabRow IsRat w xsA esA
  tb : TabRow IsR w xsB esB
theorem TS.below {w0 w w' : World} {va vb : Value} {xsA xsB : List Value} {esA esB : List (Rat × Int)} (h : TS w0 w va vb xsA xsB esA esB) (hb : Below w.heap.size w w') : TS w0 w' va vb xsA xsB esA esB :=
  ⟨ext_trans h.x hb, h.la.below hb, h.lb.below hb, h.ta.mono fun _ _ hr => hr.below hb, h.tb.mono fun _ _ hr => hr.below hb⟩
theorem TS.alloc {w0 w : World} {va vb : Value} {xsA xsB : List Value} {esA esB : List (Rat × Int)} (h : TS w0 w va vb xsA xsB esA esB) (o : Obj) : TS w0 (w.alloc o) va vb xsA xsB esA esB := h.below ((Below.refl _ _).alloc (Nat.le_refl _) _)
theorem TS.appendA {w0 w w' : World} {va va' vb : Value} {xsA xsB : List Value} {esA esB : List (Rat × Int)} (h : TS w0 w va vb xsA xsB esA esB) {v0 v1 v2 : Value} {q : Rat} {r : Int} (hq : IsRat w (.agg #[v0, v1, v2]) q)
    (hL : LRow w' w0.heap.size 119 4 va' (esA.length + 1) (xsA ++ [v0, v1, v2, .int .i64 r])) (hg : w.grownBy w' va.ownBlock) : TS w0 w' va' vb (xsA ++ [v0, v1, v2, .int .i64 r]) xsB (esA ++ [(q, r)]) esB := by
  have hnd : ∀ g, va.ownBlock = some g → NoDig w g := h.la.2
  exact ⟨h.x.grown hg h.x.size (ownBlock_base h.la.1), by rw [List.length_append]; exact hL, h.lb.grown hg (LRow.apart h.la h.lb (by decide)), (h.ta.mono fun _ _ hr => hr.grown hg hnd).snoc (hq.grown hg hnd), h.tb.mono fun _ _ hr => hr.grown hg hnd⟩
theorem TS.appendB {w0 w w' : World} {va vb' vb : Value} {xsA xsB : List Value} {esA esB : List (Rat × Int)} (h : TS w0 w va vb xsA xsB esA esB) {v0 v1 v2 : Value} {q : Rat} {r : Int} (hq : IsR w (.agg #[v0, v1, v2]) q)
    (hL : LRow w' w0.heap.size 121 4 vb' (esB.length + 1) (xsB ++ [v0, v1, v2, .int .i64 r])) (hg : w.grownBy w' vb.ownBlock) : TS w0 w' va vb' xsA (xsB ++ [v0, v1, v2, .int .i64 r]) esA (esB ++ [(q, r)]) := by
  have hnd : ∀ g, vb.ownBlock = some g → NoDig w g := h.lb.2
  exact ⟨h.x.grown hg h.x.size (ownBlock_base h.lb.1), h.la.grown hg (LRow.apart h.lb h.la (by decide)), by rw [List.length_append]; exact hL, h.ta.mono fun _ _ hr => hr.grown hg hnd, (h.tb.mono fun _ _ hr => hr.grown hg hnd).snoc (hq.grown hg hnd)⟩

theorem cell_new4 (w : World) (a b c d : Value) (t : TypeId) : ∀ j u, [a, b, c, d][j]? = some u → (w.alloc (.cells #[a, b, c, d] t)).cell? ((⟨w.heap.size, 0, none⟩ : Addr).add j) = some u := by
  intro j u hj
  match j, hj with
  | 0, hj => simp at hj; subst hj; simp [Addr.add]
  | 1, hj => simp at hj; subst hj; simp [Addr.add]
  | 2, hj => simp at hj; subst hj; simp [Addr.add]
  | 3, hj => simp at hj; subst hj; simp [Addr.add]
  | j + 4, hj => simp at hj

theorem info_entry : (Try.prog.info? 119).map (fun i => (i.zero, i.size, i.bytes)) = some (some (.agg #[.bool false, .slice none 0 0, .slice none 0 0, .int .i64 0]), 4, 64) := by kernel_rfl
theorem info_qentry : (Try.prog.info? 121).map (fun i => (i.zero, i.size, i.bytes)) = some (some (.agg #[.bool false, .slice none 0 0, .slice none 0 0, .int .i64 0]), 4, 64) := by kernel_rfl

/-- The box of the law's entry. -/
def boxE (n d r : Int) (B : Nat) (w : World) : Prop := w.heap[B]? = some (.cells #[.int .i64 n, .int .i64 d, .int .i64 r] 117 (0, 0))
theorem boxE.all {n d r : Int} {B : Nat} {w : World} (h : boxE n d r B w) : boxE n d r B w ∧ w.cell? ⟨B, 0, none⟩ = some (.int .i64 n) ∧ w.cell? ⟨B, 1, none⟩ = some (.int .i64 d) ∧ w.cell? ⟨B, 2, none⟩ = some (.int .i64 r) :=
  ⟨h, blk_cell h 0 _ rfl, blk_cell h 1 _ rfl, blk_cell h 2 _ rfl⟩
theorem boxE.below {n d r : Int} {B : Nat} {a b : World} (hb : Below a.heap.size a b) (h : boxE n d r B a ∧ a.cell? ⟨B, 0, none⟩ = some (.int .i64 n) ∧ a.cell? ⟨B, 1, none⟩ = some (.int .i64 d) ∧ a.cell? ⟨B, 2, none⟩ = some (.int .i64 r)) : boxE n d r B b ∧ b.cell? ⟨B, 0, none⟩ = some (.int .i64 n) ∧ b.cell? ⟨B, 1, none⟩ = some (.int .i64 d) ∧ b.cell? ⟨B, 2, none⟩ = some (.int .i64 r) :=
  boxE.all (blk_keep h.1 hb (blk_lt h.1))
theorem boxE.grown {n d r : Int} {B : Nat} {a b : World} {row : Option Nat} (hg : a.grownBy b row) (hne : some B ≠ row) (h : boxE n d r B a ∧ a.cell? ⟨B, 0, none⟩ = some (.int .i64 n) ∧ a.cell? ⟨B, 1, none⟩ = some (.int .i64 d) ∧ a.cell? ⟨B, 2, none⟩ = some (.int .i64 r)) : boxE n d r B b ∧ b.cell? ⟨B, 0, none⟩ = some (.int .i64 n) ∧ b.cell? ⟨B, 1, none⟩ = some (.int .i64 d) ∧ b.cell? ⟨B, 2, none⟩ = some (.int .i64 r) :=
  boxE.all ((hg.block B (blk_lt h.1) hne).trans h.1)

/-- Three cells read as the law's entry. -/
def LawAt (w : World) (b o : Nat) (t : Int × Int × Int) : Prop := w.cell? ⟨b, o, none⟩ = some (.int .i64 t.1) ∧ w.cell? ⟨b, o + 1, none⟩ = some (.int .i64 t.2.1) ∧ w.cell? ⟨b, o + 2, none⟩ = some (.int .i64 t.2.2)
def LawsOf (w : World) (v : Value) (ts : List (Int × Int × Int)) : Prop :=
  ∃ ao cap, v = .slice ao ts.length cap ∧ (0 < ts.length → ∃ b off, ao = some ⟨b, off, none⟩ ∧ b < w.heap.size ∧ ∀ i, i < ts.length → LawAt w b (off + i * 3) (ts.getD i (0, 0, 0)))
theorem LawAt.below {w w' : World} {b o : Nat} {r : Int × Int × Int} (h : LawAt w b o r) (hb : Below w.heap.size w w') (hl : b < w.heap.size) : LawAt w' b o r :=
  ⟨(hb.cell (p := ⟨b, o, none⟩) hl).trans h.1, (hb.cell (p := ⟨b, o + 1, none⟩) hl).trans h.2.1, (hb.cell (p := ⟨b, o + 2, none⟩) hl).trans h.2.2⟩
theorem LawsOf.below {w w' : World} {v : Value} {ps : List (Int × Int × Int)} (h : LawsOf w v ps) (hb : Below w.heap.size w w') : LawsOf w' v ps := by
  obtain ⟨ao, cap, rfl, h⟩ := h
  refine ⟨ao, cap, rfl, fun hl => ?_⟩
  obtain ⟨b, off, rfl, hlt, h⟩ := h hl
  exact ⟨b, off, rfl, Nat.lt_of_lt_of_le hlt hb.size, fun i hi => (h i hi).below hb hlt⟩
def i64R (n : Int) : Prop := -9223372036854775808 ≤ n ∧ n ≤ 9223372036854775807
def lawsE (ts : List (Int × Int × Int)) : List (Rat × Int) := ts.map fun t => (fracQ t.1 t.2.1, t.2.2)
theorem lawsE_take (ts : List (Int × Int × Int)) (i : Nat) (hi : i < ts.length) : lawsE (ts.take (i + 1)) = lawsE (ts.take i) ++ [(fracQ (ts.getD i (0, 0, 0)).1 (ts.getD i (0, 0, 0)).2.1, (ts.getD i (0, 0, 0)).2.2)] := by
  unfold lawsE
  rw [List.take_add_one, List.map_append]
  simp [hi]
theorem lawsE_length (ts : List (Int × Int × Int)) (i : Nat) (hi : i ≤ ts.length) : (lawsE (ts.take i)).length = i := by simp [lawsE]; omega

/-- What table hands back. -/
def RetTab (ts : List (Int × Int × Int)) (w : World) (e : Ending) (w' : World) : Prop :=
  ∃ va vb, e = .returned (.tuple #[va, vb, .bool true]) ∧ EntsOf IsRat w' va (lawsE ts) ∧ EntsOf IsR w' vb (lawsE ts) ∧ Below w.heap.size w w'
def RetNoTab (w : World) (e : Ending) (w' : World) : Prop := e = .returned (.tuple #[.slice none 0 0, .slice none 0 0, .bool false]) ∧ Below w.heap.size w w'

theorem table_long (ts : List (Int × Int × Int)) (v : Value) (w : World) (h : LawsOf w v ts) (hl : 20 < ts.length) : Calls Try.prog 11 #[v] w (RetNoTab w) := by
  obtain ⟨ao, cap, rfl, _⟩ := h
  have t1 : decide ((ts.length : Int) > 20) = true := by simp; omega
  clear hl
  go_enter Try.func11, Try.ntmps11
  go_wp2_with fail
  go_ret3
  exact ⟨rfl, Below.refl _ _⟩

set_option maxRecDepth 100000 in
set_option maxHeartbeats 4000000 in
theorem table_any (ts : List (Int × Int × Int)) (v : Value) (w : World) (h : LawsOf w v ts) (hl : ts.length ≤ 20) (hr : ∀ i, i < ts.length → i64R (ts.getD i (0, 0, 0)).1 ∧ i64R (ts.getD i (0, 0, 0)).2.1) : Calls Try.prog 11 #[v] w (RetTab ts w) := by
  obtain ⟨ao, cap, rfl, hE⟩ := h
  have HE := Lib.hid hE
  have HR := Lib.hid hr
  have t1 : decide ((ts.length : Int) > 20) = false := by simp; omega
  obtain ⟨iA, hiA, hzA, hsA, hyA⟩ := info_parts info_entry
  obtain ⟨iB, hiB, hzB, hsB, hyB⟩ := info_parts info_qentry
  have hzd : ∀ u ∈ (Value.agg #[.bool false, .slice none 0 0, .slice none 0 0, .int .i64 0]).cells.toList, noDig u := by
    intro u hu
    simp [Value.cells] at hu
    rcases hu with rfl | rfl | rfl
    · exact noDig_bool _
    · exact noDig_slice _ _ _
    · exact noDig_i64 _
  clear hE hr
  go_enter Try.func11, Try.ntmps11
  go_wp2_with fail
  go_loopw [5, 6, 14] (fun va vb iv wr => ∃ (i : Nat) (xsA xsB : List Value), i ≤ ts.length ∧ iv = .int .i64 i ∧ TS w wr va vb xsA xsB (lawsE (ts.take i)) (lawsE (ts.take i)))
    (fun _ _ iv _ => ts.length - (intOf iv).toNat)
  case atStart => exact ⟨0, [], [], Nat.zero_le _, rfl, Below.refl _ _, LRow.nil _ _ _ _, LRow.nil _ _ _ _, TabRow.nil _ _, TabRow.nil _ _⟩
  case round =>
    obtain ⟨i, xsA, xsB, hi, rfl, hT⟩ := hrel
    have HT := Lib.hid hT
    by_cases hlt : i < ts.length
    · obtain ⟨b, off, rfl, hbl, hEE⟩ := HE.out (by omega)
      obtain ⟨g0, g1, g2⟩ := (hEE i hlt).below hT.x hbl
      have hlt' : (i : Int) < ts.length := by omega
      have hge' : (0 : Int) ≤ i := by omega
      have hbl2 : b < wr.heap.size := Nat.lt_of_lt_of_le hbl hT.x.size
      have Htk := Lib.hid (lawsE_take ts i hlt)
      have hln := lawsE_length ts i hi
      have hrr := Lib.hid (HR.out i hlt)
      clear hEE hT
      generalize (ts.getD i (0, 0, 0)).1 = n at *
      generalize (ts.getD i (0, 0, 0)).2.1 = d at *
      generalize (ts.getD i (0, 0, 0)).2.2 = r at *
      generalize lawsE (ts.take i) = es at *
      have hes : es.length ≤ 20 := by omega
      clear hln
      have hN : boxE n d r wr.heap.size (wr.alloc (.cells #[.int .i64 n, .int .i64 d, .int .i64 r] 117)).drew := blk_new wr #[.int .i64 n, .int .i64 d, .int .i64 r] 117
      have HT0 := Lib.hid (HT.out.below (((Below.refl wr.heap.size wr).alloc (Nat.le_refl _) (.cells #[.int .i64 n, .int .i64 d, .int .i64 r] 117)).drew))
      have hAlt := Lib.hid (fun g (hg : u5.ownBlock = some g) => (HT.out.la.lt hg).1)
      have hBlt := Lib.hid (fun g (hg : u6.ownBlock = some g) => (HT.out.lb.lt hg).1)
      go_wp2_with fail
      go_region_held3 (fun w' => boxE n d r wr.heap.size w' ∧ w'.cell? ⟨wr.heap.size, 0, none⟩ = some (.int .i64 n) ∧ w'.cell? ⟨wr.heap.size, 1, none⟩ = some (.int .i64 d) ∧ w'.cell? ⟨wr.heap.size, 2, none⟩ = some (.int .i64 r))
        (first | exact hN.all | assumption | (refine boxE.below hbA ?_; assumption) | (refine boxE.below hbB ?_; assumption) | (refine boxE.below ((Below.refl _ _).alloc (Nat.le_refl _) _) ?_; assumption) | (refine boxE.grown hgrA (fun e => Nat.lt_irrefl _ (hAlt.out _ e.symm)) ?_; assumption) | (refine boxE.grown hgrB (fun e => Nat.lt_irrefl _ (hBlt.out _ e.symm)) ?_; assumption))
        (first
          | (go_at_call 16; refine (of_any n d _ hrr.out.1.1 hrr.out.1.2 hrr.out.2.1 hrr.out.2.2).mono ?_; rintro e wA ⟨vA, rfl, hvA, hbA⟩; obtain ⟨a1, c1, a2, c2, rfl, _, _⟩ := hvA.opened; have HVA := Lib.hid hvA; have HT1 := Lib.hid (HT0.out.below hbA); clear hvA)
          | (go_at_call 18; refine (qof_any n d _ hrr.out.1.1 hrr.out.1.2 hrr.out.2.1 hrr.out.2.2).mono ?_; rintro e wB ⟨vB, rfl, hvB, hbB⟩; obtain ⟨dB, a3, c3, a4, c4, rfl, _, _, _⟩ := hvB.opened; have HVB := Lib.hid hvB; have HT4 := Lib.hid (HT3.out.below hbB); clear hvB)
          | (refine step_append_lrow _ rfl (.tmp 18) (.tmp 25) 24 rfl w.heap.size 119 iA _ 4 64 Try.underlying24 hiA hzA hsA hyA rfl (by decide) hzd _ _ _ rfl (HT1.out.alloc _).la ⟨wA.heap.size, 0, none⟩ 1 1 [.bool (decide ((fracQ n d).num < 0)), .slice a1 (dig b64 (fracQ n d).num.natAbs).length c1, .slice a2 (dig b64 (dn (fracQ n d).den)).length c2, .int .i64 r] rfl rfl (cell_new4 _ _ _ _ _ _) (by simp [Value.oneCell']) (by intro u hu; simp at hu; rcases hu with rfl | rfl | rfl | rfl; exact noDig_bool _; exact noDig_slice _ _ _; exact noDig_slice _ _ _; exact noDig_i64 _) (by omega) (by unfold maxLen; omega) (by omega) (HT1.out.alloc _).x.size ?_; intro gA capA w3 hL3 hgrA hatA; have HT3 := Lib.hid ((HT1.out.alloc _).appendA (HVA.out.below ((Below.refl _ _).alloc (Nat.le_refl _) _)) hL3 hgrA))
          | (refine step_append_lrow _ rfl (.tmp 27) (.tmp 34) 25 rfl w.heap.size 121 iB _ 4 64 Try.underlying25 hiB hzB hsB hyB rfl (by decide) hzd _ _ _ rfl (HT4.out.alloc _).lb ⟨wB.heap.size, 0, none⟩ 1 1 [.bool (decide ((fracQ n d).num < 0)), .slice a3 (dig b32 (fracQ n d).num.natAbs).length c3, .slice a4 (dig b32 dB).length c4, .int .i64 r] rfl rfl (cell_new4 _ _ _ _ _ _) (by simp [Value.oneCell']) (by intro u hu; simp at hu; rcases hu with rfl | rfl | rfl | rfl; exact noDig_bool _; exact noDig_slice _ _ _; exact noDig_slice _ _ _; exact noDig_i64 _) (by omega) (by unfold maxLen; omega) (by omega) (HT4.out.alloc _).x.size ?_; intro gB capB w6 hL6 hgrB hatB; have HT6 := Lib.hid ((HT4.out.alloc _).appendB (HVB.out.below ((Below.refl _ _).alloc (Nat.le_refl _) _)) hL6 hgrB)))
      clear HT HT0 HT1 HT3 HT4 HVA HVB hL3 hL6 hgrA hgrB
      go_wp2_with fail
      exact ⟨⟨i + 1, _, _, by omega, by go_num, by rw [Htk.out]; exact HT6.out⟩, meas_up hlt⟩
    · obtain rfl : i = ts.length := by omega
      rw [List.take_length] at hT HT
      have hln : (lawsE ts).length = ts.length := by simp [lawsE]
      clear hT
      go_wp2_with fail
      go_ret3
      exact ⟨_, _, rfl, EntsOf.ofRow HT.out.la HT.out.ta, EntsOf.ofRow HT.out.lb HT.out.tb, HT.out.x⟩

end Go.Proofs.Ytdjdnfjgklaneaa

/- THE WALK OF THE REFERENCE's spent. -/
namespace Go.Proofs.Ytdjdnfjgklaneaa
open Go.RowKit

theorem rateV_ok {es : List (Rat × Int)} (h : tabErr es = 0) (T : Rat) : rateV es T = rateUp es T := by unfold rateV; rw [if_pos h]

theorem keepA4 {n : Nat} {W a b : World} {A0 A1 A2 A3 : Addr} {v0 v1 v2 v3 : Value} (hn : n ≤ W.heap.size) (hb : Below a.heap.size a b)
    (h : Below n W a ∧ a.cell? A0 = some v0 ∧ a.cell? A1 = some v1 ∧ a.cell? A2 = some v2 ∧ a.cell? A3 = some v3) :
    Below n W b ∧ b.cell? A0 = some v0 ∧ b.cell? A1 = some v1 ∧ b.cell? A2 = some v2 ∧ b.cell? A3 = some v3 := by
  obtain ⟨h0, h1, h2, h3, h4⟩ := h
  have e : ∀ A v, a.cell? A = some v → b.cell? A = some v := fun A v h => (hb.cell (World.block_lt_of_cell? (h := h))).trans h
  have hs := h0.size
  exact ⟨h0.trans (hb.mono (by omega)), e _ _ h1, e _ _ h2, e _ _ h3, e _ _ h4⟩

set_option maxRecDepth 100000 in
set_option maxHeartbeats 4000000 in
theorem spent_any (es : List (Rat × Int)) (gap : Int) (ls : List (Int × Nat)) (f t : Int) (ve vl : Value) (w : World) (he : EntsOf IsR w ve es) (hl : LogOf w vl ls) (hs : ∀ i, i < es.length → szQ (es.getD i (0, 0)).1 17179869184)
    (hg : GoodLog es ls f t) :
    Calls Try.prog 46 #[ve, .int .i64 gap, vl, .agg #[.int .i64 f, .int .i64 t]] w (RetInt (usedAll es gap ls f t) w) := by
  obtain ⟨aoe, cape, rfl, hE⟩ := he
  obtain ⟨aol, capl, rfl, hL⟩ := hl
  obtain ⟨hel, hel2, _⟩ := tab_ok hg.tab
  obtain ⟨be, offe, rfl, hble, hEE⟩ := hE hel
  have HEnts : Hid (EntsOf IsR w (.slice (some ⟨be, offe, none⟩) es.length cape) es) := ⟨_, _, rfl, hE⟩
  obtain ⟨v0, vn, vd, _, _, _, hh, _⟩ := hEE (es.length - 1) (by omega)
  have HS := Lib.hid hs
  have HG := Lib.hid hg
  have HL := Lib.hid hL
  have hll := (log_ok hg.log).1
  have hhot : (es.getD (es.length - 1) (0, 0)).2 = hotI es := rfl
  rw [hhot] at hh
  have e1 : (es.length : Int) - 1 = ((es.length - 1 : Nat) : Int) := by omega
  have e2 : ((es.length - 1 : Nat) : Int) < es.length := by omega
  have hal := (Below.refl w.heap.size w).alloc (Nat.le_refl _) (.cells #[.int .i64 f, .int .i64 t] 112)
  have hB0 := blk_new w #[.int .i64 f, .int .i64 t] 112
  clear hE hL hs hg hEE hhot
  generalize hP : es.length - 1 = P at *
  clear hP
  go_enter Try.func46, Try.ntmps46
  go_wp2_with fail
  go_loopw [10, 11, 12, 13] (fun uv tv iv rv wr => ∃ (i : Nat), i ≤ ls.length ∧ iv = .int .i64 i ∧ tv = .int .i64 (lastT ls i) ∧ uv = .int .i64 (usedI es gap ls f t i) ∧ Below w.heap.size w wr ∧ Hid (wr.heap[w.heap.size]? = some (.cells #[.int .i64 f, .int .i64 t] 112 (0, 0))))
    (fun _ _ iv _ _ => ls.length - (intOf iv).toNat)
  case atStart => exact ⟨0, Nat.zero_le _, rfl, rfl, rfl, hal, hB0⟩
  case round =>
    clear hal hB0
    obtain ⟨i, hi, rfl, rfl, rfl, hbel, hB⟩ := hrel
    by_cases hlt : i < ls.length
    · obtain ⟨b, off, rfl, hbl, hLL⟩ := HL.out (by omega)
      obtain ⟨g0, g1⟩ := (hLL i hlt).below hbel hbl
      have hLL' := Lib.hid hLL
      have hbl2 : b < wr.heap.size := Nat.lt_of_lt_of_le hbl hbel.size
      have hlt' : (i : Int) < ls.length := by omega
      have hge' : (0 : Int) ≤ i := by omega
      have s0 := blk_cell hB.out 0 (.int .i64 f) rfl
      have s1 := blk_cell hB.out 1 (.int .i64 t) rfl
      have hrI : Hid (rateI es gap ls i = if 0 < i ∧ (ls.getD i (0, 0)).1 - (ls.getD (i - 1) (0, 0)).1 ≤ gap then max (rateUp es (tempQ (ls.getD (i - 1) (0, 0)).2)) (rateUp es (tempQ (ls.getD i (0, 0)).2)) else hotI es) := rfl
      have hlI : Hid (0 < i → lastT ls i = (ls.getD (i - 1) (0, 0)).1) := fun h => by unfold lastT; rw [if_neg (by omega)]
      have Hstep : Hid (usedI es gap ls f t (i + 1) = usedI es gap ls f t i + rateI es gap ls i * bothI f t (lastT ls i) (ls.getD i (0, 0)).1) := rfl
      have Hlast : Hid (lastT ls (i + 1) = (ls.getD i (0, 0)).1) := by show _ = _; unfold lastT; rw [if_neg (by omega)]; rfl
      have hrg := (log_ok HG.out.log).2 i hlt
      have hR := HG.out.rate gap i
      have hU := HG.out.used gap i
      have hla := HG.out.last i hi
      have hfr := HG.out.f0
      have hfr1 := HG.out.f1
      have htr := HG.out.t0
      have htr1 := HG.out.t1
      have hz := HG.out.both (lastT ls i) (ls.getD i (0, 0)).1
      generalize (ls.getD i (0, 0)).1 = ty at *
      generalize (ls.getD i (0, 0)).2 = bt at *
      clear hLL
      by_cases hcase : 0 < i ∧ ty - lastT ls i ≤ gap
      · obtain ⟨hi0, hle⟩ := hcase
        have ti : decide (0 < i) = true := by simp [hi0]
        obtain ⟨j, hj⟩ : ∃ j, i = j + 1 := ⟨i - 1, by omega⟩
        have e3 : i - 1 = j := by omega
        have Hl := hlI.out hi0
        have hR0 : Hid (rateI es gap ls i = max (rateUp es (tempQ (ls.getD j (0, 0)).2)) (rateUp es (tempQ bt))) := by
          show _ = _
          rw [hrI.out, if_pos ⟨hi0, by rw [← Hl]; exact hle⟩, e3]
        have hws : IntKind.i64.wrap (ty - lastT ls i) = ty - lastT ls i := IntWalk.i64_in _ (by omega)
        have hc : decide (ty - lastT ls i ≤ gap) = true := decide_eq_true hle
        have e1' : IntKind.i64.wrap ((i : Int) - 1) = (j : Int) := by rw [show (i : Int) - 1 = (j : Int) by omega]; exact IntWalk.i64_in _ (by omega)
        have hj2 : (j : Int) < ls.length := by omega
        have hj0 : (0 : Int) ≤ j := by omega
        obtain ⟨k0, k1⟩ := (hLL'.out j (by omega)).below hbel hbl
        generalize (ls.getD j (0, 0)).1 = tj at *
        generalize (ls.getD j (0, 0)).2 = bj at *
        clear hi0 hj e3 Hl hrI hlI hle

        have Hw1 : Hid (IntKind.i64.wrap (min t ty - max f (lastT ls i)) = min t ty - max f (lastT ls i)) := IntWalk.i64_in _ (by omega)
        have Hb := Lib.hid (fun w => both_any f t (lastT ls i) ty w Hw1.out)
        have hm := mul_range hR.1 hR.2 hz.1 hz.2
        have hw2 : IntKind.i64.wrap (rateI es gap ls i * bothI f t (lastT ls i) ty) = rateI es gap ls i * bothI f t (lastT ls i) ty := IntWalk.i64_in _ (by omega)
        have hw3 : IntKind.i64.wrap (usedI es gap ls f t i + rateI es gap ls i * bothI f t (lastT ls i) ty) = usedI es gap ls f t i + rateI es gap ls i * bothI f t (lastT ls i) ty := IntWalk.i64_in _ (by omega)
        clear Hw1 hm hz hU hfr hfr1 htr htr1

        generalize lastT ls i = la at *
        go_wp2_with fail
        go_region_held3 (fun w' => Below w.heap.size w w' ∧ w'.cell? ⟨w.heap.size, 0, none⟩ = some (.int .i64 f) ∧ w'.cell? ⟨w.heap.size, 1, none⟩ = some (.int .i64 t) ∧ w'.cell? ⟨b, off + i * 2, none⟩ = some (.int .i64 ty) ∧ w'.cell? ⟨b, off + i * 2 + 1, none⟩ = some (.float .f32 bt) ∧ w'.cell? ⟨b, off + j * 2, none⟩ = some (.int .i64 tj) ∧ w'.cell? ⟨b, off + j * 2 + 1, none⟩ = some (.float .f32 bj))
          (first | exact ⟨hbel.drew, s0, s1, g0, g1, k0, k1⟩ | assumption | (refine keepA6 (Nat.le_refl _) hbB ?_; assumption))
          (first | (go_at_call 73; refine (rateOf_any es _ _ _ _ (HEnts.out.below IsR.belowAll (And.left (by assumption))) HS.out).mono ?_; rw [rateV_ok HG.out.tab]; rintro e wB ⟨rfl, hbB⟩))
        rename_i wA hbA hS2
        clear s0 s1 g0 g1 k0 k1
        obtain ⟨hW1, s0, s1, g0, g1, _, _⟩ := hS2
        have hB' := Lib.hid (blk_keep (blk_keep (w := wr.drew) hB.out hbA (blk_lt hB.out)) hbB (blk_lt (blk_keep (w := wr.drew) hB.out hbA (blk_lt hB.out))))
        clear hB hbA hbB hbel hbl2
        rw [← hR0.out]
        clear hR0 hws hc e1' hj2 hj0 hrg hla hR

        generalize bothI f t la ty = z at *
        generalize usedI es gap ls f t i = U at *
        generalize rateI es gap ls i = R at *

        go_wp2_with fail
        go_region_held3 (fun w' => Below w.heap.size w w' ∧ w'.cell? ⟨w.heap.size, 0, none⟩ = some (.int .i64 f) ∧ w'.cell? ⟨w.heap.size, 1, none⟩ = some (.int .i64 t) ∧ w'.cell? ⟨b, off + i * 2, none⟩ = some (.int .i64 ty) ∧ w'.cell? ⟨b, off + i * 2 + 1, none⟩ = some (.float .f32 bt))
          (first | exact ⟨hW1.drew, s0, s1, g0, g1⟩ | assumption | (refine keepA4 (Nat.le_refl _) hbB ?_; assumption))
          (first | (go_at_call 62; refine (Hb.out _).mono ?_; rintro e wB ⟨rfl, hbB⟩))
        rename_i hS2
        obtain ⟨hW2, c0, c1, c2, c3⟩ := hS2
        have hBk := Lib.hid (blk_keep (w := World.drew _) hB'.out hbB (blk_lt hB'.out))
        clear hbB hB'
        go_wp2_with fail
        exact ⟨⟨i + 1, by omega, by go_num, by rw [Hlast.out], by rw [Hstep.out], hW2, hBk.out⟩, meas_up hlt⟩
      · have hR0 : Hid (rateI es gap ls i = hotI es) := by
          show _ = _
          rw [hrI.out, if_neg (fun h => hcase ⟨h.1, by rw [hlI.out h.1]; exact h.2⟩)]

        have Hw1 : Hid (IntKind.i64.wrap (min t ty - max f (lastT ls i)) = min t ty - max f (lastT ls i)) := IntWalk.i64_in _ (by omega)
        have Hb := Lib.hid (fun w => both_any f t (lastT ls i) ty w Hw1.out)
        have hm := mul_range hR.1 hR.2 hz.1 hz.2
        have hw2 : IntKind.i64.wrap (rateI es gap ls i * bothI f t (lastT ls i) ty) = rateI es gap ls i * bothI f t (lastT ls i) ty := IntWalk.i64_in _ (by omega)
        have hw3 : IntKind.i64.wrap (usedI es gap ls f t i + rateI es gap ls i * bothI f t (lastT ls i) ty) = usedI es gap ls f t i + rateI es gap ls i * bothI f t (lastT ls i) ty := IntWalk.i64_in _ (by omega)
        clear Hw1 hm hz hU hfr hfr1 htr htr1

        rcases Nat.eq_zero_or_pos i with hi0 | hi0
        · have ti : decide (0 < i) = false := by simp [hi0]
          clear hi0 hcase hrI hlI
          generalize lastT ls i = la at *
          rw [hR0.out] at hw2 hw3 Hstep
          clear hR0 hR hrg hla
          have hB' := hB
          generalize bothI f t la ty = z at *
          generalize usedI es gap ls f t i = U at *

          go_wp2_with fail
          go_region_held3 (fun w' => Below w.heap.size w w' ∧ w'.cell? ⟨w.heap.size, 0, none⟩ = some (.int .i64 f) ∧ w'.cell? ⟨w.heap.size, 1, none⟩ = some (.int .i64 t) ∧ w'.cell? ⟨b, off + i * 2, none⟩ = some (.int .i64 ty) ∧ w'.cell? ⟨b, off + i * 2 + 1, none⟩ = some (.float .f32 bt))
            (first | exact ⟨hbel.drew, s0, s1, g0, g1⟩ | assumption | (refine keepA4 (Nat.le_refl _) hbB ?_; assumption))
            (first | (go_at_call 62; refine (Hb.out _).mono ?_; rintro e wB ⟨rfl, hbB⟩))
          rename_i hS2
          obtain ⟨hW2, c0, c1, c2, c3⟩ := hS2
          have hBk := Lib.hid (blk_keep (w := World.drew _) hB'.out hbB (blk_lt hB'.out))
          clear hbB hB'
          go_wp2_with fail
          exact ⟨⟨i + 1, by omega, by go_num, by rw [Hlast.out], by rw [Hstep.out], hW2, hBk.out⟩, meas_up hlt⟩
        · have ti : decide (0 < i) = true := by simp [hi0]
          have hws : IntKind.i64.wrap (ty - lastT ls i) = ty - lastT ls i := IntWalk.i64_in _ (by omega)
          have hc : decide (ty - lastT ls i ≤ gap) = false := decide_eq_false (fun h => hcase ⟨hi0, h⟩)
          clear hi0 hcase hrI hlI
          generalize lastT ls i = la at *
          rw [hR0.out] at hw2 hw3 Hstep
          clear hR0 hR hrg hla
          have hB' := hB
          generalize bothI f t la ty = z at *
          generalize usedI es gap ls f t i = U at *

          go_wp2_with fail
          go_region_held3 (fun w' => Below w.heap.size w w' ∧ w'.cell? ⟨w.heap.size, 0, none⟩ = some (.int .i64 f) ∧ w'.cell? ⟨w.heap.size, 1, none⟩ = some (.int .i64 t) ∧ w'.cell? ⟨b, off + i * 2, none⟩ = some (.int .i64 ty) ∧ w'.cell? ⟨b, off + i * 2 + 1, none⟩ = some (.float .f32 bt))
            (first | exact ⟨hbel.drew, s0, s1, g0, g1⟩ | assumption | (refine keepA4 (Nat.le_refl _) hbB ?_; assumption))
            (first | (go_at_call 62; refine (Hb.out _).mono ?_; rintro e wB ⟨rfl, hbB⟩))
          rename_i hS2
          obtain ⟨hW2, c0, c1, c2, c3⟩ := hS2
          have hBk := Lib.hid (blk_keep (w := World.drew _) hB'.out hbB (blk_lt hB'.out))
          clear hbB hB'
          go_wp2_with fail
          exact ⟨⟨i + 1, by omega, by go_num, by rw [Hlast.out], by rw [Hstep.out], hW2, hBk.out⟩, meas_up hlt⟩
    · obtain rfl : i = ls.length := by omega
      have hR := HG.out.hot
      have hU := HG.out.used gap ls.length
      have hla := HG.out.last ls.length hi
      have hfr := HG.out.f0
      have hfr1 := HG.out.f1
      have htr := HG.out.t0
      have htr1 := HG.out.t1
      have hz := HG.out.both (lastT ls ls.length) 1073741825
      have Hall : Hid (usedAll es gap ls f t = usedI es gap ls f t ls.length + hotI es * bothI f t (lastT ls ls.length) 1073741825) := rfl
      have s0 := blk_cell hB.out 0 (.int .i64 f) rfl
      have s1 := blk_cell hB.out 1 (.int .i64 t) rfl
      have Hw1 : Hid (IntKind.i64.wrap (min t 1073741825 - max f (lastT ls ls.length)) = min t 1073741825 - max f (lastT ls ls.length)) := IntWalk.i64_in _ (by omega)
      have Hb := Lib.hid (fun w => both_any f t (lastT ls ls.length) 1073741825 w Hw1.out)
      have hm := mul_range hR.1 hR.2 hz.1 hz.2
      have hw2 : IntKind.i64.wrap (hotI es * bothI f t (lastT ls ls.length) 1073741825) = hotI es * bothI f t (lastT ls ls.length) 1073741825 := IntWalk.i64_in _ (by omega)
      have hw3 : IntKind.i64.wrap (usedI es gap ls f t ls.length + hotI es * bothI f t (lastT ls ls.length) 1073741825) = usedI es gap ls f t ls.length + hotI es * bothI f t (lastT ls ls.length) 1073741825 := IntWalk.i64_in _ (by omega)
      clear Hw1 hm hz hU hfr hfr1 htr htr1 hll hR
      generalize lastT ls ls.length = la at *
      generalize bothI f t la 1073741825 = z at *
      generalize usedI es gap ls f t ls.length = U at *
      go_wp2_with fail
      refine (Hb.out _).mono ?_
      rintro e wB ⟨rfl, hbB⟩
      go_wp2_with fail
      go_ret
      exact ⟨by rw [Hall.out]; rfl, hbel.trans (hbB.mono hbel.size)⟩

end Go.Proofs.Ytdjdnfjgklaneaa
