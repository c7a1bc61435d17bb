/- Part n of the lemmas and walks. -/
import Derived.Test.YtmfochplnchgcaaGi
import Derived.Test.YtmfochplnchgcaaGm

/- THE WALKS of the reference's Next (all events) and Play; printed by wip/tools/gen_cx.py. -/
namespace Go.Proofs.Ytmfochplnchgcaa
open Go.RowKit

theorem qNext_any (r : Ru) (x : Rn) (e : Int) (w : World) : Calls Try.prog 12 #[ruV r, rnV x, .int .i64 e] w (RetNE (nextE r x e) w) := by
  unfold nextE
  cases h : rulesOk r with
  | false => exact qNext_rules r x e h w
  | true =>
    cases hr : right r x with
    | false => exact qNext_wrong r x e h hr w
    | true =>
      have hR := (right_iff r x).1 hr
      by_cases h1 : e < 0
      · rw [if_pos rfl, inR_no1 h1]
        exact qNext_low r x e h hr (decide_eq_true h1) w
      · by_cases h2 : e > 7
        · rw [if_pos rfl, inR_no2 h2]
          exact qNext_high r x e h hr (decide_eq_false h1) (decide_eq_true h2) w
        · rw [if_pos rfl, inR_ok (show 0 ≤ e by omega) (show e ≤ 7 by omega), if_pos (show (true && true) = true from rfl), ← nextR_eq hR]
          have hph : 0 ≤ x.ph := by rcases hR with ⟨a, b, c, d, e⟩ | ⟨a, b, c, d⟩ | ⟨a, b, c, d⟩ <;> omega
          obtain ⟨ph, be, mi, wa, l0, l1, l2, te⟩ := x
          rcases (show e = 0 ∨ e = 1 ∨ e = 2 ∨ e = 3 ∨ e = 4 ∨ e = 5 ∨ e = 6 ∨ e = 7 by omega) with rfl | rfl | rfl | rfl | rfl | rfl | rfl | rfl
          · exact qNext_0 r ph be mi wa l0 l1 l2 te h hr w
          · by_cases h0 : ph = 0
            · have e1 : nextR r ⟨ph, be, mi, wa, l0, l1, l2, te⟩ 1 = some (beginR r ⟨ph, be, mi, wa, l0, l1, l2, false⟩ 1) := by unfold nextR; rw [if_neg (by decide), if_pos rfl, if_pos h0]
              rw [e1]
              exact qNext_1 r ph be mi wa l0 l1 l2 te h hr h0 w
            · have e1 : nextR r ⟨ph, be, mi, wa, l0, l1, l2, te⟩ 1 = none := by unfold nextR; rw [if_neg (by decide), if_pos rfl, if_neg h0]
              rw [e1]
              exact qNext_1n r ph be mi wa l0 l1 l2 te h hr h0 w
          · by_cases h4 : ph > 4
            · have e1 : nextR r ⟨ph, be, mi, wa, l0, l1, l2, te⟩ 2 = none := by unfold nextR; rw [if_neg (by decide), if_neg (by decide), if_pos (Or.inl h4)]
              rw [e1]
              exact qNext_2o r ph be mi wa l0 l1 l2 te h hr (decide_eq_true h4) w
            · cases l0 with
              | true =>
                have e1 : nextR r ⟨ph, be, mi, wa, true, l1, l2, te⟩ 2 = none := by unfold nextR; rw [if_neg (by decide), if_neg (by decide), if_pos (Or.inr (by rfl))]
                rw [e1]
                exact qNext_2s r ph be mi wa true l1 l2 te h hr (decide_eq_false h4) w
              | false =>
                have hno : ¬ (4 < (⟨ph, be, mi, wa, false, l1, l2, te⟩ : Rn).ph ∨ Rn.lost ⟨ph, be, mi, wa, false, l1, l2, te⟩ (dOf 2) = lostOf 2) := by
                  rintro (h | h)
                  · exact h4 h
                  · exact absurd h (by show ¬ false = true; decide)
                have e1 : nextR r ⟨ph, be, mi, wa, false, l1, l2, te⟩ 2 = some (meetR r ⟨ph, be, mi, wa, true, l1, l2, te⟩ 0) := by unfold nextR; rw [if_neg (by decide), if_neg (by decide), if_neg hno, if_pos (by decide)]; rfl
                rw [e1]
                exact qNext_2 r ph be mi wa true l1 l2 te h hr (decide_eq_false h4) w
          · by_cases h4 : ph > 4
            · have e1 : nextR r ⟨ph, be, mi, wa, l0, l1, l2, te⟩ 3 = none := by unfold nextR; rw [if_neg (by decide), if_neg (by decide), if_pos (Or.inl h4)]
              rw [e1]
              exact qNext_3o r ph be mi wa l0 l1 l2 te h hr (decide_eq_true h4) w
            · cases l0 with
              | false =>
                have e1 : nextR r ⟨ph, be, mi, wa, false, l1, l2, te⟩ 3 = none := by unfold nextR; rw [if_neg (by decide), if_neg (by decide), if_pos (Or.inr (by rfl))]
                rw [e1]
                exact qNext_3s r ph be mi wa true l1 l2 te h hr (decide_eq_false h4) w
              | true =>
                have hno : ¬ (4 < (⟨ph, be, mi, wa, true, l1, l2, te⟩ : Rn).ph ∨ Rn.lost ⟨ph, be, mi, wa, true, l1, l2, te⟩ (dOf 3) = lostOf 3) := by
                  rintro (h | h)
                  · exact h4 h
                  · exact absurd h (by show ¬ true = false; decide)
                have e1 : nextR r ⟨ph, be, mi, wa, true, l1, l2, te⟩ 3 = some (unheld r ⟨ph, be, mi, wa, false, l1, l2, te⟩) := by unfold nextR; rw [if_neg (by decide), if_neg (by decide), if_neg hno, if_neg (by decide)]; rfl
                rw [e1]
                by_cases hp : ph = 4
                · subst hp
                  have hbe : 1 ≤ be ∧ be ≤ 3 := by
                    rcases hR with ⟨_, h, _⟩ | ⟨_, _, h, _⟩ | ⟨_, _, _, h⟩
                    · exact h
                    · have : (1 : Int) ≤ 4 ∧ (4 : Int) ≤ 3 := h
                      omega
                    · have : (4 : Int) = 0 ∨ (4 : Int) = 5 ∨ (4 : Int) = 6 ∨ (4 : Int) = 7 := h
                      omega
                  cases hh : heldAt r ⟨4, be, mi, wa, false, l1, l2, te⟩ be with
                  | true =>
                    have e2 : unheld r ⟨4, be, mi, wa, false, l1, l2, te⟩ = ⟨4, be, mi, wa, false, l1, l2, te⟩ := by unfold unheld; rw [if_neg (by rintro ⟨_, h⟩; rw [show heldAt r ⟨4, be, mi, wa, false, l1, l2, te⟩ be = true from hh] at h; cases h)]
                    rw [e2]
                    exact qNext_3h r be mi wa true l1 l2 te h hr hbe hh w
                  | false =>
                    have e2 : unheld r ⟨4, be, mi, wa, false, l1, l2, te⟩ = ⟨be, 0, mi, 0, false, l1, l2, te⟩ := by unfold unheld; rw [if_pos ⟨rfl, hh⟩]
                    rw [e2]
                    exact qNext_3u r be mi wa true l1 l2 te h hr hbe hh w
                · have e2 : unheld r ⟨ph, be, mi, wa, false, l1, l2, te⟩ = ⟨ph, be, mi, wa, false, l1, l2, te⟩ := by unfold unheld; rw [if_neg (fun h => hp h.1)]
                  rw [e2]
                  exact qNext_3n r ph be mi wa true l1 l2 te h hr (decide_eq_false h4) hp w
          · by_cases h4 : ph > 4
            · have e1 : nextR r ⟨ph, be, mi, wa, l0, l1, l2, te⟩ 4 = none := by unfold nextR; rw [if_neg (by decide), if_neg (by decide), if_pos (Or.inl h4)]
              rw [e1]
              exact qNext_4o r ph be mi wa l0 l1 l2 te h hr (decide_eq_true h4) w
            · cases l1 with
              | true =>
                have e1 : nextR r ⟨ph, be, mi, wa, l0, true, l2, te⟩ 4 = none := by unfold nextR; rw [if_neg (by decide), if_neg (by decide), if_pos (Or.inr (by rfl))]
                rw [e1]
                exact qNext_4s r ph be mi wa l0 true l2 te h hr (decide_eq_false h4) w
              | false =>
                have hno : ¬ (4 < (⟨ph, be, mi, wa, l0, false, l2, te⟩ : Rn).ph ∨ Rn.lost ⟨ph, be, mi, wa, l0, false, l2, te⟩ (dOf 4) = lostOf 4) := by
                  rintro (h | h)
                  · exact h4 h
                  · exact absurd h (by show ¬ false = true; decide)
                have e1 : nextR r ⟨ph, be, mi, wa, l0, false, l2, te⟩ 4 = some (meetR r ⟨ph, be, mi, wa, l0, true, l2, te⟩ 1) := by unfold nextR; rw [if_neg (by decide), if_neg (by decide), if_neg hno, if_pos (by decide)]; rfl
                rw [e1]
                exact qNext_4 r ph be mi wa l0 true l2 te h hr (decide_eq_false h4) w
          · by_cases h4 : ph > 4
            · have e1 : nextR r ⟨ph, be, mi, wa, l0, l1, l2, te⟩ 5 = none := by unfold nextR; rw [if_neg (by decide), if_neg (by decide), if_pos (Or.inl h4)]
              rw [e1]
              exact qNext_5o r ph be mi wa l0 l1 l2 te h hr (decide_eq_true h4) w
            · cases l1 with
              | false =>
                have e1 : nextR r ⟨ph, be, mi, wa, l0, false, l2, te⟩ 5 = none := by unfold nextR; rw [if_neg (by decide), if_neg (by decide), if_pos (Or.inr (by rfl))]
                rw [e1]
                exact qNext_5s r ph be mi wa l0 true l2 te h hr (decide_eq_false h4) w
              | true =>
                have hno : ¬ (4 < (⟨ph, be, mi, wa, l0, true, l2, te⟩ : Rn).ph ∨ Rn.lost ⟨ph, be, mi, wa, l0, true, l2, te⟩ (dOf 5) = lostOf 5) := by
                  rintro (h | h)
                  · exact h4 h
                  · exact absurd h (by show ¬ true = false; decide)
                have e1 : nextR r ⟨ph, be, mi, wa, l0, true, l2, te⟩ 5 = some (unheld r ⟨ph, be, mi, wa, l0, false, l2, te⟩) := by unfold nextR; rw [if_neg (by decide), if_neg (by decide), if_neg hno, if_neg (by decide)]; rfl
                rw [e1]
                by_cases hp : ph = 4
                · subst hp
                  have hbe : 1 ≤ be ∧ be ≤ 3 := by
                    rcases hR with ⟨_, h, _⟩ | ⟨_, _, h, _⟩ | ⟨_, _, _, h⟩
                    · exact h
                    · have : (1 : Int) ≤ 4 ∧ (4 : Int) ≤ 3 := h
                      omega
                    · have : (4 : Int) = 0 ∨ (4 : Int) = 5 ∨ (4 : Int) = 6 ∨ (4 : Int) = 7 := h
                      omega
                  cases hh : heldAt r ⟨4, be, mi, wa, l0, false, l2, te⟩ be with
                  | true =>
                    have e2 : unheld r ⟨4, be, mi, wa, l0, false, l2, te⟩ = ⟨4, be, mi, wa, l0, false, l2, te⟩ := by unfold unheld; rw [if_neg (by rintro ⟨_, h⟩; rw [show heldAt r ⟨4, be, mi, wa, l0, false, l2, te⟩ be = true from hh] at h; cases h)]
                    rw [e2]
                    exact qNext_5h r be mi wa l0 true l2 te h hr hbe hh w
                  | false =>
                    have e2 : unheld r ⟨4, be, mi, wa, l0, false, l2, te⟩ = ⟨be, 0, mi, 0, l0, false, l2, te⟩ := by unfold unheld; rw [if_pos ⟨rfl, hh⟩]
                    rw [e2]
                    exact qNext_5u r be mi wa l0 true l2 te h hr hbe hh w
                · have e2 : unheld r ⟨ph, be, mi, wa, l0, false, l2, te⟩ = ⟨ph, be, mi, wa, l0, false, l2, te⟩ := by unfold unheld; rw [if_neg (fun h => hp h.1)]
                  rw [e2]
                  exact qNext_5n r ph be mi wa l0 true l2 te h hr (decide_eq_false h4) hp w
          · by_cases h4 : ph > 4
            · have e1 : nextR r ⟨ph, be, mi, wa, l0, l1, l2, te⟩ 6 = none := by unfold nextR; rw [if_neg (by decide), if_neg (by decide), if_pos (Or.inl h4)]
              rw [e1]
              exact qNext_6o r ph be mi wa l0 l1 l2 te h hr (decide_eq_true h4) w
            · cases l2 with
              | true =>
                have e1 : nextR r ⟨ph, be, mi, wa, l0, l1, true, te⟩ 6 = none := by unfold nextR; rw [if_neg (by decide), if_neg (by decide), if_pos (Or.inr (by rfl))]
                rw [e1]
                exact qNext_6s r ph be mi wa l0 l1 true te h hr (decide_eq_false h4) w
              | false =>
                have hno : ¬ (4 < (⟨ph, be, mi, wa, l0, l1, false, te⟩ : Rn).ph ∨ Rn.lost ⟨ph, be, mi, wa, l0, l1, false, te⟩ (dOf 6) = lostOf 6) := by
                  rintro (h | h)
                  · exact h4 h
                  · exact absurd h (by show ¬ false = true; decide)
                have e1 : nextR r ⟨ph, be, mi, wa, l0, l1, false, te⟩ 6 = some (meetR r ⟨ph, be, mi, wa, l0, l1, true, te⟩ 2) := by unfold nextR; rw [if_neg (by decide), if_neg (by decide), if_neg hno, if_pos (by decide)]; rfl
                rw [e1]
                exact qNext_6 r ph be mi wa l0 l1 true te h hr (decide_eq_false h4) w
          · by_cases h4 : ph > 4
            · have e1 : nextR r ⟨ph, be, mi, wa, l0, l1, l2, te⟩ 7 = none := by unfold nextR; rw [if_neg (by decide), if_neg (by decide), if_pos (Or.inl h4)]
              rw [e1]
              exact qNext_7o r ph be mi wa l0 l1 l2 te h hr (decide_eq_true h4) w
            · cases l2 with
              | false =>
                have e1 : nextR r ⟨ph, be, mi, wa, l0, l1, false, te⟩ 7 = none := by unfold nextR; rw [if_neg (by decide), if_neg (by decide), if_pos (Or.inr (by rfl))]
                rw [e1]
                exact qNext_7s r ph be mi wa l0 l1 true te h hr (decide_eq_false h4) w
              | true =>
                have hno : ¬ (4 < (⟨ph, be, mi, wa, l0, l1, true, te⟩ : Rn).ph ∨ Rn.lost ⟨ph, be, mi, wa, l0, l1, true, te⟩ (dOf 7) = lostOf 7) := by
                  rintro (h | h)
                  · exact h4 h
                  · exact absurd h (by show ¬ true = false; decide)
                have e1 : nextR r ⟨ph, be, mi, wa, l0, l1, true, te⟩ 7 = some (unheld r ⟨ph, be, mi, wa, l0, l1, false, te⟩) := by unfold nextR; rw [if_neg (by decide), if_neg (by decide), if_neg hno, if_neg (by decide)]; rfl
                rw [e1]
                by_cases hp : ph = 4
                · subst hp
                  have hbe : 1 ≤ be ∧ be ≤ 3 := by
                    rcases hR with ⟨_, h, _⟩ | ⟨_, _, h, _⟩ | ⟨_, _, _, h⟩
                    · exact h
                    · have : (1 : Int) ≤ 4 ∧ (4 : Int) ≤ 3 := h
                      omega
                    · have : (4 : Int) = 0 ∨ (4 : Int) = 5 ∨ (4 : Int) = 6 ∨ (4 : Int) = 7 := h
                      omega
                  cases hh : heldAt r ⟨4, be, mi, wa, l0, l1, false, te⟩ be with
                  | true =>
                    have e2 : unheld r ⟨4, be, mi, wa, l0, l1, false, te⟩ = ⟨4, be, mi, wa, l0, l1, false, te⟩ := by unfold unheld; rw [if_neg (by rintro ⟨_, h⟩; rw [show heldAt r ⟨4, be, mi, wa, l0, l1, false, te⟩ be = true from hh] at h; cases h)]
                    rw [e2]
                    exact qNext_7h r be mi wa l0 l1 true te h hr hbe hh w
                  | false =>
                    have e2 : unheld r ⟨4, be, mi, wa, l0, l1, false, te⟩ = ⟨be, 0, mi, 0, l0, l1, false, te⟩ := by unfold unheld; rw [if_pos ⟨rfl, hh⟩]
                    rw [e2]
                    exact qNext_7u r be mi wa l0 l1 true te h hr hbe hh w
                · have e2 : unheld r ⟨ph, be, mi, wa, l0, l1, false, te⟩ = ⟨ph, be, mi, wa, l0, l1, false, te⟩ := by unfold unheld; rw [if_neg (fun h => hp h.1)]
                  rw [e2]
                  exact qNext_7n r ph be mi wa l0 l1 true te h hr (decide_eq_false h4) hp w
theorem btq {W a b : World} (h : Below W.heap.size W a) (hb : Below a.heap.size a b) : Below W.heap.size W b := h.trans (hb.mono h.size)
theorem keepP {W a b : World} {B1 B2 B3 j : Nat} {v0 v1 v2 v3 v4 v5 v6 v7 u0 u1 u2 u3 u4 u5 u6 u7 u8 u9 u10 u11 u12 mv : Value} (hb : Below a.heap.size a b) (h : Below W.heap.size W a ∧ a.cell? ⟨B1, 0, none⟩ = some (v0) ∧ a.cell? ⟨B1, 1, none⟩ = some (v1) ∧ a.cell? ⟨B1, 2, none⟩ = some (v2) ∧ a.cell? ⟨B1, 3, none⟩ = some (v3) ∧ a.cell? ⟨B1, 4, none⟩ = some (v4) ∧ a.cell? ⟨B1, 5, none⟩ = some (v5) ∧ a.cell? ⟨B1, 6, none⟩ = some (v6) ∧ a.cell? ⟨B1, 7, none⟩ = some (v7) ∧ a.cell? ⟨B2, 0, none⟩ = some (u0) ∧ a.cell? ⟨B2, 1, none⟩ = some (u1) ∧ a.cell? ⟨B2, 2, none⟩ = some (u2) ∧ a.cell? ⟨B2, 3, none⟩ = some (u3) ∧ a.cell? ⟨B2, 4, none⟩ = some (u4) ∧ a.cell? ⟨B2, 5, none⟩ = some (u5) ∧ a.cell? ⟨B2, 6, none⟩ = some (u6) ∧ a.cell? ⟨B2, 7, none⟩ = some (u7) ∧ a.cell? ⟨B2, 8, none⟩ = some (u8) ∧ a.cell? ⟨B2, 9, none⟩ = some (u9) ∧ a.cell? ⟨B2, 10, none⟩ = some (u10) ∧ a.cell? ⟨B2, 11, none⟩ = some (u11) ∧ a.cell? ⟨B2, 12, none⟩ = some (u12) ∧ a.cell? ⟨B3, j, none⟩ = some mv) : Below W.heap.size W b ∧ b.cell? ⟨B1, 0, none⟩ = some (v0) ∧ b.cell? ⟨B1, 1, none⟩ = some (v1) ∧ b.cell? ⟨B1, 2, none⟩ = some (v2) ∧ b.cell? ⟨B1, 3, none⟩ = some (v3) ∧ b.cell? ⟨B1, 4, none⟩ = some (v4) ∧ b.cell? ⟨B1, 5, none⟩ = some (v5) ∧ b.cell? ⟨B1, 6, none⟩ = some (v6) ∧ b.cell? ⟨B1, 7, none⟩ = some (v7) ∧ b.cell? ⟨B2, 0, none⟩ = some (u0) ∧ b.cell? ⟨B2, 1, none⟩ = some (u1) ∧ b.cell? ⟨B2, 2, none⟩ = some (u2) ∧ b.cell? ⟨B2, 3, none⟩ = some (u3) ∧ b.cell? ⟨B2, 4, none⟩ = some (u4) ∧ b.cell? ⟨B2, 5, none⟩ = some (u5) ∧ b.cell? ⟨B2, 6, none⟩ = some (u6) ∧ b.cell? ⟨B2, 7, none⟩ = some (u7) ∧ b.cell? ⟨B2, 8, none⟩ = some (u8) ∧ b.cell? ⟨B2, 9, none⟩ = some (u9) ∧ b.cell? ⟨B2, 10, none⟩ = some (u10) ∧ b.cell? ⟨B2, 11, none⟩ = some (u11) ∧ b.cell? ⟨B2, 12, none⟩ = some (u12) ∧ b.cell? ⟨B3, j, none⟩ = some mv := by
  obtain ⟨h0, x0, x1, x2, x3, x4, x5, x6, x7, y0, y1, y2, y3, y4, y5, y6, y7, y8, y9, y10, y11, y12, z⟩ := h
  have e : ∀ B j v, a.cell? ⟨B, j, none⟩ = some v → b.cell? ⟨B, j, none⟩ = some v := fun B j v h => (hb.cell (p := ⟨B, j, none⟩) (World.block_lt_of_cell? (h := h))).trans h
  exact ⟨h0.trans (hb.mono h0.size), e _ _ _ x0, e _ _ _ x1, e _ _ _ x2, e _ _ _ x3, e _ _ _ x4, e _ _ _ x5, e _ _ _ x6, e _ _ _ x7, e _ _ _ y0, e _ _ _ y1, e _ _ _ y2, e _ _ _ y3, e _ _ _ y4, e _ _ _ y5, e _ _ _ y6, e _ _ _ y7, e _ _ _ y8, e _ _ _ y9, e _ _ _ y10, e _ _ _ y11, e _ _ _ y12, e _ _ _ z⟩
theorem keepPs {W a b : World} {n B1 B2 B3 j : Nat} {v0 v1 v2 v3 v4 v5 v6 v7 u0 u1 u2 u3 u4 u5 u6 u7 u8 u9 u10 u11 u12 mv : Value} (hn : W.heap.size ≤ n) (l1 : B1 < n) (l2 : B2 < n) (l3 : B3 < n) (hb : Below n a b) (h : Below W.heap.size W a ∧ a.cell? ⟨B1, 0, none⟩ = some (v0) ∧ a.cell? ⟨B1, 1, none⟩ = some (v1) ∧ a.cell? ⟨B1, 2, none⟩ = some (v2) ∧ a.cell? ⟨B1, 3, none⟩ = some (v3) ∧ a.cell? ⟨B1, 4, none⟩ = some (v4) ∧ a.cell? ⟨B1, 5, none⟩ = some (v5) ∧ a.cell? ⟨B1, 6, none⟩ = some (v6) ∧ a.cell? ⟨B1, 7, none⟩ = some (v7) ∧ a.cell? ⟨B2, 0, none⟩ = some (u0) ∧ a.cell? ⟨B2, 1, none⟩ = some (u1) ∧ a.cell? ⟨B2, 2, none⟩ = some (u2) ∧ a.cell? ⟨B2, 3, none⟩ = some (u3) ∧ a.cell? ⟨B2, 4, none⟩ = some (u4) ∧ a.cell? ⟨B2, 5, none⟩ = some (u5) ∧ a.cell? ⟨B2, 6, none⟩ = some (u6) ∧ a.cell? ⟨B2, 7, none⟩ = some (u7) ∧ a.cell? ⟨B2, 8, none⟩ = some (u8) ∧ a.cell? ⟨B2, 9, none⟩ = some (u9) ∧ a.cell? ⟨B2, 10, none⟩ = some (u10) ∧ a.cell? ⟨B2, 11, none⟩ = some (u11) ∧ a.cell? ⟨B2, 12, none⟩ = some (u12) ∧ a.cell? ⟨B3, j, none⟩ = some mv) : Below W.heap.size W b ∧ b.cell? ⟨B1, 0, none⟩ = some (v0) ∧ b.cell? ⟨B1, 1, none⟩ = some (v1) ∧ b.cell? ⟨B1, 2, none⟩ = some (v2) ∧ b.cell? ⟨B1, 3, none⟩ = some (v3) ∧ b.cell? ⟨B1, 4, none⟩ = some (v4) ∧ b.cell? ⟨B1, 5, none⟩ = some (v5) ∧ b.cell? ⟨B1, 6, none⟩ = some (v6) ∧ b.cell? ⟨B1, 7, none⟩ = some (v7) ∧ b.cell? ⟨B2, 0, none⟩ = some (u0) ∧ b.cell? ⟨B2, 1, none⟩ = some (u1) ∧ b.cell? ⟨B2, 2, none⟩ = some (u2) ∧ b.cell? ⟨B2, 3, none⟩ = some (u3) ∧ b.cell? ⟨B2, 4, none⟩ = some (u4) ∧ b.cell? ⟨B2, 5, none⟩ = some (u5) ∧ b.cell? ⟨B2, 6, none⟩ = some (u6) ∧ b.cell? ⟨B2, 7, none⟩ = some (u7) ∧ b.cell? ⟨B2, 8, none⟩ = some (u8) ∧ b.cell? ⟨B2, 9, none⟩ = some (u9) ∧ b.cell? ⟨B2, 10, none⟩ = some (u10) ∧ b.cell? ⟨B2, 11, none⟩ = some (u11) ∧ b.cell? ⟨B2, 12, none⟩ = some (u12) ∧ b.cell? ⟨B3, j, none⟩ = some mv := by
  obtain ⟨h0, x0, x1, x2, x3, x4, x5, x6, x7, y0, y1, y2, y3, y4, y5, y6, y7, y8, y9, y10, y11, y12, z⟩ := h
  have e : ∀ B j v, B < n → a.cell? ⟨B, j, none⟩ = some v → b.cell? ⟨B, j, none⟩ = some v := fun B j v hl h => (hb.cell (p := ⟨B, j, none⟩) hl).trans h
  exact ⟨h0.trans (hb.mono hn), e _ _ _ l1 x0, e _ _ _ l1 x1, e _ _ _ l1 x2, e _ _ _ l1 x3, e _ _ _ l1 x4, e _ _ _ l1 x5, e _ _ _ l1 x6, e _ _ _ l1 x7, e _ _ _ l2 y0, e _ _ _ l2 y1, e _ _ _ l2 y2, e _ _ _ l2 y3, e _ _ _ l2 y4, e _ _ _ l2 y5, e _ _ _ l2 y6, e _ _ _ l2 y7, e _ _ _ l2 y8, e _ _ _ l2 y9, e _ _ _ l2 y10, e _ _ _ l2 y11, e _ _ _ l2 y12, e _ _ _ l3 z⟩
theorem boxesP4q (w : World) (r : Ru) (c d : Rn) (W : World) (hW : W = (((w.alloc (ruQ r)).alloc (rnQ c)).alloc (ruQ r)).alloc (rnQ d)) :
    Below w.heap.size w W ∧ W.heap[w.heap.size]? = some (ruQ r) ∧ W.heap[w.heap.size + 1]? = some (rnQ c) := by
  subst hW
  have e1 : (w.alloc (ruQ r)).heap.size = w.heap.size + 1 := World.size_alloc ..
  have a1 := heap_alloc_new w (ruQ r)
  have a2 := heap_alloc_new (w.alloc (ruQ r)) (rnQ c)
  rw [e1] at a2
  have a1' := (heap_alloc_old _ (rnQ c) (blk_lt a1)).trans a1
  have b1 := (heap_alloc_old _ (ruQ r) (blk_lt a1')).trans a1'
  have b2 := (heap_alloc_old _ (ruQ r) (blk_lt a2)).trans a2
  exact ⟨ba (ba (below2 _ _ _)), (heap_alloc_old _ _ (blk_lt b1)).trans b1, (heap_alloc_old _ _ (blk_lt b2)).trans b2⟩
set_option maxRecDepth 100000 in
set_option maxHeartbeats 1000000 in
theorem qPlay_bad (r : Ru) (ve : Value) (h : rulesOk r = false) (w : World) : Calls Try.prog 9 #[ruV r, ve] w (RetPl (rn0, 0, 1) w) := by
  have he : errRules r = 1 := by unfold errRules; rw [h]; rfl
  clear h
  go_enter Try.func9, Try.ntmps9
  go_wp2_with fail
  refine (qcheckRules_any r _).mono ?_
  rintro e w1 ⟨rfl, rfl⟩
  rw [he]
  go_wp2_with fail
  refine bodyPost_ret (v := .tuple #[rnV rn0, .int .i64 0, .int .i64 1]) (by simp [results, Try.results9, go_sem, rn0]) rfl ⟨rfl, ?_⟩
  exact ba (below2 _ _ _)
set_option maxRecDepth 100000 in
set_option maxHeartbeats 1000000 in
theorem qPlay_good (r : Ru) (es : List Int) (ve : Value) (h : rulesOk r = true) (w : World) (hv : IntsOf w ve es) :
    Calls Try.prog 9 #[ruV r, ve] w (RetPl (if 256 < es.length then (rn0, 0, 4) else if allEv es then ((play r es).1, (play r es).2, 0) else (rn0, 0, 1)) w) := by
  have he : errRules r = 0 := by unfold errRules; rw [h]; rfl
  have HG := Lib.hid (rulesOk_good h)
  have HOK := Lib.hid h
  clear h
  obtain ⟨q, hq⟩ : ∃ q, q = (if 256 < es.length then (rn0, 0, (4 : Int)) else if allEv es then ((play r es).1, (play r es).2, 0) else (rn0, 0, 1)) := ⟨_, rfl⟩
  rw [← hq]
  have HQ := Lib.hid hq
  clear hq
  obtain ⟨ao, cap, rfl, hE⟩ := hv
  have HE := Lib.hid hE
  clear hE
  by_cases h1 : 256 < es.length
  · have t1 : decide ((es.length : Int) > 256) = true := by simp; omega
    have HQ2 : Hid (q = (rn0, 0, 4)) := by show _ = _; rw [HQ.out, if_pos h1]
    clear h1 HQ
    go_enter Try.func9, Try.ntmps9
    go_wp2_with fail
    refine (qcheckRules_any r _).mono ?_
    rintro e w1 ⟨rfl, rfl⟩
    rw [he]
    go_wp2_with fail
    refine bodyPost_ret (v := .tuple #[rnV rn0, .int .i64 0, .int .i64 4]) (by simp [results, Try.results9, go_sem, rn0]) rfl ⟨by rw [HQ2.out]; rfl, ?_⟩
    exact ba (below2 _ _ _)
  · have t1 : decide ((es.length : Int) > 256) = false := by simp; omega
    have HQ2 : Hid (q = if allEv es then ((play r es).1, (play r es).2, 0) else (rn0, 0, 1)) := by show _ = _; rw [HQ.out, if_neg h1]
    have HL : Hid (es.length ≤ 256) := by show _ ≤ _; omega
    clear h1 HQ
    go_enter Try.func9, Try.ntmps9
    go_wp2_with fail
    refine (qcheckRules_any r _).mono ?_
    rintro e w1 ⟨rfl, rfl⟩
    rw [he]
    go_wp2_with fail
    generalize hW0 : ((w.alloc (.cells (ruA r) 37)).alloc (.cells (rnA ⟨0, 0, 0, 0, false, false, false, false⟩) 34)).alloc (.cells (ruA r) 37) = W at *
    have hbW : Below w.heap.size w W := by rw [← hW0]; exact ba (below2 _ _ _)
    obtain ⟨hbX, x1, x2⟩ := boxesP4q w r ⟨0, 0, 0, 0, false, false, false, false⟩ ⟨0, 0, 0, 0, false, false, false, false⟩ _ rfl
    have hbX' : Below w.heap.size w (W.alloc (rnQ ⟨0, 0, 0, 0, false, false, false, false⟩)) := by rw [← hW0]; exact hbX
    have x1' : (W.alloc (rnQ ⟨0, 0, 0, 0, false, false, false, false⟩)).heap[w.heap.size]? = some (ruQ r) := by rw [← hW0]; exact x1
    have x2' : (W.alloc (rnQ ⟨0, 0, 0, 0, false, false, false, false⟩)).heap[w.heap.size + 1]? = some (rnQ ⟨0, 0, 0, 0, false, false, false, false⟩) := by rw [← hW0]; exact x2
    have x4' : (W.alloc (rnQ ⟨0, 0, 0, 0, false, false, false, false⟩)).heap[W.heap.size]? = some (rnQ ⟨0, 0, 0, 0, false, false, false, false⟩) := heap_alloc_new W _
    have hsz : W.heap.size = w.heap.size + 1 + 1 + 1 := by rw [← hW0, World.size_alloc, World.size_alloc, World.size_alloc]
    have HBW := Lib.hid hbW
    have HBX := Lib.hid hbX'
    have X1 := Lib.hid x1'
    have X2 := Lib.hid x2'
    have X4 := Lib.hid x4'
    have HSZ := Lib.hid hsz
    have HW0 := Lib.hid hW0
    have HEA : Hid (0 < es.length → ∃ b off, ao = some ⟨b, off, none⟩ ∧ b < w.heap.size ∧ ∀ w', Below w.heap.size w w' → ∀ i, i < es.length → w'.cell? ⟨b, off + i, none⟩ = some (.int .i64 (es.getD i 0))) := fun hl => by
      obtain ⟨b, off, h1, h2, h3⟩ := HE.out hl
      exact ⟨b, off, h1, h2, fun w' hb i hi => (hb.cell (p := ⟨b, off + i, none⟩) h2).trans (h3 i hi)⟩
    have X2W : Hid (W.heap[w.heap.size + 1]? = some (.cells (rnA ⟨0, 0, 0, 0, false, false, false, false⟩) 34 (0, 0))) := by
      have := heap_alloc_old W (rnQ ⟨0, 0, 0, 0, false, false, false, false⟩) (show w.heap.size + 1 < W.heap.size by omega)
      exact this.symm.trans x2'
    have hlen := HL.out
    clear hbW hbX x1 x2 hbX' x1' x2' x4' hsz hW0 HE he t1
    go_loopw [8] (fun iv wr => ∃ (i : Nat), i ≤ es.length ∧ iv = .int .i64 i ∧ W = wr ∧ Hid (∀ k, k < i → inR (es.getD k 0) 0 7 = true))
      (fun iv _ => es.length - (intOf iv).toNat)
    case atStart => exact ⟨0, by omega, rfl, rfl, fun k hk => absurd hk (by omega)⟩
    case round =>
      obtain ⟨i, hi, rfl, rfl, HK⟩ := hrel
      by_cases hlt : i < es.length
      · obtain ⟨b, off, rfl, hbl, hc⟩ := HEA.out (by omega)
        have g0 := hc W HBW.out i hlt
        have hlt' : (i : Int) < es.length := by omega
        have hge' : (0 : Int) ≤ i := by omega
        have HLT := Lib.hid hlt
        have HNO : Hid (inR (es.getD i 0) 0 7 = false → allEv es = false) := fun h => allEv_no HLT.out h
        have HYE : Hid (inR (es.getD i 0) 0 7 = true → ∀ k, k < i + 1 → inR (es.getD k 0) 0 7 = true) := fun h k hk => by
          rcases Nat.lt_or_ge k i with h' | h'
          · exact HK.out k h'
          · rw [show k = i from by omega]
            exact h
        clear hlt hc
        generalize hev : es.getD i 0 = ev at *
        clear hev
        cases hin : inR ev 0 7 with
        | true =>
          have HY := Lib.hid (HYE.out hin)
          have hev : 0 ≤ ev ∧ ev ≤ 7 := by unfold inR at hin; simpa using hin
          have t5 : decide (ev < 0) = false := decide_eq_false (by omega)
          have t6 : decide (ev > 7) = false := decide_eq_false (by omega)
          clear hin HYE HNO hev
          go_wp2_with fail
          exact ⟨⟨i + 1, by have := HLT.out; omega, by go_num, by first | rfl | trivial, HY⟩, meas_up HLT.out⟩
        | false =>
          have HN := Lib.hid (HNO.out hin)
          have HQ3 : Hid (q = (rn0, 0, 1)) := by show _ = _; rw [HQ2.out, HN.out]; rfl
          by_cases hlo : ev < 0
          · have t5 : decide (ev < 0) = true := decide_eq_true hlo
            clear hin HYE HNO HQ2 hlo
            obtain ⟨f0, f1, f2, f3, f4, f5, f6, f7⟩ := rnfg (x := ⟨0, 0, 0, 0, false, false, false, false⟩) X2W.out
            obtain ⟨g0, g1, g2, g3, g4, g5, g6, g7⟩ := rn8g (x := ⟨0, 0, 0, 0, false, false, false, false⟩) X2W.out
            go_wp2_with fail
            obtain ⟨h0, h1, h2, h3, h4, h5, h6, h7⟩ := rn8g (x := rn0) (set8 (u0 := .int .i64 0) (u1 := .int .i64 0) (u2 := .int .i64 0) (u3 := .int .i64 0) (u4 := .bool false) (u5 := .bool false) (u6 := .bool false) (u7 := .bool false) X2W.out)
            refine bodyPost_ret (v := .tuple #[rnV rn0, .int .i64 0, .int .i64 1]) (by simp [results, Try.results9, go_sem, h0, h1, h2, h3, h4, h5, h6, h7]) rfl ⟨?_, below_set8 HBW.out (by omega)⟩
            rw [HQ3.out]
            rfl
          · have t5 : decide (ev < 0) = false := decide_eq_false hlo
            have t6 : decide (ev > 7) = true := decide_eq_true (by unfold inR at hin; simp at hin; omega)
            clear hin HYE HNO HQ2 hlo
            obtain ⟨f0, f1, f2, f3, f4, f5, f6, f7⟩ := rnfg (x := ⟨0, 0, 0, 0, false, false, false, false⟩) X2W.out
            obtain ⟨g0, g1, g2, g3, g4, g5, g6, g7⟩ := rn8g (x := ⟨0, 0, 0, 0, false, false, false, false⟩) X2W.out
            go_wp2_with fail
            obtain ⟨h0, h1, h2, h3, h4, h5, h6, h7⟩ := rn8g (x := rn0) (set8 (u0 := .int .i64 0) (u1 := .int .i64 0) (u2 := .int .i64 0) (u3 := .int .i64 0) (u4 := .bool false) (u5 := .bool false) (u6 := .bool false) (u7 := .bool false) X2W.out)
            refine bodyPost_ret (v := .tuple #[rnV rn0, .int .i64 0, .int .i64 1]) (by simp [results, Try.results9, go_sem, h0, h1, h2, h3, h4, h5, h6, h7]) rfl ⟨?_, below_set8 HBW.out (by omega)⟩
            rw [HQ3.out]
            rfl
      · obtain rfl : i = es.length := by omega
        have HA : Hid (allEv es = true) := allEv_yes HK.out
        have HQ3 : Hid (q = ((play r es).1, (play r es).2, 0)) := by show _ = _; rw [HQ2.out, HA.out]; rfl
        clear HQ2 HK hlt
        go_wp2_with fail
        go_loopw [10, 11] (fun nv iv wr => ∃ (i : Nat), i ≤ es.length ∧ iv = .int .i64 i ∧ nv = .int .i64 (play r (es.take i)).2 ∧ Hid (wr.heap[w.heap.size]? = some (ruQ r)) ∧ Hid (wr.heap[w.heap.size + 1]? = some (rnQ ⟨0, 0, 0, 0, false, false, false, false⟩)) ∧ Hid (wr.heap[W.heap.size]? = some (rnQ (play r (es.take i)).1)) ∧ Hid (Below w.heap.size w wr))
          (fun _ iv _ => es.length - (intOf iv).toNat)
        case atStart => exact ⟨0, by omega, rfl, rfl, X1, X2, X4, HBX⟩
        case round =>
          obtain ⟨i, hi, rfl, rfl, K1, K2, K4, KB⟩ := hrel
          by_cases hlt : i < es.length
          · obtain ⟨b, off, rfl, hbl, hc⟩ := HEA.out (by omega)
            have g0 := hc _ KB.out i hlt
            have hlt' : (i : Int) < es.length := by omega
            have hge' : (0 : Int) ≤ i := by omega
            have HLT := Lib.hid hlt
            have HR : Hid (Right r (play r (es.take i)).1) := play_right HG.out _ (fun e he => (allEv_mem HA.out e (List.mem_of_mem_take he)).2)
            have HEV : Hid (0 ≤ es.getD i 0 ∧ es.getD i 0 ≤ 7) := allEv_mem HA.out _ (by rw [List.getD_eq_getElem?_getD, List.getElem?_eq_getElem hlt]; exact List.getElem_mem hlt)
            have HS : Hid (play r (es.take (i + 1)) = playStep r (play r (es.take i)) (es.getD i 0)) := play_take hlt
            have hn : (play r (es.take i)).2 ≤ es.length := by
              have := play_le r (es.take i) (rn0, 0)
              simp at this
              show (List.foldl (playStep r) (rn0, 0) (List.take i es)).snd ≤ _
              omega
            clear hlt hc
            generalize play r (es.take i) = s at *
            generalize es.getD i 0 = ev at *
            obtain ⟨y, n⟩ := s
            have hn' : n ≤ es.length := hn
            clear hn
            obtain ⟨m0, m1, m2, m3, m4, m5, m6, m7, m8, m9, m10, m11, m12⟩ := ru13g K1.out
            obtain ⟨k0, k1, k2, k3, k4, k5, k6, k7⟩ := rn8g K4.out
            have hE1 : Hid (nextE r y ev = (match next r y ev with | some z => (z, 0) | none => (rn0, 51))) := by
              show _ = _
              unfold nextE
              rw [HOK.out, (right_iff r y).2 HR.out, inR_ok HEV.out.1 HEV.out.2]
              rfl
            go_wp2_with fail
            refine wp_region_held_drew (S := (fun w' => Below wr.heap.size wr w' ∧ w'.cell? ⟨W.heap.size, 0, none⟩ = some (.int .i64 y.ph) ∧ w'.cell? ⟨W.heap.size, 1, none⟩ = some (.int .i64 y.be) ∧ w'.cell? ⟨W.heap.size, 2, none⟩ = some (.int .i64 y.mi) ∧ w'.cell? ⟨W.heap.size, 3, none⟩ = some (.int .i64 y.wa) ∧ w'.cell? ⟨W.heap.size, 4, none⟩ = some (.bool y.l0) ∧ w'.cell? ⟨W.heap.size, 5, none⟩ = some (.bool y.l1) ∧ w'.cell? ⟨W.heap.size, 6, none⟩ = some (.bool y.l2) ∧ w'.cell? ⟨W.heap.size, 7, none⟩ = some (.bool y.te) ∧ w'.cell? ⟨w.heap.size, 0, none⟩ = some (.int .i64 r.m0) ∧ w'.cell? ⟨w.heap.size, 1, none⟩ = some (.int .i64 r.m1) ∧ w'.cell? ⟨w.heap.size, 2, none⟩ = some (.int .i64 r.m2) ∧ w'.cell? ⟨w.heap.size, 3, none⟩ = some (.int .i64 r.pa) ∧ w'.cell? ⟨w.heap.size, 4, none⟩ = some (.int .i64 r.t00) ∧ w'.cell? ⟨w.heap.size, 5, none⟩ = some (.int .i64 r.t01) ∧ w'.cell? ⟨w.heap.size, 6, none⟩ = some (.int .i64 r.t02) ∧ w'.cell? ⟨w.heap.size, 7, none⟩ = some (.int .i64 r.t10) ∧ w'.cell? ⟨w.heap.size, 8, none⟩ = some (.int .i64 r.t11) ∧ w'.cell? ⟨w.heap.size, 9, none⟩ = some (.int .i64 r.t12) ∧ w'.cell? ⟨w.heap.size, 10, none⟩ = some (.int .i64 r.t20) ∧ w'.cell? ⟨w.heap.size, 11, none⟩ = some (.int .i64 r.t21) ∧ w'.cell? ⟨w.heap.size, 12, none⟩ = some (.int .i64 r.t22) ∧ w'.cell? ⟨b, off + i, none⟩ = some (.int .i64 ev))) (by kernel_rfl) ⟨(Below.refl _ _).drew, k0, k1, k2, k3, k4, k5, k6, k7, m0, m1, m2, m3, m4, m5, m6, m7, m8, m9, m10, m11, m12, g0⟩ (fun hh => ?_)
            clear k0 k1 k2 k3 k4 k5 k6 k7 m0 m1 m2 m3 m4 m5 m6 m7 m8 m9 m10 m11 m12 g0
            refine wpAnyH_take (i := 0) (v := ?vp0) rfl (by kernel_rfl) (by kernel_rfl) (by kernel_rfl) (fun _ _ _ h => h) (Or.inl ⟨by rfl, ?hyp0⟩) (by assumption) ?rep0
            case hyp0 => first | (intro w hSw; (try dsimp only at hSw); go_simp; done) | (intro w hSw; (try dsimp only at hSw); go_simp; with_reducible rfl)
            try simp only [List.getElem_toArray, List.getElem_cons_zero, List.getElem_cons_succ, Act.put, List.setIfInBounds_toArray, List.set_cons_zero, List.set_cons_succ]
            refine wpAnyH_take (i := 1) (v := ?vp1) rfl (by kernel_rfl) (by kernel_rfl) (by kernel_rfl) (fun _ _ _ h => h) (Or.inl ⟨by rfl, ?hyp1⟩) (by assumption) ?rep1
            case hyp1 => first | (intro w hSw; (try dsimp only at hSw); go_simp; done) | (intro w hSw; (try dsimp only at hSw); go_simp; with_reducible rfl)
            try simp only [List.getElem_toArray, List.getElem_cons_zero, List.getElem_cons_succ, Act.put, List.setIfInBounds_toArray, List.set_cons_zero, List.set_cons_succ]
            refine wpAnyH_take (i := 2) (v := ?vp2) rfl (by kernel_rfl) (by kernel_rfl) (by kernel_rfl) (fun _ _ _ h => h) (Or.inl ⟨by rfl, ?hyp2⟩) (by assumption) ?rep2
            case hyp2 => first | (intro w hSw; (try dsimp only at hSw); go_simp; done) | (intro w hSw; (try dsimp only at hSw); go_simp; with_reducible rfl)
            try simp only [List.getElem_toArray, List.getElem_cons_zero, List.getElem_cons_succ, Act.put, List.setIfInBounds_toArray, List.set_cons_zero, List.set_cons_succ]
            refine wpAnyH_take (i := 3) (v := ?vp3) rfl (by kernel_rfl) (by kernel_rfl) (by kernel_rfl) (fun _ _ _ h => h) (Or.inl ⟨by rfl, ?hyp3⟩) (by assumption) ?rep3
            case hyp3 => first | (intro w hSw; (try dsimp only at hSw); go_simp; done) | (intro w hSw; (try dsimp only at hSw); go_simp; with_reducible rfl)
            try simp only [List.getElem_toArray, List.getElem_cons_zero, List.getElem_cons_succ, Act.put, List.setIfInBounds_toArray, List.set_cons_zero, List.set_cons_succ]
            refine wpAnyH_take (i := 4) (v := ?vp4) rfl (by kernel_rfl) (by kernel_rfl) (by kernel_rfl) (fun _ _ _ h => h) (Or.inl ⟨by rfl, ?hyp4⟩) (by assumption) ?rep4
            case hyp4 => first | (intro w hSw; (try dsimp only at hSw); go_simp; done) | (intro w hSw; (try dsimp only at hSw); go_simp; with_reducible rfl)
            try simp only [List.getElem_toArray, List.getElem_cons_zero, List.getElem_cons_succ, Act.put, List.setIfInBounds_toArray, List.set_cons_zero, List.set_cons_succ]
            refine wpAnyH_take (i := 5) (v := ?vp5) rfl (by kernel_rfl) (by kernel_rfl) (by kernel_rfl) (fun _ _ _ h => h) (Or.inl ⟨by rfl, ?hyp5⟩) (by assumption) ?rep5
            case hyp5 => first | (intro w hSw; (try dsimp only at hSw); go_simp; done) | (intro w hSw; (try dsimp only at hSw); go_simp; with_reducible rfl)
            try simp only [List.getElem_toArray, List.getElem_cons_zero, List.getElem_cons_succ, Act.put, List.setIfInBounds_toArray, List.set_cons_zero, List.set_cons_succ]
            refine wpAnyH_ready (rs := [6, 10]) (by kernel_rfl) (by simp) ?_
            refine AllReadyH.cons rfl (fun K hK => ?_) (AllReadyH.cons rfl (fun K hK => ?_) AllReadyH.nil)
            · go_simp
              go_wp2_with (go_at_call 12; (with_reducible refine (qNext_any r y ev _).mono ?_); rintro e w1 ⟨rfl, hb0⟩)
              refine hK.out _ _ (keepP hb0 hh) (fun hh => ?_)
              clear hK K
              try simp only [List.getElem_toArray, List.getElem_cons_zero, List.getElem_cons_succ, Act.put, List.setIfInBounds_toArray, List.set_cons_zero, List.set_cons_succ]
              have hb : Below wr.heap.size wr w1 := (Below.refl _ _).drew.trans hb0
              have E1 := Lib.hid (blk_keep K1.out hb (blk_lt K1.out))
              have E2 := Lib.hid (blk_keep K2.out hb (blk_lt K2.out))
              have E4 := Lib.hid (blk_keep K4.out hb (blk_lt K4.out))
              have EB := Lib.hid (KB.out.trans (hb.mono KB.out.size))
              clear hb0
              cases hx : next r y ev with
              | none =>
                have HS2 : Hid (play r (es.take (i + 1)) = (y, n)) := by
                  show _ = _
                  rw [HS.out]
                  unfold playStep
                  rw [show (y, n).1 = y from rfl, hx]
                have hE2 : nextE r y ev = (rn0, 51) := by rw [hE1.out, hx]
                clear hx HS hE1
                rw [hE2]
                refine wpAnyH_take (i := 7) (v := ?vpan7) rfl (by kernel_rfl) (by kernel_rfl) (by kernel_rfl) (fun _ _ _ h => h) (Or.inl ⟨by rfl, ?hypan7⟩) (by assumption) ?repan7
                case hypan7 => first | (intro w hSw; (try dsimp only at hSw); go_simp; done) | (intro w hSw; (try dsimp only at hSw); go_simp; with_reducible rfl)
                try simp only [List.getElem_toArray, List.getElem_cons_zero, List.getElem_cons_succ, Act.put, List.setIfInBounds_toArray, List.set_cons_zero, List.set_cons_succ]
                refine wpAnyH_take (i := 8) (v := ?vpan8) rfl (by kernel_rfl) (by kernel_rfl) (by kernel_rfl) (fun _ _ _ h => h) (Or.inl ⟨by rfl, ?hypan8⟩) (by assumption) ?repan8
                case hypan8 => first | (intro w hSw; (try dsimp only at hSw); go_simp; done) | (intro w hSw; (try dsimp only at hSw); go_simp; with_reducible rfl)
                try simp only [List.getElem_toArray, List.getElem_cons_zero, List.getElem_cons_succ, Act.put, List.setIfInBounds_toArray, List.set_cons_zero, List.set_cons_succ]
                refine wpAnyH_take (i := 9) (v := ?vpan9) rfl (by kernel_rfl) (by kernel_rfl) (by kernel_rfl) (fun _ _ _ h => h) (Or.inl ⟨by rfl, ?hypan9⟩) (by assumption) ?repan9
                case hypan9 => first | (intro w hSw; (try dsimp only at hSw); go_simp; done) | (intro w hSw; (try dsimp only at hSw); go_simp; with_reducible rfl)
                try simp only [List.getElem_toArray, List.getElem_cons_zero, List.getElem_cons_succ, Act.put, List.setIfInBounds_toArray, List.set_cons_zero, List.set_cons_succ]
                have HH0 := Lib.hid hh
                refine wpAnyH_ready (rs := [10]) (by kernel_rfl) (by simp) ?_
                refine AllReadyH.cons rfl (fun K hK => ?_) AllReadyH.nil
                go_simp
                refine hK.out _ _ (keepP (below1 _ _) hh) (fun hh => ?_)
                clear hK K
                try simp only [List.getElem_toArray, List.getElem_cons_zero, List.getElem_cons_succ, Act.put, List.setIfInBounds_toArray, List.set_cons_zero, List.set_cons_succ]
                refine wpAnyH_ready (rs := [11]) (by kernel_rfl) (by simp) ?_
                refine AllReadyH.cons rfl (fun K hK => ?_) AllReadyH.nil
                go_simp
                refine hK.out _ _ (keepP (below1 _ _) HH0.out) (fun hh => ?_)
                clear hK K
                try simp only [List.getElem_toArray, List.getElem_cons_zero, List.getElem_cons_succ, Act.put, List.setIfInBounds_toArray, List.set_cons_zero, List.set_cons_succ]
                refine wpAnyH_take (i := 12) (v := ?vpan12) rfl (by kernel_rfl) (by kernel_rfl) (by kernel_rfl) (fun _ _ _ h => h) (Or.inl ⟨by rfl, ?hypan12⟩) (by assumption) ?repan12
                case hypan12 => first | (intro w hSw; (try dsimp only at hSw); go_simp; done) | (intro w hSw; (try dsimp only at hSw); go_simp; with_reducible rfl)
                try simp only [List.getElem_toArray, List.getElem_cons_zero, List.getElem_cons_succ, Act.put, List.setIfInBounds_toArray, List.set_cons_zero, List.set_cons_succ]
                refine wpAnyH_done (by kernel_rfl) ?_ _
                clear hh
                go_wp2_with fail
                exact ⟨⟨i + 1, by have := HLT.out; omega, by go_num, by rw [HS2.out], (heap_alloc_old _ _ (blk_lt E1.out)).trans E1.out, (heap_alloc_old _ _ (blk_lt E2.out)).trans E2.out, by rw [HS2.out]; exact (heap_alloc_old _ _ (blk_lt E4.out)).trans E4.out, ba EB.out⟩, meas_up HLT.out⟩
              | some z =>
                have HS2 : Hid (play r (es.take (i + 1)) = (z, n + 1)) := by
                  show _ = _
                  rw [HS.out]
                  unfold playStep
                  rw [show (y, n).1 = y from rfl, hx]
                have hE2 : nextE r y ev = (z, 0) := by rw [hE1.out, hx]
                clear hx HS hE1
                rw [hE2]
                refine wpAnyH_take (i := 7) (v := ?vpas7) rfl (by kernel_rfl) (by kernel_rfl) (by kernel_rfl) (fun _ _ _ h => h) (Or.inl ⟨by rfl, ?hypas7⟩) (by assumption) ?repas7
                case hypas7 => first | (intro w hSw; (try dsimp only at hSw); go_simp; done) | (intro w hSw; (try dsimp only at hSw); go_simp; with_reducible rfl)
                try simp only [List.getElem_toArray, List.getElem_cons_zero, List.getElem_cons_succ, Act.put, List.setIfInBounds_toArray, List.set_cons_zero, List.set_cons_succ]
                refine wpAnyH_take (i := 8) (v := ?vpas8) rfl (by kernel_rfl) (by kernel_rfl) (by kernel_rfl) (fun _ _ _ h => h) (Or.inl ⟨by rfl, ?hypas8⟩) (by assumption) ?repas8
                case hypas8 => first | (intro w hSw; (try dsimp only at hSw); go_simp; done) | (intro w hSw; (try dsimp only at hSw); go_simp; with_reducible rfl)
                try simp only [List.getElem_toArray, List.getElem_cons_zero, List.getElem_cons_succ, Act.put, List.setIfInBounds_toArray, List.set_cons_zero, List.set_cons_succ]
                refine wpAnyH_take (i := 9) (v := ?vpas9) rfl (by kernel_rfl) (by kernel_rfl) (by kernel_rfl) (fun _ _ _ h => h) (Or.inl ⟨by rfl, ?hypas9⟩) (by assumption) ?repas9
                case hypas9 => first | (intro w hSw; (try dsimp only at hSw); go_simp; done) | (intro w hSw; (try dsimp only at hSw); go_simp; with_reducible rfl)
                try simp only [List.getElem_toArray, List.getElem_cons_zero, List.getElem_cons_succ, Act.put, List.setIfInBounds_toArray, List.set_cons_zero, List.set_cons_succ]
                have HH0 := Lib.hid hh
                refine wpAnyH_ready (rs := [10]) (by kernel_rfl) (by simp) ?_
                refine AllReadyH.cons rfl (fun K hK => ?_) AllReadyH.nil
                go_simp
                refine hK.out _ _ (keepP (below1 _ _) hh) (fun hh => ?_)
                clear hK K
                try simp only [List.getElem_toArray, List.getElem_cons_zero, List.getElem_cons_succ, Act.put, List.setIfInBounds_toArray, List.set_cons_zero, List.set_cons_succ]
                refine wpAnyH_ready (rs := [11]) (by kernel_rfl) (by simp) ?_
                refine AllReadyH.cons rfl (fun K hK => ?_) AllReadyH.nil
                go_simp
                refine hK.out _ _ (keepP (below1 _ _) HH0.out) (fun hh => ?_)
                clear hK K
                try simp only [List.getElem_toArray, List.getElem_cons_zero, List.getElem_cons_succ, Act.put, List.setIfInBounds_toArray, List.set_cons_zero, List.set_cons_succ]
                refine wpAnyH_take (i := 12) (v := ?vpas12) rfl (by kernel_rfl) (by kernel_rfl) (by kernel_rfl) (fun _ _ _ h => h) (Or.inl ⟨by rfl, ?hypas12⟩) (by assumption) ?repas12
                case hypas12 => first | (intro w hSw; (try dsimp only at hSw); go_simp; done) | (intro w hSw; (try dsimp only at hSw); go_simp; with_reducible rfl)
                try simp only [List.getElem_toArray, List.getElem_cons_zero, List.getElem_cons_succ, Act.put, List.setIfInBounds_toArray, List.set_cons_zero, List.set_cons_succ]
                refine wpAnyH_done (by kernel_rfl) ?_ _
                have L4 := Lib.hid ((heap_alloc_old _ (rnQ z) (blk_lt E4.out)).trans E4.out)
                have L2 := Lib.hid ((heap_alloc_old _ (rnQ z) (blk_lt E2.out)).trans E2.out)
                have L1 := Lib.hid ((heap_alloc_old _ (rnQ z) (blk_lt E1.out)).trans E1.out)
                obtain ⟨f0, f1, f2, f3, f4, f5, f6, f7⟩ := rnfg L4.out
                obtain ⟨g0, g1, g2, g3, g4, g5, g6, g7⟩ := rn8g L4.out
                clear hh
                go_wp2_with fail
                refine ⟨⟨i + 1, by have := HLT.out; omega, by go_num, ?_, oth8 L1.out (by have := HSZ.out; omega), oth8 L2.out (by have := HSZ.out; omega), (by rw [HS2.out]; exact set8 L4.out), below_set8 (ba EB.out) (by have := HSZ.out; omega)⟩, meas_up HLT.out⟩
                rw [HS2.out]
                go_num
            · go_simp
              refine hK.out _ _ (keepP (below1 _ _) hh) (fun hh => ?_)
              clear hK K
              try simp only [List.getElem_toArray, List.getElem_cons_zero, List.getElem_cons_succ, Act.put, List.setIfInBounds_toArray, List.set_cons_zero, List.set_cons_succ]
              refine wpAnyH_ready (rs := [6]) (by kernel_rfl) (by simp) ?_
              refine AllReadyH.cons rfl (fun K hK => ?_) AllReadyH.nil
              go_simp
              go_wp2_with (go_at_call 12; (with_reducible refine (qNext_any r y ev _).mono ?_); rintro e w1 ⟨rfl, hb0⟩)
              refine hK.out _ _ (keepP hb0 hh) (fun hh => ?_)
              clear hK K
              try simp only [List.getElem_toArray, List.getElem_cons_zero, List.getElem_cons_succ, Act.put, List.setIfInBounds_toArray, List.set_cons_zero, List.set_cons_succ]
              have hN : (wr.drew.alloc (.cells #[.int .i64 0, .int .i64 0, .int .i64 0, .int .i64 0, .bool false, .bool false, .bool false, .bool false] 34)).heap[wr.heap.size]? = some (.cells (rnA rn0) 34 (0, 0)) := blk_new wr.drew _ _
              have hlN : wr.heap.size < (wr.drew.alloc (.cells #[.int .i64 0, .int .i64 0, .int .i64 0, .int .i64 0, .bool false, .bool false, .bool false, .bool false] 34)).heap.size := blk_lt hN
              have hb : Below wr.heap.size wr w1 := btq ((Below.refl _ _).drew.alloc (Nat.le_refl _) _) hb0
              have E1 := Lib.hid (blk_keep K1.out hb (blk_lt K1.out))
              have E2 := Lib.hid (blk_keep K2.out hb (blk_lt K2.out))
              have E4 := Lib.hid (blk_keep K4.out hb (blk_lt K4.out))
              have EB := Lib.hid (KB.out.trans (hb.mono KB.out.size))
              have E5 := Lib.hid (blk_keep hN hb0 hlN)
              obtain ⟨f0, f1, f2, f3, f4, f5, f6, f7⟩ := rnfg E5.out
              obtain ⟨g0, g1, g2, g3, g4, g5, g6, g7⟩ := rn8g E5.out
              have HBL : Hid (b < wr.heap.size) := by
                show _ < _
                have := KB.out.size
                omega
              clear hb0 hN hlN
              cases hx : next r y ev with
              | none =>
                have HS2 : Hid (play r (es.take (i + 1)) = (y, n)) := by
                  show _ = _
                  rw [HS.out]
                  unfold playStep
                  rw [show (y, n).1 = y from rfl, hx]
                have hE2 : nextE r y ev = (rn0, 51) := by rw [hE1.out, hx]
                clear hx HS hE1
                rw [hE2]
                refine wpAnyH_take (i := 7) (v := ?vpbn7) rfl (by kernel_rfl) (by kernel_rfl) (by kernel_rfl) (fun _ _ _ h => h) (Or.inl ⟨by rfl, ?hypbn7⟩) (by assumption) ?repbn7
                case hypbn7 => first | (intro w hSw; (try dsimp only at hSw); go_simp; done) | (intro w hSw; (try dsimp only at hSw); go_simp; with_reducible rfl)
                try simp only [List.getElem_toArray, List.getElem_cons_zero, List.getElem_cons_succ, Act.put, List.setIfInBounds_toArray, List.set_cons_zero, List.set_cons_succ]
                refine wpAnyH_take (i := 8) (v := ?vpbn8) rfl (by kernel_rfl) (by kernel_rfl) (by kernel_rfl) (fun _ _ _ h => h) (Or.inl ⟨by rfl, ?hypbn8⟩) (by assumption) ?repbn8
                case hypbn8 => first | (intro w hSw; (try dsimp only at hSw); go_simp; done) | (intro w hSw; (try dsimp only at hSw); go_simp; with_reducible rfl)
                try simp only [List.getElem_toArray, List.getElem_cons_zero, List.getElem_cons_succ, Act.put, List.setIfInBounds_toArray, List.set_cons_zero, List.set_cons_succ]
                refine wpAnyH_take (i := 9) (v := ?vpbn9) rfl (by kernel_rfl) (by kernel_rfl) (by kernel_rfl) (fun _ _ _ h => h) (Or.inl ⟨by rfl, ?hypbn9⟩) (by assumption) ?repbn9
                case hypbn9 => first | (intro w hSw; (try dsimp only at hSw); go_simp; done) | (intro w hSw; (try dsimp only at hSw); go_simp; with_reducible rfl)
                try simp only [List.getElem_toArray, List.getElem_cons_zero, List.getElem_cons_succ, Act.put, List.setIfInBounds_toArray, List.set_cons_zero, List.set_cons_succ]
                refine wpAnyH_ready (rs := [11]) (by kernel_rfl) (by simp) ?_
                refine AllReadyH.cons rfl (fun K hK => ?_) AllReadyH.nil
                go_simp
                refine hK.out _ _ (keepPs (Nat.le_refl _) (blk_lt K4.out) (blk_lt K1.out) HBL.out (below_set8 (Below.refl _ _) (Nat.le_refl _)) hh) (fun hh => ?_)
                clear hK K
                try simp only [List.getElem_toArray, List.getElem_cons_zero, List.getElem_cons_succ, Act.put, List.setIfInBounds_toArray, List.set_cons_zero, List.set_cons_succ]
                refine wpAnyH_take (i := 12) (v := ?vpbn12) rfl (by kernel_rfl) (by kernel_rfl) (by kernel_rfl) (fun _ _ _ h => h) (Or.inl ⟨by rfl, ?hypbn12⟩) (by assumption) ?repbn12
                case hypbn12 => first | (intro w hSw; (try dsimp only at hSw); go_simp; done) | (intro w hSw; (try dsimp only at hSw); go_simp; with_reducible rfl)
                try simp only [List.getElem_toArray, List.getElem_cons_zero, List.getElem_cons_succ, Act.put, List.setIfInBounds_toArray, List.set_cons_zero, List.set_cons_succ]
                refine wpAnyH_done (by kernel_rfl) ?_ _
                have M1 := Lib.hid (oth8 (u0 := .int .i64 rn0.ph) (u1 := .int .i64 rn0.be) (u2 := .int .i64 rn0.mi) (u3 := .int .i64 rn0.wa) (u4 := .bool rn0.l0) (u5 := .bool rn0.l1) (u6 := .bool rn0.l2) (u7 := .bool rn0.te) E1.out (Nat.ne_of_lt (blk_lt K1.out)))
                have M2 := Lib.hid (oth8 (u0 := .int .i64 rn0.ph) (u1 := .int .i64 rn0.be) (u2 := .int .i64 rn0.mi) (u3 := .int .i64 rn0.wa) (u4 := .bool rn0.l0) (u5 := .bool rn0.l1) (u6 := .bool rn0.l2) (u7 := .bool rn0.te) E2.out (Nat.ne_of_lt (blk_lt K2.out)))
                have M4 := Lib.hid (oth8 (u0 := .int .i64 rn0.ph) (u1 := .int .i64 rn0.be) (u2 := .int .i64 rn0.mi) (u3 := .int .i64 rn0.wa) (u4 := .bool rn0.l0) (u5 := .bool rn0.l1) (u6 := .bool rn0.l2) (u7 := .bool rn0.te) E4.out (Nat.ne_of_lt (blk_lt K4.out)))
                have M5 := Lib.hid (set8 (u0 := .int .i64 rn0.ph) (u1 := .int .i64 rn0.be) (u2 := .int .i64 rn0.mi) (u3 := .int .i64 rn0.wa) (u4 := .bool rn0.l0) (u5 := .bool rn0.l1) (u6 := .bool rn0.l2) (u7 := .bool rn0.te) E5.out)
                have MB := Lib.hid (below_set8 (u0 := .int .i64 rn0.ph) (u1 := .int .i64 rn0.be) (u2 := .int .i64 rn0.mi) (u3 := .int .i64 rn0.wa) (u4 := .bool rn0.l0) (u5 := .bool rn0.l1) (u6 := .bool rn0.l2) (u7 := .bool rn0.te) EB.out KB.out.size)
                clear hh f0 f1 f2 f3 f4 f5 f6 f7 g0 g1 g2 g3 g4 g5 g6 g7
                go_wp2_with fail
                exact ⟨⟨i + 1, by have := HLT.out; omega, by go_num, by rw [HS2.out], M1, M2, by rw [HS2.out]; exact M4, MB⟩, meas_up HLT.out⟩
              | some z =>
                have HS2 : Hid (play r (es.take (i + 1)) = (z, n + 1)) := by
                  show _ = _
                  rw [HS.out]
                  unfold playStep
                  rw [show (y, n).1 = y from rfl, hx]
                have hE2 : nextE r y ev = (z, 0) := by rw [hE1.out, hx]
                clear hx HS hE1
                rw [hE2]
                refine wpAnyH_take (i := 7) (v := ?vpbs7) rfl (by kernel_rfl) (by kernel_rfl) (by kernel_rfl) (fun _ _ _ h => h) (Or.inl ⟨by rfl, ?hypbs7⟩) (by assumption) ?repbs7
                case hypbs7 => first | (intro w hSw; (try dsimp only at hSw); go_simp; done) | (intro w hSw; (try dsimp only at hSw); go_simp; with_reducible rfl)
                try simp only [List.getElem_toArray, List.getElem_cons_zero, List.getElem_cons_succ, Act.put, List.setIfInBounds_toArray, List.set_cons_zero, List.set_cons_succ]
                refine wpAnyH_take (i := 8) (v := ?vpbs8) rfl (by kernel_rfl) (by kernel_rfl) (by kernel_rfl) (fun _ _ _ h => h) (Or.inl ⟨by rfl, ?hypbs8⟩) (by assumption) ?repbs8
                case hypbs8 => first | (intro w hSw; (try dsimp only at hSw); go_simp; done) | (intro w hSw; (try dsimp only at hSw); go_simp; with_reducible rfl)
                try simp only [List.getElem_toArray, List.getElem_cons_zero, List.getElem_cons_succ, Act.put, List.setIfInBounds_toArray, List.set_cons_zero, List.set_cons_succ]
                refine wpAnyH_take (i := 9) (v := ?vpbs9) rfl (by kernel_rfl) (by kernel_rfl) (by kernel_rfl) (fun _ _ _ h => h) (Or.inl ⟨by rfl, ?hypbs9⟩) (by assumption) ?repbs9
                case hypbs9 => first | (intro w hSw; (try dsimp only at hSw); go_simp; done) | (intro w hSw; (try dsimp only at hSw); go_simp; with_reducible rfl)
                try simp only [List.getElem_toArray, List.getElem_cons_zero, List.getElem_cons_succ, Act.put, List.setIfInBounds_toArray, List.set_cons_zero, List.set_cons_succ]
                refine wpAnyH_ready (rs := [11]) (by kernel_rfl) (by simp) ?_
                refine AllReadyH.cons rfl (fun K hK => ?_) AllReadyH.nil
                go_simp
                refine hK.out _ _ (keepPs (Nat.le_refl _) (blk_lt K4.out) (blk_lt K1.out) HBL.out (below_set8 (Below.refl _ _) (Nat.le_refl _)) hh) (fun hh => ?_)
                clear hK K
                try simp only [List.getElem_toArray, List.getElem_cons_zero, List.getElem_cons_succ, Act.put, List.setIfInBounds_toArray, List.set_cons_zero, List.set_cons_succ]
                refine wpAnyH_take (i := 12) (v := ?vpbs12) rfl (by kernel_rfl) (by kernel_rfl) (by kernel_rfl) (fun _ _ _ h => h) (Or.inl ⟨by rfl, ?hypbs12⟩) (by assumption) ?repbs12
                case hypbs12 => first | (intro w hSw; (try dsimp only at hSw); go_simp; done) | (intro w hSw; (try dsimp only at hSw); go_simp; with_reducible rfl)
                try simp only [List.getElem_toArray, List.getElem_cons_zero, List.getElem_cons_succ, Act.put, List.setIfInBounds_toArray, List.set_cons_zero, List.set_cons_succ]
                refine wpAnyH_done (by kernel_rfl) ?_ _
                have M1 := Lib.hid (oth8 (u0 := .int .i64 z.ph) (u1 := .int .i64 z.be) (u2 := .int .i64 z.mi) (u3 := .int .i64 z.wa) (u4 := .bool z.l0) (u5 := .bool z.l1) (u6 := .bool z.l2) (u7 := .bool z.te) E1.out (Nat.ne_of_lt (blk_lt K1.out)))
                have M2 := Lib.hid (oth8 (u0 := .int .i64 z.ph) (u1 := .int .i64 z.be) (u2 := .int .i64 z.mi) (u3 := .int .i64 z.wa) (u4 := .bool z.l0) (u5 := .bool z.l1) (u6 := .bool z.l2) (u7 := .bool z.te) E2.out (Nat.ne_of_lt (blk_lt K2.out)))
                have M4 := Lib.hid (oth8 (u0 := .int .i64 z.ph) (u1 := .int .i64 z.be) (u2 := .int .i64 z.mi) (u3 := .int .i64 z.wa) (u4 := .bool z.l0) (u5 := .bool z.l1) (u6 := .bool z.l2) (u7 := .bool z.te) E4.out (Nat.ne_of_lt (blk_lt K4.out)))
                have M5 := Lib.hid (set8 (u0 := .int .i64 z.ph) (u1 := .int .i64 z.be) (u2 := .int .i64 z.mi) (u3 := .int .i64 z.wa) (u4 := .bool z.l0) (u5 := .bool z.l1) (u6 := .bool z.l2) (u7 := .bool z.te) E5.out)
                have MB := Lib.hid (below_set8 (u0 := .int .i64 z.ph) (u1 := .int .i64 z.be) (u2 := .int .i64 z.mi) (u3 := .int .i64 z.wa) (u4 := .bool z.l0) (u5 := .bool z.l1) (u6 := .bool z.l2) (u7 := .bool z.te) EB.out KB.out.size)
                clear hh f0 f1 f2 f3 f4 f5 f6 f7 g0 g1 g2 g3 g4 g5 g6 g7
                obtain ⟨g0, g1, g2, g3, g4, g5, g6, g7⟩ := rn8g (x := z) M5.out
                obtain ⟨f0, f1, f2, f3, f4, f5, f6, f7⟩ := rnfg M4.out
                obtain ⟨k0, k1, k2, k3, k4, k5, k6, k7⟩ := rn8g M4.out
                go_wp2_with fail
                refine ⟨⟨i + 1, by have := HLT.out; omega, by go_num, ?_, oth8 M1.out (by have := HSZ.out; omega), oth8 M2.out (by have := HSZ.out; omega), (by rw [HS2.out]; exact set8 M4.out), below_set8 MB.out (by have := HSZ.out; omega)⟩, meas_up HLT.out⟩
                rw [HS2.out]
                go_num
          · obtain rfl : i = es.length := by omega
            rw [List.take_length] at *
            generalize play r es = s at *
            obtain ⟨y, n⟩ := s
            have HQ4 : Hid (q = (y, n, 0)) := HQ3.out
            clear HQ3
            obtain ⟨k0, k1, k2, k3, k4, k5, k6, k7⟩ := rn8g K4.out
            obtain ⟨f0, f1, f2, f3, f4, f5, f6, f7⟩ := rnfg (x := ⟨0, 0, 0, 0, false, false, false, false⟩) K2.out
            obtain ⟨g0, g1, g2, g3, g4, g5, g6, g7⟩ := rn8g (x := ⟨0, 0, 0, 0, false, false, false, false⟩) K2.out
            go_wp2_with fail
            obtain ⟨h0, h1, h2, h3, h4, h5, h6, h7⟩ := rn8g (x := y) (set8 (u0 := .int .i64 y.ph) (u1 := .int .i64 y.be) (u2 := .int .i64 y.mi) (u3 := .int .i64 y.wa) (u4 := .bool y.l0) (u5 := .bool y.l1) (u6 := .bool y.l2) (u7 := .bool y.te) K2.out)
            refine bodyPost_ret (v := .tuple #[rnV y, .int .i64 n, .int .i64 0]) (by simp [results, Try.results9, go_sem, h0, h1, h2, h3, h4, h5, h6, h7]) rfl ⟨?_, below_set8 KB.out (by omega)⟩
            rw [HQ4.out]
theorem qPlay_any (r : Ru) (es : List Int) (ve : Value) (w : World) (hv : IntsOf w ve es) : Calls Try.prog 9 #[ruV r, ve] w (RetPl (playE r es) w) := by
  unfold playE
  cases h : rulesOk r with
  | false => exact qPlay_bad r ve h w
  | true => exact qPlay_good r es ve h w hv
end Go.Proofs.Ytmfochplnchgcaa

/- THE WALKS of law05.CureNexts and law05.CurePlays; printed by wip/tools/gen_cy.py. -/
namespace Go.Proofs.Ytmfochplnchgcaa
open Go.RowKit

theorem keepL {W a b : World} {B1 B2 B3 : Nat} {u0 u1 u2 u3 u4 u5 u6 u7 u8 u9 u10 u11 u12 v0 v1 v2 v3 v4 v5 v6 v7 z0 z1 z2 z3 z4 z5 z6 z7 : Value} (hb : Below a.heap.size a b) (h : Below W.heap.size W a ∧ a.cell? ⟨B1, 0, none⟩ = some (u0) ∧ a.cell? ⟨B1, 1, none⟩ = some (u1) ∧ a.cell? ⟨B1, 2, none⟩ = some (u2) ∧ a.cell? ⟨B1, 3, none⟩ = some (u3) ∧ a.cell? ⟨B1, 4, none⟩ = some (u4) ∧ a.cell? ⟨B1, 5, none⟩ = some (u5) ∧ a.cell? ⟨B1, 6, none⟩ = some (u6) ∧ a.cell? ⟨B1, 7, none⟩ = some (u7) ∧ a.cell? ⟨B1, 8, none⟩ = some (u8) ∧ a.cell? ⟨B1, 9, none⟩ = some (u9) ∧ a.cell? ⟨B1, 10, none⟩ = some (u10) ∧ a.cell? ⟨B1, 11, none⟩ = some (u11) ∧ a.cell? ⟨B1, 12, none⟩ = some (u12) ∧ a.cell? ⟨B2, 0, none⟩ = some (v0) ∧ a.cell? ⟨B2, 1, none⟩ = some (v1) ∧ a.cell? ⟨B2, 2, none⟩ = some (v2) ∧ a.cell? ⟨B2, 3, none⟩ = some (v3) ∧ a.cell? ⟨B2, 4, none⟩ = some (v4) ∧ a.cell? ⟨B2, 5, none⟩ = some (v5) ∧ a.cell? ⟨B2, 6, none⟩ = some (v6) ∧ a.cell? ⟨B2, 7, none⟩ = some (v7) ∧ a.cell? ⟨B3, 0, none⟩ = some (z0) ∧ a.cell? ⟨B3, 1, none⟩ = some (z1) ∧ a.cell? ⟨B3, 2, none⟩ = some (z2) ∧ a.cell? ⟨B3, 3, none⟩ = some (z3) ∧ a.cell? ⟨B3, 4, none⟩ = some (z4) ∧ a.cell? ⟨B3, 5, none⟩ = some (z5) ∧ a.cell? ⟨B3, 6, none⟩ = some (z6) ∧ a.cell? ⟨B3, 7, none⟩ = some (z7)) : Below W.heap.size W b ∧ b.cell? ⟨B1, 0, none⟩ = some (u0) ∧ b.cell? ⟨B1, 1, none⟩ = some (u1) ∧ b.cell? ⟨B1, 2, none⟩ = some (u2) ∧ b.cell? ⟨B1, 3, none⟩ = some (u3) ∧ b.cell? ⟨B1, 4, none⟩ = some (u4) ∧ b.cell? ⟨B1, 5, none⟩ = some (u5) ∧ b.cell? ⟨B1, 6, none⟩ = some (u6) ∧ b.cell? ⟨B1, 7, none⟩ = some (u7) ∧ b.cell? ⟨B1, 8, none⟩ = some (u8) ∧ b.cell? ⟨B1, 9, none⟩ = some (u9) ∧ b.cell? ⟨B1, 10, none⟩ = some (u10) ∧ b.cell? ⟨B1, 11, none⟩ = some (u11) ∧ b.cell? ⟨B1, 12, none⟩ = some (u12) ∧ b.cell? ⟨B2, 0, none⟩ = some (v0) ∧ b.cell? ⟨B2, 1, none⟩ = some (v1) ∧ b.cell? ⟨B2, 2, none⟩ = some (v2) ∧ b.cell? ⟨B2, 3, none⟩ = some (v3) ∧ b.cell? ⟨B2, 4, none⟩ = some (v4) ∧ b.cell? ⟨B2, 5, none⟩ = some (v5) ∧ b.cell? ⟨B2, 6, none⟩ = some (v6) ∧ b.cell? ⟨B2, 7, none⟩ = some (v7) ∧ b.cell? ⟨B3, 0, none⟩ = some (z0) ∧ b.cell? ⟨B3, 1, none⟩ = some (z1) ∧ b.cell? ⟨B3, 2, none⟩ = some (z2) ∧ b.cell? ⟨B3, 3, none⟩ = some (z3) ∧ b.cell? ⟨B3, 4, none⟩ = some (z4) ∧ b.cell? ⟨B3, 5, none⟩ = some (z5) ∧ b.cell? ⟨B3, 6, none⟩ = some (z6) ∧ b.cell? ⟨B3, 7, none⟩ = some (z7) := by
  obtain ⟨h0, x0, x1, x2, x3, x4, x5, x6, x7, x8, x9, x10, x11, x12, y0, y1, y2, y3, y4, y5, y6, y7, t0, t1, t2, t3, t4, t5, t6, t7⟩ := h
  have e : ∀ B j v, a.cell? ⟨B, j, none⟩ = some v → b.cell? ⟨B, j, none⟩ = some v := fun B j v h => (hb.cell (p := ⟨B, j, none⟩) (World.block_lt_of_cell? (h := h))).trans h
  exact ⟨h0.trans (hb.mono h0.size), e _ _ _ x0, e _ _ _ x1, e _ _ _ x2, e _ _ _ x3, e _ _ _ x4, e _ _ _ x5, e _ _ _ x6, e _ _ _ x7, e _ _ _ x8, e _ _ _ x9, e _ _ _ x10, e _ _ _ x11, e _ _ _ x12, e _ _ _ y0, e _ _ _ y1, e _ _ _ y2, e _ _ _ y3, e _ _ _ y4, e _ _ _ y5, e _ _ _ y6, e _ _ _ y7, e _ _ _ t0, e _ _ _ t1, e _ _ _ t2, e _ _ _ t3, e _ _ _ t4, e _ _ _ t5, e _ _ _ t6, e _ _ _ t7⟩
set_option maxRecDepth 100000 in
set_option maxHeartbeats 2000000 in
theorem is_any (x : Rn) (w : World) : Calls Try.prog 10 #[rnV x, rnV x] w (RetBW true ((w.alloc (rnO x)).alloc (rnQ x))) := by
  have hq := eql_rrun x.ph x.be x.mi x.wa x.l0 x.l1 x.l2 x.te
  go_enter Try.func10, Try.ntmps10
  go_wp2_with fail
  go_ret
  exact ⟨rfl, rfl⟩
set_option maxRecDepth 100000 in
set_option maxHeartbeats 2000000 in
theorem curePlays_any (r : Ru) (es : List Int) (v : Value) (w : World) (hv : IntsOf w v es) : Calls Try.prog 3 #[ruV r, v] w (RetBool true w) := by
  have HV := Lib.hid hv
  obtain ⟨ao, cap, rfl, _⟩ := hv
  by_cases h1 : 300 < es.length
  · have t1 : decide ((es.length : Int) > 300) = true := by simp; omega
    clear h1
    go_enter Try.func3, Try.ntmps3
    go_wp2_with fail
    refine (awake05_any _).mono ?_
    rintro e w1 ⟨rfl, hb⟩
    go_wp2_with fail
    go_ret
    exact ⟨rfl, bt (below1 _ _) hb⟩
  · have t1 : decide ((es.length : Int) > 300) = false := by simp; omega
    clear h1
    go_enter Try.func3, Try.ntmps3
    go_wp2_with fail
    have hal := below1 w (.cells (ruA r) 25)
    generalize hW0 : w.alloc (.cells (ruA r) 25) = W at *
    have hB : W.heap[w.heap.size]? = some (.cells (ruA r) 25 (0, 0)) := by rw [← hW0]; exact blk_new _ _ _
    have HAL := Lib.hid hal
    have HB := Lib.hid hB
    clear hW0 hal hB
    refine (Play_any r es _ _ (HV.out.below HAL.out)).mono ?_
    rintro e w1 ⟨rfl, hb⟩
    obtain ⟨q, hq⟩ : ∃ q, q = playE r es := ⟨_, rfl⟩
    rw [← hq]
    obtain ⟨y, n, err⟩ := q
    have HQ := Lib.hid hq
    have k1 := blk_keep HB.out (ba (o := rnO y) hb) (blk_lt HB.out)
    have k3 := blk_new w1 (rnA y) 30
    have HB1 := Lib.hid (bt HAL.out (ba (o := rnO y) hb))
    obtain ⟨r0, r1, r2, r3, r4, r5, r6, r7, r8, r9, r10, r11, r12⟩ := ru13g k1
    have K3 := Lib.hid k3
    clear hb k1 k3 hq
    go_wp2_with fail
    refine (qPlay_any r es _ _ (HV.out.below HB1.out)).mono ?_
    rintro e w2 ⟨rfl, hb⟩
    rw [← HQ.out]
    have HB2 := Lib.hid (bt HB1.out (ba (o := rnQ y) hb))
    obtain ⟨y0, y1, y2, y3, y4, y5, y6, y7⟩ := rn8g (blk_keep K3.out (ba (o := rnQ y) hb) (blk_lt K3.out))
    obtain ⟨z0, z1, z2, z3, z4, z5, z6, z7⟩ := rn8g (blk_new w2 (rnA y) 34)
    clear r0 r1 r2 r3 r4 r5 r6 r7 r8 r9 r10 r11 r12 hb K3 HQ
    go_wp2_with fail
    refine (is_any y _).mono ?_
    rintro e w3 ⟨rfl, rfl⟩
    clear y0 y1 y2 y3 y4 y5 y6 y7 z0 z1 z2 z3 z4 z5 z6 z7
    go_wp2_with fail
    refine (awake05_any _).mono ?_
    rintro e w4 ⟨rfl, hb⟩
    have HB4 := Lib.hid (bt HB2.out (bt (below2 _ _ _) hb))
    clear hb
    go_wp2_with fail
    go_ret
    exact ⟨rfl, HB4.out⟩
set_option maxRecDepth 100000 in
set_option maxHeartbeats 2000000 in
theorem cureNexts_any (r : Ru) (x : Rn) (e : Int) (w : World) : Calls Try.prog 4 #[ruV r, rnV x, .int .i64 e] w (RetBool true w) := by
  go_enter Try.func4, Try.ntmps4
  go_wp2_with fail
  generalize hW0 : (w.alloc (.cells (ruA r) 25)).alloc (.cells (rnA x) 30) = W at *
  obtain ⟨hal, hB1, hB2, hWs⟩ := bx2 w _ _ W hW0.symm
  have HAL := Lib.hid hal
  clear hW0 hal hWs
  refine (Next_any r x e _).mono ?_
  rintro e' w1 ⟨rfl, hb⟩
  obtain ⟨q, hq⟩ : ∃ q, q = nextE r x e := ⟨_, rfl⟩
  rw [← hq]
  obtain ⟨y, err⟩ := q
  have HQ := Lib.hid hq
  have k1 := blk_keep hB1 (ba (o := rnO y) hb) (blk_lt hB1)
  have k2 := blk_keep hB2 (ba (o := rnO y) hb) (blk_lt hB2)
  have k3 := blk_new w1 (rnA y) 30
  have HB1 := Lib.hid (bt HAL.out (ba (o := rnO y) hb))
  obtain ⟨r0, r1, r2, r3, r4, r5, r6, r7, r8, r9, r10, r11, r12⟩ := ru13g k1
  obtain ⟨x0, x1, x2, x3, x4, x5, x6, x7⟩ := rn8g k2
  have K1 := Lib.hid k1
  have K2 := Lib.hid k2
  have K3 := Lib.hid k3
  clear hB1 hB2 hb k1 k2 k3 hq
  go_wp2_with fail
  refine (qNext_any r x e _).mono ?_
  rintro e' w2 ⟨rfl, hb⟩
  rw [← HQ.out]
  have HB2 := Lib.hid (bt HB1.out (ba (o := rnQ y) hb))
  have hs1 := hb.size
  rw [World.size_alloc] at hs1
  obtain ⟨r0', r1', r2', r3', r4', r5', r6', r7', r8', r9', r10', r11', r12'⟩ := ru13g (blk_keep K1.out (ba (o := rnQ y) hb) (blk_lt K1.out))
  obtain ⟨y0, y1, y2, y3, y4, y5, y6, y7⟩ := rn8g (blk_keep K3.out (ba (o := rnQ y) hb) (blk_lt K3.out))
  obtain ⟨z0, z1, z2, z3, z4, z5, z6, z7⟩ := rn8g (blk_new w2 (rnA y) 34)
  clear r0 r1 r2 r3 r4 r5 r6 r7 r8 r9 r10 r11 r12 x0 x1 x2 x3 x4 x5 x6 x7 hb hs1 K1 K2 K3 HQ
  go_wp2_with fail
  generalize hW : w2.alloc (.cells (rnA y) 34) = W at *
  clear hW
  refine wp_region_held_drew (S := (fun w' => Below W.heap.size W w' ∧ w'.cell? ⟨w.heap.size, 0, none⟩ = some (.int .i64 r.m0) ∧ w'.cell? ⟨w.heap.size, 1, none⟩ = some (.int .i64 r.m1) ∧ w'.cell? ⟨w.heap.size, 2, none⟩ = some (.int .i64 r.m2) ∧ w'.cell? ⟨w.heap.size, 3, none⟩ = some (.int .i64 r.pa) ∧ w'.cell? ⟨w.heap.size, 4, none⟩ = some (.int .i64 r.t00) ∧ w'.cell? ⟨w.heap.size, 5, none⟩ = some (.int .i64 r.t01) ∧ w'.cell? ⟨w.heap.size, 6, none⟩ = some (.int .i64 r.t02) ∧ w'.cell? ⟨w.heap.size, 7, none⟩ = some (.int .i64 r.t10) ∧ w'.cell? ⟨w.heap.size, 8, none⟩ = some (.int .i64 r.t11) ∧ w'.cell? ⟨w.heap.size, 9, none⟩ = some (.int .i64 r.t12) ∧ w'.cell? ⟨w.heap.size, 10, none⟩ = some (.int .i64 r.t20) ∧ w'.cell? ⟨w.heap.size, 11, none⟩ = some (.int .i64 r.t21) ∧ w'.cell? ⟨w.heap.size, 12, none⟩ = some (.int .i64 r.t22) ∧ w'.cell? ⟨w1.heap.size, 0, none⟩ = some (.int .i64 y.ph) ∧ w'.cell? ⟨w1.heap.size, 1, none⟩ = some (.int .i64 y.be) ∧ w'.cell? ⟨w1.heap.size, 2, none⟩ = some (.int .i64 y.mi) ∧ w'.cell? ⟨w1.heap.size, 3, none⟩ = some (.int .i64 y.wa) ∧ w'.cell? ⟨w1.heap.size, 4, none⟩ = some (.bool y.l0) ∧ w'.cell? ⟨w1.heap.size, 5, none⟩ = some (.bool y.l1) ∧ w'.cell? ⟨w1.heap.size, 6, none⟩ = some (.bool y.l2) ∧ w'.cell? ⟨w1.heap.size, 7, none⟩ = some (.bool y.te) ∧ w'.cell? ⟨w2.heap.size, 0, none⟩ = some (.int .i64 y.ph) ∧ w'.cell? ⟨w2.heap.size, 1, none⟩ = some (.int .i64 y.be) ∧ w'.cell? ⟨w2.heap.size, 2, none⟩ = some (.int .i64 y.mi) ∧ w'.cell? ⟨w2.heap.size, 3, none⟩ = some (.int .i64 y.wa) ∧ w'.cell? ⟨w2.heap.size, 4, none⟩ = some (.bool y.l0) ∧ w'.cell? ⟨w2.heap.size, 5, none⟩ = some (.bool y.l1) ∧ w'.cell? ⟨w2.heap.size, 6, none⟩ = some (.bool y.l2) ∧ w'.cell? ⟨w2.heap.size, 7, none⟩ = some (.bool y.te))) (by kernel_rfl) ⟨(Below.refl _ _).drew, r0', r1', r2', r3', r4', r5', r6', r7', r8', r9', r10', r11', r12', y0, y1, y2, y3, y4, y5, y6, y7, z0, z1, z2, z3, z4, z5, z6, z7⟩ (fun hh => ?_)
  clear r0' r1' r2' r3' r4' r5' r6' r7' r8' r9' r10' r11' r12' y0 y1 y2 y3 y4 y5 y6 y7 z0 z1 z2 z3 z4 z5 z6 z7
  refine wpAnyH_take (i := 0) (v := ?vp0) rfl (by kernel_rfl) (by kernel_rfl) (by kernel_rfl) (fun _ _ _ h => h) (Or.inl ⟨by rfl, ?hyp0⟩) (by assumption) ?rep0
  case hyp0 => first | (intro w hSw; (try dsimp only at hSw); go_simp; done) | (intro w hSw; (try dsimp only at hSw); go_simp; with_reducible rfl)
  try simp only [List.getElem_toArray, List.getElem_cons_zero, List.getElem_cons_succ, Act.put, List.setIfInBounds_toArray, List.set_cons_zero, List.set_cons_succ]
  refine wpAnyH_take (i := 2) (v := ?vp2) rfl (by kernel_rfl) (by kernel_rfl) (by kernel_rfl) (fun _ _ _ h => h) (Or.inl ⟨by rfl, ?hyp2⟩) (by assumption) ?rep2
  case hyp2 => first | (intro w hSw; (try dsimp only at hSw); go_simp; done) | (intro w hSw; (try dsimp only at hSw); go_simp; with_reducible rfl)
  try simp only [List.getElem_toArray, List.getElem_cons_zero, List.getElem_cons_succ, Act.put, List.setIfInBounds_toArray, List.set_cons_zero, List.set_cons_succ]
  refine wpAnyH_ready (rs := [1]) (by kernel_rfl) (by simp) ?_
  refine AllReadyH.cons rfl (fun K hK => ?_) AllReadyH.nil
  go_simp
  go_wp2_with (go_at_call 13; (with_reducible refine (checkRules_any r _).mono ?_); rintro e' w3 ⟨rfl, rfl⟩)
  refine hK.out _ _ (keepL (below1 _ _) hh) (fun hh => ?_)
  clear hK K
  try simp only [List.getElem_toArray, List.getElem_cons_zero, List.getElem_cons_succ, Act.put, List.setIfInBounds_toArray, List.set_cons_zero, List.set_cons_succ]
  refine wpAnyH_ready (rs := [3]) (by kernel_rfl) (by simp) ?_
  refine AllReadyH.cons rfl (fun K hK => ?_) AllReadyH.nil
  go_simp
  go_wp2_with (go_at_call 14; (with_reducible refine (qcheckRules_any r _).mono ?_); rintro e' w3 ⟨rfl, rfl⟩)
  refine hK.out _ _ (keepL (below1 _ _) hh) (fun hh => ?_)
  clear hK K
  try simp only [List.getElem_toArray, List.getElem_cons_zero, List.getElem_cons_succ, Act.put, List.setIfInBounds_toArray, List.set_cons_zero, List.set_cons_succ]
  refine wpAnyH_take (i := 4) (v := ?vp4) rfl (by kernel_rfl) (by kernel_rfl) (by kernel_rfl) (fun _ _ _ h => h) (Or.inl ⟨by rfl, ?hyp4⟩) (by assumption) ?rep4
  case hyp4 => first | (intro w hSw; (try dsimp only at hSw); go_simp; done) | (intro w hSw; (try dsimp only at hSw); go_simp; with_reducible rfl)
  try simp only [List.getElem_toArray, List.getElem_cons_zero, List.getElem_cons_succ, Act.put, List.setIfInBounds_toArray, List.set_cons_zero, List.set_cons_succ]
  refine wpAnyH_take (i := 5) (v := ?vp5) rfl (by kernel_rfl) (by kernel_rfl) (by kernel_rfl) (fun _ _ _ h => h) (Or.inl ⟨by rfl, ?hyp5⟩) (by assumption) ?rep5
  case hyp5 => first | (intro w hSw; (try dsimp only at hSw); go_simp; done) | (intro w hSw; (try dsimp only at hSw); go_simp; with_reducible rfl)
  try simp only [List.getElem_toArray, List.getElem_cons_zero, List.getElem_cons_succ, Act.put, List.setIfInBounds_toArray, List.set_cons_zero, List.set_cons_succ]
  refine wpAnyH_take (i := 6) (v := ?vp6) rfl (by kernel_rfl) (by kernel_rfl) (by kernel_rfl) (fun _ _ _ h => h) (Or.inl ⟨by rfl, ?hyp6⟩) (by assumption) ?rep6
  case hyp6 => first | (intro w hSw; (try dsimp only at hSw); go_simp; done) | (intro w hSw; (try dsimp only at hSw); go_simp; with_reducible rfl)
  try simp only [List.getElem_toArray, List.getElem_cons_zero, List.getElem_cons_succ, Act.put, List.setIfInBounds_toArray, List.set_cons_zero, List.set_cons_succ]
  refine wpAnyH_take (i := 7) (v := ?vp7) rfl (by kernel_rfl) (by kernel_rfl) (by kernel_rfl) (fun _ _ _ h => h) (Or.inl ⟨by rfl, ?hyp7⟩) (by assumption) ?rep7
  case hyp7 => first | (intro w hSw; (try dsimp only at hSw); go_simp; done) | (intro w hSw; (try dsimp only at hSw); go_simp; with_reducible rfl)
  try simp only [List.getElem_toArray, List.getElem_cons_zero, List.getElem_cons_succ, Act.put, List.setIfInBounds_toArray, List.set_cons_zero, List.set_cons_succ]
  refine wpAnyH_take (i := 8) (v := ?vp8) rfl (by kernel_rfl) (by kernel_rfl) (by kernel_rfl) (fun _ _ _ h => h) (Or.inl ⟨by rfl, ?hyp8⟩) (by assumption) ?rep8
  case hyp8 => first | (intro w hSw; (try dsimp only at hSw); go_simp; done) | (intro w hSw; (try dsimp only at hSw); go_simp; with_reducible rfl)
  try simp only [List.getElem_toArray, List.getElem_cons_zero, List.getElem_cons_succ, Act.put, List.setIfInBounds_toArray, List.set_cons_zero, List.set_cons_succ]
  refine wpAnyH_take (i := 9) (v := ?vp9) rfl (by kernel_rfl) (by kernel_rfl) (by kernel_rfl) (fun _ _ _ h => h) (Or.inl ⟨by rfl, ?hyp9⟩) (by assumption) ?rep9
  case hyp9 => first | (intro w hSw; (try dsimp only at hSw); go_simp; done) | (intro w hSw; (try dsimp only at hSw); go_simp; with_reducible rfl)
  try simp only [List.getElem_toArray, List.getElem_cons_zero, List.getElem_cons_succ, Act.put, List.setIfInBounds_toArray, List.set_cons_zero, List.set_cons_succ]
  refine wpAnyH_take (i := 10) (v := ?vp10) rfl (by kernel_rfl) (by kernel_rfl) (by kernel_rfl) (fun _ _ _ h => h) (Or.inl ⟨by rfl, ?hyp10⟩) (by assumption) ?rep10
  case hyp10 => first | (intro w hSw; (try dsimp only at hSw); go_simp; done) | (intro w hSw; (try dsimp only at hSw); go_simp; with_reducible rfl)
  try simp only [List.getElem_toArray, List.getElem_cons_zero, List.getElem_cons_succ, Act.put, List.setIfInBounds_toArray, List.set_cons_zero, List.set_cons_succ]
  refine wpAnyH_take (i := 11) (v := ?vp11) rfl (by kernel_rfl) (by kernel_rfl) (by kernel_rfl) (fun _ _ _ h => h) (Or.inl ⟨by rfl, ?hyp11⟩) (by assumption) ?rep11
  case hyp11 => first | (intro w hSw; (try dsimp only at hSw); go_simp; done) | (intro w hSw; (try dsimp only at hSw); go_simp; with_reducible rfl)
  try simp only [List.getElem_toArray, List.getElem_cons_zero, List.getElem_cons_succ, Act.put, List.setIfInBounds_toArray, List.set_cons_zero, List.set_cons_succ]
  refine wpAnyH_take (i := 12) (v := ?vp12) rfl (by kernel_rfl) (by kernel_rfl) (by kernel_rfl) (fun _ _ _ h => h) (Or.inl ⟨by rfl, ?hyp12⟩) (by assumption) ?rep12
  case hyp12 => first | (intro w hSw; (try dsimp only at hSw); go_simp; done) | (intro w hSw; (try dsimp only at hSw); go_simp; with_reducible rfl)
  try simp only [List.getElem_toArray, List.getElem_cons_zero, List.getElem_cons_succ, Act.put, List.setIfInBounds_toArray, List.set_cons_zero, List.set_cons_succ]
  refine wpAnyH_ready (rs := [13]) (by kernel_rfl) (by simp) ?_
  refine AllReadyH.cons rfl (fun K hK => ?_) AllReadyH.nil
  go_simp
  go_wp2_with (go_at_call 10; (with_reducible refine (is_any y _).mono ?_); rintro e' w3 ⟨rfl, rfl⟩)
  refine hK.out _ _ (keepL (below2 _ _ _) hh) (fun hh => ?_)
  clear hK K
  try simp only [List.getElem_toArray, List.getElem_cons_zero, List.getElem_cons_succ, Act.put, List.setIfInBounds_toArray, List.set_cons_zero, List.set_cons_succ]
  refine wpAnyH_take (i := 14) (v := ?vp14) rfl (by kernel_rfl) (by kernel_rfl) (by kernel_rfl) (fun _ _ _ h => h) (Or.inl ⟨by rfl, ?hyp14⟩) (by assumption) ?rep14
  case hyp14 => first | (intro w hSw; (try dsimp only at hSw); go_simp; done) | (intro w hSw; (try dsimp only at hSw); go_simp; with_reducible rfl)
  try simp only [List.getElem_toArray, List.getElem_cons_zero, List.getElem_cons_succ, Act.put, List.setIfInBounds_toArray, List.set_cons_zero, List.set_cons_succ]
  refine wpAnyH_take (i := 15) (v := ?vp15) rfl (by kernel_rfl) (by kernel_rfl) (by kernel_rfl) (fun _ _ _ h => h) (Or.inl ⟨by rfl, ?hyp15⟩) (by assumption) ?rep15
  case hyp15 => first | (intro w hSw; (try dsimp only at hSw); go_simp; done) | (intro w hSw; (try dsimp only at hSw); go_simp; with_reducible rfl)
  try simp only [List.getElem_toArray, List.getElem_cons_zero, List.getElem_cons_succ, Act.put, List.setIfInBounds_toArray, List.set_cons_zero, List.set_cons_succ]
  refine wpAnyH_ready (rs := [16]) (by kernel_rfl) (by simp) ?_
  refine AllReadyH.cons rfl (fun K hK => ?_) AllReadyH.nil
  go_simp
  go_wp2_with (go_at_call 7; (with_reducible refine (awake05_any _).mono ?_); rintro e' w4 ⟨rfl, hb4⟩)
  refine hK.out _ _ (keepL hb4 hh) (fun hh => ?_)
  clear hK K
  try simp only [List.getElem_toArray, List.getElem_cons_zero, List.getElem_cons_succ, Act.put, List.setIfInBounds_toArray, List.set_cons_zero, List.set_cons_succ]
  refine wpAnyH_take (i := 17) (v := ?vp17) rfl (by kernel_rfl) (by kernel_rfl) (by kernel_rfl) (fun _ _ _ h => h) (Or.inl ⟨by rfl, ?hyp17⟩) (by assumption) ?rep17
  case hyp17 => first | (intro w hSw; (try dsimp only at hSw); go_simp; done) | (intro w hSw; (try dsimp only at hSw); go_simp; with_reducible rfl)
  try simp only [List.getElem_toArray, List.getElem_cons_zero, List.getElem_cons_succ, Act.put, List.setIfInBounds_toArray, List.set_cons_zero, List.set_cons_succ]
  refine wpAnyH_take (i := 18) (v := ?vp18) rfl (by kernel_rfl) (by kernel_rfl) (by kernel_rfl) (fun _ _ _ h => h) (Or.inl ⟨by rfl, ?hyp18⟩) (by assumption) ?rep18
  case hyp18 => first | (intro w hSw; (try dsimp only at hSw); go_simp; done) | (intro w hSw; (try dsimp only at hSw); go_simp; with_reducible rfl)
  try simp only [List.getElem_toArray, List.getElem_cons_zero, List.getElem_cons_succ, Act.put, List.setIfInBounds_toArray, List.set_cons_zero, List.set_cons_succ]
  refine wpAnyH_done (by kernel_rfl) ?_ _
  go_wp2_with fail
  go_ret
  exact ⟨rfl, HB2.out.trans (hh.1.mono HB2.out.size)⟩
end Go.Proofs.Ytmfochplnchgcaa
