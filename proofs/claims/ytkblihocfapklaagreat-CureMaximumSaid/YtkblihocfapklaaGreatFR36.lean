/-
  Proved: for all bodies, steps, places in their ranges and airs, law05.CureMaximum returns true, and each argument reads afterwards as it read before. No conditions.
-/
import Derived.Test.YtkblihocfapklaaGreatFj
import Derived.Test.YtkblihocfapklaaGreatRows
namespace Go.Proofs.YtkblihocfapklaaGreat
open Go.ChangeShapes Go.WideShapes Go.ChangeAt Go.RowKit

theorem Hf {P : Program} {w : World} {r : Reach} {base : Nat} {t e : TypeId} {n : Nat} {v : Value} (ht : P.underlying t = some (.array n e)) (h : Value.okWide P w r base t v) : ∃ cs, v = .agg cs := by
  simp only [Value.okWide, ht] at h
  obtain ⟨cs, h1, _⟩ := h
  exact ⟨cs, h1⟩
theorem nH {n : Int} (h : (Lit.int .u8 n).wf = true) : ∃ k : Nat, n = (k : Int) ∧ k < 256 := by
  have := bounds_u8 h
  exact ⟨n.toNat, by omega, by omega⟩
section
variable {H : Type} {enc : TypeId × Value → H} {w : World}
set_option maxRecDepth 100000 in
theorem O_ : Tryz.prog.cellsOf 76 = 7 := by kernel_rfl
set_option maxRecDepth 100000 in
theorem NI {r : Reach} {b0 : Nat} {v : Value} {d : DataW H} {p : List MemPlace} (hv : Value.okWide Tryz.prog w r b0 22 v) (h : DataW.Trod enc Tryz.prog w 0 (fun _ => true) true 22 v d p) : ∃ l, qg w v l ∧ (∀ i, i < l.length → ∀ j, j < 7 → qY l i j ≤ 255) := by
  obtain ⟨ao, len, cap, rfl, hl, hm, hE⟩ := Gf (ls := [.int .u8, .int .u8, .int .u8, .int .u8, .int .u8, .int .u8, .int .u8]) Tryz.underlying22 O_ (by omega) (by kernel_rfl) hv h
  rcases Nat.eq_zero_or_pos len with h0 | hp
  · subst h0
    exact ⟨[], ⟨ao, cap, rfl, fun h => absurd h (by simp)⟩, fun i hi => absurd hi (by simp)⟩
  · obtain ⟨b, off, rfl, hb, hi⟩ := hE hp
    obtain ⟨xs, hlen, hxs⟩ := Bi len ([] : List Nat) (fun i (x : List Nat) => ∀ j, j < 7 → w.cell? ⟨b, off + i * 7 + j, none⟩ = some (.int .u8 ((x.getD j 0 : Nat) : Int)) ∧ x.getD j 0 ≤ 255) (fun i hlt => by
      obtain ⟨cs, hcl, hL, hc⟩ := hi i hlt
      match cs, hcl with
      | [c0, c1, c2, c3, c4, c5, c6], _ =>
        obtain ⟨⟨x0, rfl, h0⟩, ⟨x1, rfl, h1⟩, ⟨x2, rfl, h2⟩, ⟨x3, rfl, h3⟩, ⟨x4, rfl, h4⟩, ⟨x5, rfl, h5⟩, ⟨x6, rfl, h6⟩, _⟩ := hL
        obtain ⟨n0, rfl, g0⟩ := nH h0
        obtain ⟨n1, rfl, g1⟩ := nH h1
        obtain ⟨n2, rfl, g2⟩ := nH h2
        obtain ⟨n3, rfl, g3⟩ := nH h3
        obtain ⟨n4, rfl, g4⟩ := nH h4
        obtain ⟨n5, rfl, g5⟩ := nH h5
        obtain ⟨n6, rfl, g6⟩ := nH h6
        refine ⟨[n0, n1, n2, n3, n4, n5, n6], fun j hj => ?_⟩
        have g := hc j hj
        match j, hj with
        | 0, _ => exact ⟨g, (show n0 ≤ 255 by omega)⟩
        | 1, _ => exact ⟨g, (show n1 ≤ 255 by omega)⟩
        | 2, _ => exact ⟨g, (show n2 ≤ 255 by omega)⟩
        | 3, _ => exact ⟨g, (show n3 ≤ 255 by omega)⟩
        | 4, _ => exact ⟨g, (show n4 ≤ 255 by omega)⟩
        | 5, _ => exact ⟨g, (show n5 ≤ 255 by omega)⟩
        | 6, _ => exact ⟨g, (show n6 ≤ 255 by omega)⟩
        | j + 7, hj => omega)
    subst hlen
    exact ⟨xs, ⟨_, cap, rfl, fun _ => ⟨b, off, rfl, hb, fun i hi j hj => (hxs i hi j hj).1⟩⟩, fun i hi j hj => (hxs i hi j hj).2⟩
set_option maxRecDepth 100000 in
theorem YL : Tryz.prog.cellsOf 70 = 2 := by kernel_rfl
set_option maxRecDepth 100000 in
theorem Qo {r : Reach} {b0 : Nat} {v : Value} {d : DataW H} {p : List MemPlace} (hv : Value.okWide Tryz.prog w r b0 23 v) (h : DataW.Trod enc Tryz.prog w 0 (fun _ => true) true 23 v d p) : ∃ sl : List (Nat × Nat), (0 < sl.length → tZ w v sl) ∧ (∃ a c, v = .slice a sl.length c) ∧ (∀ i, i < sl.length → (sl.getD i (0, 0)).1 ≤ 255 ∧ (sl.getD i (0, 0)).2 ≤ 255) := by
  obtain ⟨ao, len, cap, rfl, hl, hm, hE⟩ := Gf (ls := [.int .u8, .int .u8]) Tryz.underlying23 YL (by omega) (by kernel_rfl) hv h
  rcases Nat.eq_zero_or_pos len with h0 | hp
  · subst h0
    exact ⟨[], fun h => absurd h (by simp), ⟨ao, cap, rfl⟩, fun i hi => absurd hi (by simp)⟩
  · obtain ⟨b, off, rfl, hb, hi⟩ := hE hp
    obtain ⟨xs, hlen, hxs⟩ := Bi len ((0, 0) : Nat × Nat) (fun i (x : Nat × Nat) => (w.cell? ⟨b, off + i * 2, none⟩ = some (.int .u8 (x.1 : Int)) ∧ w.cell? ⟨b, off + i * 2 + 1, none⟩ = some (.int .u8 (x.2 : Int))) ∧ (x.1 ≤ 255 ∧ x.2 ≤ 255)) (fun i hlt => by
      obtain ⟨cs, hcl, hL, hc⟩ := hi i hlt
      match cs, hcl with
      | [c0, c1], _ =>
        obtain ⟨⟨x0, rfl, h0⟩, ⟨x1, rfl, h1⟩, _⟩ := hL
        obtain ⟨n, rfl, hn⟩ := nH h0
        obtain ⟨m, rfl, hm⟩ := nH h1
        exact ⟨(n, m), ⟨hc 0 (by omega), hc 1 (by omega)⟩, by omega, by omega⟩)
    subst hlen
    exact ⟨xs, fun _ => ⟨b, off, cap, rfl, hl, hb, fun i hi => (hxs i hi).1⟩, ⟨_, cap, rfl⟩, fun i hi => (hxs i hi).2⟩
set_option maxRecDepth 100000 in
theorem ae4 {r : Reach} {b0 : Nat} {v : Value} {d : DataW H} {p : List MemPlace} (hv : Value.okWide Tryz.prog w r b0 24 v) (h : DataW.Trod enc Tryz.prog w 0 (fun _ => true) true 24 v d p) : ∃ k0 k1 k2 k3 : Nat, v = .agg #[.int .u8 (k0 : Int), .int .u8 (k1 : Int), .int .u8 (k2 : Int), .int .u8 (k3 : Int)] ∧ k0 ≤ 255 ∧ k1 ≤ 255 ∧ k2 ≤ 255 ∧ k3 ≤ 255 := by
  obtain ⟨⟨cs⟩, rfl⟩ := Hf Tryz.underlying24 hv
  have hL := U5 (ls := [.int .u8, .int .u8, .int .u8, .int .u8]) (by kernel_rfl) h
  have hL2 : jT [.int .u8, .int .u8, .int .u8, .int .u8] cs := hL
  match cs, vH hL2 with
  | [c0, c1, c2, c3], _ =>
    obtain ⟨⟨x0, rfl, h0⟩, ⟨x1, rfl, h1⟩, ⟨x2, rfl, h2⟩, ⟨x3, rfl, h3⟩, _⟩ := hL2
    obtain ⟨k0, rfl, hk0⟩ := nH h0
    obtain ⟨k1, rfl, hk1⟩ := nH h1
    obtain ⟨k2, rfl, hk2⟩ := nH h2
    obtain ⟨k3, rfl, hk3⟩ := nH h3
    exact ⟨k0, k1, k2, k3, rfl, by omega, by omega, by omega, by omega⟩
end

set_option maxRecDepth 100000 in
theorem yQ (os : Os) (started : os.Started) (H : Type) (enc : TypeId × Value → H) :
    ReturnsInHanded {} Tryz.checked os 3 .any (Rows.cureMaximumSpec.pre6 enc Tryz.prog Tryz.f3 Rows.cureMaximumRow.domain false) (Rows.cureMaximumSpec.post enc Tryz.prog Tryz.f3 false true false false) := by
  refine returnsInHanded_of_change (C := Tryz.checked) aau started (by kernel_rfl) Tryz.func3
    (ChangeSpec.witness6 (enc := enc) (C := Tryz.checked) false ⟨#[], #[.slice none 0 0, .slice none 0 0, .agg #[.int .u8 0, .int .u8 0, .int .u8 0, .int .u8 0], .int .u8 0], []⟩ 8 (by kernel_rfl) (by kernel_rfl) (by kernel_rfl) (by kernel_rfl)) ?_
  intro W base args ds gs before hval0 hW hcnd _
  have hval : ∀ (j : Nat) t v, Tryz.f3.params[j]? = some t → args[j]? = some v → Value.okWide Tryz.prog W .any base t v := hval0
  have hW' := hW
  obtain ⟨p, q, hA0, hV, rfl, hfz, hnd⟩ := hW
  have hA : DataW.TrodAll enc Tryz.prog W 0 (fun _ => true) true Tryz.f3.params.toList args.toList ds p := hA0
  rw [Tryz.params3] at hA hval
  obtain ⟨v0, vs0, d0, ds0, p0, q0, hargs, rfl, rfl, h0, r0⟩ := trodAll_cons hA
  obtain ⟨v1, vs1, d1, ds1, p1, q1, rfl, rfl, rfl, h1, r1⟩ := trodAll_cons r0
  obtain ⟨v2, vs2, d2, ds2, p2, q2, rfl, rfl, rfl, h2, r2⟩ := trodAll_cons r1
  obtain ⟨v3, vs3, d3, ds3, p3, q3, rfl, rfl, rfl, h3, r3⟩ := trodAll_cons r2
  obtain ⟨rfl, rfl, rfl⟩ := trodAll_nil r3
  obtain rfl : args = #[v0, v1, v2, v3] := by cases args; simp_all
  obtain ⟨rfl, rfl⟩ := trodVars_none hV
  have k0 := h0
  have lt0 : ∀ x ∈ p0, x.block < W.heap.size := by obtain ⟨m, hm⟩ := k0; exact DataW.trod_lt m _ _ _ hm
  have k1 := h1
  have lt1 : ∀ x ∈ p1, x.block < W.heap.size := by obtain ⟨m, hm⟩ := k1; exact DataW.trod_lt m _ _ _ hm
  have k2 := h2
  have lt2 : ∀ x ∈ p2, x.block < W.heap.size := by obtain ⟨m, hm⟩ := k2; exact DataW.trod_lt m _ _ _ hm
  obtain ⟨l, hl, hlb⟩ := NI (hval 0 22 v0 rfl rfl) h0
  obtain ⟨sl, hs, hs0, hsb⟩ := Qo (hval 1 23 v1 rfl rfl) h1
  obtain ⟨n0, n1, n2, n3, rfl, hn0, hn1, hn2, hn3⟩ := ae4 (hval 2 24 v2 rfl rfl) h2
  obtain ⟨k, rfl, rfl, rfl, w3⟩ := open_int Tryz.underlying5 (hval 3 5 v3 rfl rfl) h3
  clear hA0 hval0
  obtain ⟨dX, rfl, atK⟩ := nH w3
  refine (BU l sl n0 n1 n2 n3 dX v0 v1 W hl hlb hs hs0 hsb hn0 hn1 hn2 hn3 (by omega)).mono fun e W' ⟨he, bel⟩ => ?_
  subst he
  exact ⟨_, rfl, _, _, _, [], _, [], hW', trodAll_mk1 (shut_bool Tryz.underlying4 _),
    (trodAll_cons_mk (Below.trod FW (by kernel_rfl) (of_decide_eq_true (by kernel_rfl)) k0 bel lt0) (trodAll_cons_mk (Below.trod FW (by kernel_rfl) (of_decide_eq_true (by kernel_rfl)) k1 bel lt1) (trodAll_cons_mk (Below.trod FW (by kernel_rfl) (of_decide_eq_true (by kernel_rfl)) k2 bel lt2) (trodAll_cons_mk (shut_int Tryz.underlying5 w3) trodAll_mk0)))), rfl, bel.frame _, fun h => by cases h⟩

theorem cureMaximum_holds : Rows.CureMaximumSaid :=
  OpenClaim.holds_of_wide 3 Tryz.f3 rfl rfl rfl rfl rfl rfl rfl ⟨rfl, rfl, rfl, rfl, rfl⟩ rfl rfl rfl rfl rfl (by kernel_rfl) Tryz.func3 (by kernel_rfl)
    (of_decide_eq_true (by kernel_rfl)) (by unfold Func.isWrapper; first | (rw [if_pos (by decide +kernel)]; kernel_rfl) | (rw [if_neg (by decide +kernel)]; exact ⟨rfl, rfl⟩))
    (fun os started H enc _ => yQ os started H enc)

end Go.Proofs.YtkblihocfapklaaGreat
