/-
  Proved: for all volumes, pressures and flows, law05.CureLeaks returns true, and each argument reads afterwards as it read before. No conditions.
-/
import Derived.Test.YthdgeindjphklaaGreatPi
import Derived.Test.YthdgeindjphklaaGreatRows
namespace Go.Proofs.YthdgeindjphklaaGreat
open Go.ChangeShapes Go.WideShapes Go.ChangeAt Go.RowKit

section
variable {H : Type} {enc : TypeId × Value → H} {w : World}
set_option maxRecDepth 100000 in
theorem open_frc {r : Reach} {b0 : Nat} {v : Value} {d : DataW H} {p : List MemPlace} (hv : Value.okWide Tryz.prog w r b0 23 v) (h : DataW.Trod enc Tryz.prog w 0 (fun _ => true) true 23 v d p) : ∃ a b : Int, v = .agg #[.int .i64 a, .int .i64 b] ∧ i64P (a, b) := by
  obtain ⟨⟨cs⟩, rfl, _⟩ := okWide_struct Tryz.underlying23 hv
  have hL := open_flat (ls := [.int .i64, .int .i64]) (by kernel_rfl) h
  have hL2 : allLeaf [.int .i64, .int .i64] cs := hL
  match cs, allLeaf_length hL2 with
  | [c0, c1], _ =>
    obtain ⟨⟨x0, rfl, h0⟩, ⟨x1, rfl, h1⟩, _⟩ := hL2
    exact ⟨x0, x1, rfl, ⟨i64R_of h0, i64R_of h1⟩⟩
set_option maxRecDepth 100000 in
theorem cells_r4 : Tryz.prog.cellsOf 29 = 4 := by kernel_rfl
set_option maxRecDepth 100000 in
theorem open_raw4s {r : Reach} {b0 : Nat} {v : Value} {d : DataW H} {p : List MemPlace} (hv : Value.okWide Tryz.prog w r b0 24 v) (h : DataW.Trod enc Tryz.prog w 0 (fun _ => true) true 24 v d p) : ∃ rs, Raw4sOf w v rs ∧ ∀ i, i < rs.length → raw4P (rs.getD i ((0, 0), (0, 0))) := by
  obtain ⟨ao, len, cap, rfl, hl, hm, hE⟩ := open_flats (ls := [.int .i64, .int .i64, .int .i64, .int .i64]) Tryz.underlying24 cells_r4 (by omega) (by kernel_rfl) hv h
  rcases Nat.eq_zero_or_pos len with h0 | hp
  · subst h0
    exact ⟨[], ⟨ao, cap, rfl, fun h => absurd h (by simp)⟩, fun i hi => absurd hi (by simp)⟩
  · obtain ⟨b, off, rfl, hb, hi⟩ := hE hp
    obtain ⟨xs, hlen, hxs⟩ := choose_list len ((0, 0), (0, 0)) (fun i (x : Raw4) => Raw4At w b (off + i * 4) x ∧ raw4P x) (fun i hlt => by
      obtain ⟨cs, hcl, hL, hc⟩ := hi i hlt
      match cs, hcl with
      | [c1, c2, c3, c4], _ =>
        obtain ⟨⟨x1, rfl, h1⟩, ⟨x2, rfl, h2⟩, ⟨x3, rfl, h3⟩, ⟨x4, rfl, h4⟩, _⟩ := hL
        exact ⟨((x1, x2), (x3, x4)), ⟨hc 0 (by omega), hc 1 (by omega), hc 2 (by omega), hc 3 (by omega)⟩, ⟨i64R_of h1, i64R_of h2⟩, ⟨i64R_of h3, i64R_of h4⟩⟩)
    subst hlen
    exact ⟨xs, ⟨_, cap, rfl, fun _ => ⟨b, off, rfl, hb, fun i hi => (hxs i hi).1⟩⟩, fun i hi => (hxs i hi).2⟩
end

set_option maxRecDepth 100000 in
theorem cureLeaks_lifted (os : Os) (started : os.Started) (H : Type) (enc : TypeId × Value → H) :
    ReturnsInHanded {} Tryz.checked os 3 .any (Rows.cureLeaksSpec.pre6 enc Tryz.prog Tryz.f3 Rows.cureLeaksRow.domain false) (Rows.cureLeaksSpec.post enc Tryz.prog Tryz.f3 false true false false) := by
  refine returnsInHanded_of_change (C := Tryz.checked) own_knob started (by kernel_rfl) Tryz.func3
    (ChangeSpec.witness6 (enc := enc) (C := Tryz.checked) false ⟨#[], #[.agg #[.int .i64 0, .int .i64 0], .slice none 0 0, .slice none 0 0], []⟩ 8 (by kernel_rfl) (by kernel_rfl) (by kernel_rfl) (by kernel_rfl)) ?_
  intro W base args ds gs before hval0 hW hcnd _
  have hval : ∀ (j : Nat) t v, Tryz.f3.params[j]? = some t → args[j]? = some v → Value.okWide Tryz.prog W .any base t v := hval0
  have hW' := hW
  obtain ⟨p, q, hA0, hV, rfl, hfz, hnd⟩ := hW
  have hA : DataW.TrodAll enc Tryz.prog W 0 (fun _ => true) true Tryz.f3.params.toList args.toList ds p := hA0
  rw [Tryz.params3] at hA hval
  obtain ⟨v0, vs0, d0, ds0, p0, q0, hargs, rfl, rfl, h0, r0⟩ := trodAll_cons hA
  obtain ⟨v1, vs1, d1, ds1, p1, q1, rfl, rfl, rfl, h1, r1⟩ := trodAll_cons r0
  obtain ⟨v2, vs2, d2, ds2, p2, q2, rfl, rfl, rfl, h2, r2⟩ := trodAll_cons r1
  obtain ⟨rfl, rfl, rfl⟩ := trodAll_nil r2
  obtain rfl : args = #[v0, v1, v2] := by cases args; simp_all
  obtain ⟨rfl, rfl⟩ := trodVars_none hV
  have k0 := h0
  have lt0 : ∀ x ∈ p0, x.block < W.heap.size := by obtain ⟨m, hm⟩ := k0; exact DataW.trod_lt m _ _ _ hm
  have k1 := h1
  have lt1 : ∀ x ∈ p1, x.block < W.heap.size := by obtain ⟨m, hm⟩ := k1; exact DataW.trod_lt m _ _ _ hm
  have k2 := h2
  have lt2 : ∀ x ∈ p2, x.block < W.heap.size := by obtain ⟨m, hm⟩ := k2; exact DataW.trod_lt m _ _ _ hm
  obtain ⟨n, d, rfl, hV⟩ := open_frc (hval 0 23 v0 rfl rfl) h0
  obtain ⟨ps, hp, rp⟩ := open_raw4s (hval 1 24 v1 rfl rfl) h1
  obtain ⟨fs, hf, rf⟩ := open_raw4s (hval 2 24 v2 rfl rfl) h2
  clear hA0 hval0
  refine (cureLeaks_any n d ps fs v1 v2 W hV hp hf rp rf).mono fun e W' ⟨he, bel⟩ => ?_
  subst he
  exact ⟨_, rfl, _, _, _, [], _, [], hW', trodAll_mk1 (shut_bool Tryz.underlying4 _),
    (trodAll_cons_mk (Below.trod laid_out (by kernel_rfl) (of_decide_eq_true (by kernel_rfl)) k0 bel lt0) (trodAll_cons_mk (Below.trod laid_out (by kernel_rfl) (of_decide_eq_true (by kernel_rfl)) k1 bel lt1) (trodAll_cons_mk (Below.trod laid_out (by kernel_rfl) (of_decide_eq_true (by kernel_rfl)) k2 bel lt2) trodAll_mk0))), rfl, bel.frame _, fun h => by cases h⟩

theorem cureLeaks_holds : Rows.CureLeaksSaid :=
  OpenClaim.holds_of_wide 3 Tryz.f3 rfl rfl rfl rfl rfl rfl rfl ⟨rfl, rfl, rfl, rfl, rfl⟩ rfl rfl rfl rfl rfl (by kernel_rfl) Tryz.func3 (by kernel_rfl)
    (of_decide_eq_true (by kernel_rfl)) (by unfold Func.isWrapper; first | (rw [if_pos (by decide +kernel)]; kernel_rfl) | (rw [if_neg (by decide +kernel)]; exact ⟨rfl, rfl⟩))
    (fun os started H enc _ => cureLeaks_lifted os started H enc)

end Go.Proofs.YthdgeindjphklaaGreat
