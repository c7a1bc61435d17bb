/-
  Proved: for all outlines, pieces, widths and places, law03.LayupNests returns true, and each argument reads afterwards as it read before. No conditions.
-/
import Derived.Test.YtofijjomfhmbjaaGreatAl
import Derived.Test.YtofijjomfhmbjaaGreatRows
namespace Go.Proofs.YtofijjomfhmbjaaGreat
open Go.ChangeShapes Go.WideShapes Go.ChangeAt Go.RowKit

section
variable {H : Type} {enc : TypeId × Value → H} {w : World}
set_option maxRecDepth 100000 in
theorem cells_ptN : Tryz.prog.cellsOf 45 = 2 := by kernel_rfl
set_option maxRecDepth 100000 in
theorem open_ptsN {r : Reach} {b0 : Nat} {v : Value} {d : DataW H} {p : List MemPlace} (hv : Value.okWide Tryz.prog w r b0 22 v) (h : DataW.Trod enc Tryz.prog w 0 (fun _ => true) true 22 v d p) : ∃ l, PairsOf w v l ∧ CapOk v := by
  obtain ⟨ao, len, cap, rfl, hl, hm, hE⟩ := open_flats (ls := [.int .i64, .int .i64]) Tryz.underlying22 cells_ptN (by omega) (by kernel_rfl) hv h
  rcases Nat.eq_zero_or_pos len with h0 | hp
  · subst h0
    exact ⟨[], ⟨ao, cap, rfl, fun h => absurd h (by simp)⟩, ao, 0, cap, rfl, hl, hm⟩
  · obtain ⟨b, off, rfl, hb, hi⟩ := hE hp
    obtain ⟨xs, hlen, hxs⟩ := choose_list len ((0, 0) : Int × Int) (fun i (x : Int × Int) => PairAt w b (off + i * 2) x) (fun i hlt => by
      obtain ⟨cs, hcl, hL, hc⟩ := hi i hlt
      match cs, hcl with
      | [c0, c1], _ =>
        obtain ⟨⟨x0, rfl, h0⟩, ⟨x1, rfl, h1⟩, _⟩ := hL
        exact ⟨(x0, x1), hc 0 (by omega), hc 1 (by omega)⟩)
    subst hlen
    exact ⟨xs, ⟨_, cap, rfl, fun _ => ⟨b, off, rfl, hb, hxs⟩⟩, _, _, cap, rfl, hl, hm⟩
set_option maxRecDepth 100000 in
theorem cells_pcN : Tryz.prog.cellsOf 26 = 2 := by kernel_rfl
set_option maxRecDepth 100000 in
theorem open_pcsN {r : Reach} {b0 : Nat} {v : Value} {d : DataW H} {p : List MemPlace} (hv : Value.okWide Tryz.prog w r b0 23 v) (h : DataW.Trod enc Tryz.prog w 0 (fun _ => true) true 23 v d p) : ∃ l, PairsOf w v l ∧ CapOk v := by
  obtain ⟨ao, len, cap, rfl, hl, hm, hE⟩ := open_flats (ls := [.int .i64, .int .i64]) Tryz.underlying23 cells_pcN (by omega) (by kernel_rfl) hv h
  rcases Nat.eq_zero_or_pos len with h0 | hp
  · subst h0
    exact ⟨[], ⟨ao, cap, rfl, fun h => absurd h (by simp)⟩, ao, 0, cap, rfl, hl, hm⟩
  · obtain ⟨b, off, rfl, hb, hi⟩ := hE hp
    obtain ⟨xs, hlen, hxs⟩ := choose_list len ((0, 0) : Int × Int) (fun i (x : Int × Int) => PairAt w b (off + i * 2) x) (fun i hlt => by
      obtain ⟨cs, hcl, hL, hc⟩ := hi i hlt
      match cs, hcl with
      | [c0, c1], _ =>
        obtain ⟨⟨x0, rfl, h0⟩, ⟨x1, rfl, h1⟩, _⟩ := hL
        exact ⟨(x0, x1), hc 0 (by omega), hc 1 (by omega)⟩)
    subst hlen
    exact ⟨xs, ⟨_, cap, rfl, fun _ => ⟨b, off, rfl, hb, hxs⟩⟩, _, _, cap, rfl, hl, hm⟩
end

set_option maxRecDepth 100000 in
theorem layupNests_lifted (os : Os) (started : os.Started) (H : Type) (enc : TypeId × Value → H) :
    ReturnsInHanded {} Tryz.checked os 3 .any (Rows.layupNestsSpec.pre6 enc Tryz.prog Tryz.f3 Rows.layupNestsRow.domain false) (Rows.layupNestsSpec.post enc Tryz.prog Tryz.f3 false true false false) := by
  refine returnsInHanded_of_change (C := Tryz.checked) own_knob started (by kernel_rfl) Tryz.func3
    (ChangeSpec.witness6 (enc := enc) (C := Tryz.checked) false ⟨#[], #[.slice none 0 0, .slice none 0 0, .int .i64 0, .slice none 0 0], []⟩ 8 (by kernel_rfl) (by kernel_rfl) (by kernel_rfl) (by kernel_rfl)) ?_
  intro W base args ds gs before hval0 hW hcnd _
  have hval : ∀ (j : Nat) t v, Tryz.f3.params[j]? = some t → args[j]? = some v → Value.okWide Tryz.prog W .any base t v := hval0
  have hW' := hW
  obtain ⟨p, q, hA0, hV, rfl, hfz, hnd⟩ := hW
  have hA : DataW.TrodAll enc Tryz.prog W 0 (fun _ => true) true Tryz.f3.params.toList args.toList ds p := hA0
  rw [Tryz.params3] at hA hval
  obtain ⟨v0, vs0, d0, ds0, p0, q0, hargs, rfl, rfl, h0, r0⟩ := trodAll_cons hA
  obtain ⟨v1, vs1, d1, ds1, p1, q1, rfl, rfl, rfl, h1, r1⟩ := trodAll_cons r0
  obtain ⟨v2, vs2, d2, ds2, p2, q2, rfl, rfl, rfl, h2, r2⟩ := trodAll_cons r1
  obtain ⟨v3, vs3, d3, ds3, p3, q3, rfl, rfl, rfl, h3, r3⟩ := trodAll_cons r2
  obtain ⟨rfl, rfl, rfl⟩ := trodAll_nil r3
  obtain rfl : args = #[v0, v1, v2, v3] := by cases args; simp_all
  obtain ⟨rfl, rfl⟩ := trodVars_none hV
  have k0 := h0
  have lt0 : ∀ x ∈ p0, x.block < W.heap.size := by obtain ⟨m, hm⟩ := k0; exact DataW.trod_lt m _ _ _ hm
  have k1 := h1
  have lt1 : ∀ x ∈ p1, x.block < W.heap.size := by obtain ⟨m, hm⟩ := k1; exact DataW.trod_lt m _ _ _ hm
  have k3 := h3
  have lt3 : ∀ x ∈ p3, x.block < W.heap.size := by obtain ⟨m, hm⟩ := k3; exact DataW.trod_lt m _ _ _ hm
  obtain ⟨ol, ho, _⟩ := open_ptsN (hval 0 22 v0 rfl rfl) h0
  obtain ⟨l, hp, _⟩ := open_pcsN (hval 1 23 v1 rfl rfl) h1
  obtain ⟨m, rfl, rfl, rfl, w2⟩ := open_int Tryz.underlying3 (hval 2 3 v2 rfl rfl) h2
  obtain ⟨ls, ha, hc⟩ := open_ptsN (hval 3 22 v3 rfl rfl) h3
  clear hA0 hval0
  refine (layupNests_any ol l ls m v0 v1 v3 W ho hp ha hc).mono fun e W' ⟨he, bel⟩ => ?_
  subst he
  exact ⟨_, rfl, _, _, _, [], _, [], hW', trodAll_mk1 (shut_bool Tryz.underlying4 _),
    (trodAll_cons_mk (Below.trod laid_out (by kernel_rfl) (of_decide_eq_true (by kernel_rfl)) k0 bel lt0) (trodAll_cons_mk (Below.trod laid_out (by kernel_rfl) (of_decide_eq_true (by kernel_rfl)) k1 bel lt1) (trodAll_cons_mk (shut_int Tryz.underlying3 w2) (trodAll_cons_mk (Below.trod laid_out (by kernel_rfl) (of_decide_eq_true (by kernel_rfl)) k3 bel lt3) trodAll_mk0)))), rfl, bel.frame _, fun h => by cases h⟩

theorem layupNests_holds : Rows.LayupNestsSaid :=
  OpenClaim.holds_of_wide 3 Tryz.f3 rfl rfl rfl rfl rfl rfl rfl ⟨rfl, rfl, rfl, rfl, rfl⟩ rfl rfl rfl rfl rfl (by kernel_rfl) Tryz.func3 (by kernel_rfl)
    (of_decide_eq_true (by kernel_rfl)) (by unfold Func.isWrapper; first | (rw [if_pos (by decide +kernel)]; kernel_rfl) | (rw [if_neg (by decide +kernel)]; exact ⟨rfl, rfl⟩))
    (fun os started H enc _ => layupNests_lifted os started H enc)

end Go.Proofs.YtofijjomfhmbjaaGreat
