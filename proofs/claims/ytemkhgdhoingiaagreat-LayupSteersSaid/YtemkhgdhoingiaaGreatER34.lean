/-
  Proved: for all paths, least radii and points, law03.LayupSteers returns true, and each argument reads afterwards as it read before. No conditions.
-/
import Derived.Test.YtemkhgdhoingiaaGreatEg
import Derived.Test.YtemkhgdhoingiaaGreatRows
namespace Go.Proofs.YtemkhgdhoingiaaGreat
open Go.ChangeShapes Go.WideShapes Go.ChangeAt Go.RowKit

section
variable {H : Type} {enc : TypeId × Value → H} {w : World}
set_option maxRecDepth 100000 in
theorem cells_pt : Tryz.prog.cellsOf 25 = 2 := by kernel_rfl
set_option maxRecDepth 100000 in
theorem open_pts {r : Reach} {b0 : Nat} {v : Value} {d : DataW H} {p : List MemPlace} (hv : Value.okWide Tryz.prog w r b0 45 v) (h : DataW.Trod enc Tryz.prog w 0 (fun _ => true) true 45 v d p) : ∃ l, PairsOf w v l ∧ CapP v := by
  obtain ⟨ao, len, cap, rfl, hl, hm, hE⟩ := open_flats (ls := [.int .i64, .int .i64]) Tryz.underlying45 cells_pt (by omega) (by kernel_rfl) hv h
  rcases Nat.eq_zero_or_pos len with h0 | hp
  · subst h0
    exact ⟨[], ⟨ao, cap, rfl, fun h => absurd h (by simp)⟩, ao, 0, cap, rfl, hl⟩
  · obtain ⟨b, off, rfl, hb, hi⟩ := hE hp
    obtain ⟨xs, hlen, hxs⟩ := choose_list len ((0, 0) : Int × Int) (fun i (x : Int × Int) => PairAt w b (off + i * 2) x) (fun i hlt => by
      obtain ⟨cs, hcl, hL, hc⟩ := hi i hlt
      match cs, hcl with
      | [c0, c1], _ =>
        obtain ⟨⟨x0, rfl, h0⟩, ⟨x1, rfl, h1⟩, _⟩ := hL
        exact ⟨(x0, x1), hc 0 (by omega), hc 1 (by omega)⟩)
    subst hlen
    exact ⟨xs, ⟨_, cap, rfl, fun _ => ⟨b, off, rfl, hb, hxs⟩⟩, _, _, cap, rfl, hl⟩
set_option maxRecDepth 100000 in
theorem open_pt {r : Reach} {b0 : Nat} {v : Value} {d : DataW H} {p : List MemPlace} (hv : Value.okWide Tryz.prog w r b0 25 v) (h : DataW.Trod enc Tryz.prog w 0 (fun _ => true) true 25 v d p) : ∃ a b : Int, v = .agg #[.int .i64 a, .int .i64 b] := by
  obtain ⟨⟨cs⟩, rfl, _⟩ := okWide_struct Tryz.underlying25 hv
  have hL := open_flat (ls := [.int .i64, .int .i64]) (by kernel_rfl) h
  have hL2 : allLeaf [.int .i64, .int .i64] cs := hL
  match cs, allLeaf_length hL2 with
  | [c0, c1], _ =>
    obtain ⟨⟨x0, rfl, _⟩, ⟨x1, rfl, _⟩, _⟩ := hL2
    exact ⟨_, _, rfl⟩
end

set_option maxRecDepth 100000 in
theorem layupSteers_lifted (os : Os) (started : os.Started) (H : Type) (enc : TypeId × Value → H) :
    ReturnsInHanded {} Tryz.checked os 4 .any (Rows.layupSteersSpec.pre6 enc Tryz.prog Tryz.f4 Rows.layupSteersRow.domain false) (Rows.layupSteersSpec.post enc Tryz.prog Tryz.f4 false true false false) := by
  refine returnsInHanded_of_change (C := Tryz.checked) own_knob started (by kernel_rfl) Tryz.func4
    (ChangeSpec.witness6 (enc := enc) (C := Tryz.checked) false ⟨#[], #[.slice none 0 0, .int .i64 0, .agg #[.int .i64 0, .int .i64 0], .agg #[.int .i64 0, .int .i64 0], .agg #[.int .i64 0, .int .i64 0]], []⟩ 8 (by kernel_rfl) (by kernel_rfl) (by kernel_rfl) (by kernel_rfl)) ?_
  intro W base args ds gs before hval0 hW hcnd _
  have hval : ∀ (j : Nat) t v, Tryz.f4.params[j]? = some t → args[j]? = some v → Value.okWide Tryz.prog W .any base t v := hval0
  have hW' := hW
  obtain ⟨p, q, hA0, hV, rfl, hfz, hnd⟩ := hW
  have hA : DataW.TrodAll enc Tryz.prog W 0 (fun _ => true) true Tryz.f4.params.toList args.toList ds p := hA0
  rw [Tryz.params4] at hA hval
  obtain ⟨v0, vs0, d0, ds0, p0, q0, hargs, rfl, rfl, h0, r0⟩ := trodAll_cons hA
  obtain ⟨v1, vs1, d1, ds1, p1, q1, rfl, rfl, rfl, h1, r1⟩ := trodAll_cons r0
  obtain ⟨v2, vs2, d2, ds2, p2, q2, rfl, rfl, rfl, h2, r2⟩ := trodAll_cons r1
  obtain ⟨v3, vs3, d3, ds3, p3, q3, rfl, rfl, rfl, h3, r3⟩ := trodAll_cons r2
  obtain ⟨v4, vs4, d4, ds4, p4, q4, rfl, rfl, rfl, h4, r4⟩ := trodAll_cons r3
  obtain ⟨rfl, rfl, rfl⟩ := trodAll_nil r4
  obtain rfl : args = #[v0, v1, v2, v3, v4] := by cases args; simp_all
  obtain ⟨rfl, rfl⟩ := trodVars_none hV
  have k0 := h0
  have lt0 : ∀ x ∈ p0, x.block < W.heap.size := by obtain ⟨m, hm⟩ := k0; exact DataW.trod_lt m _ _ _ hm
  have k2 := h2
  have lt2 : ∀ x ∈ p2, x.block < W.heap.size := by obtain ⟨m, hm⟩ := k2; exact DataW.trod_lt m _ _ _ hm
  have k3 := h3
  have lt3 : ∀ x ∈ p3, x.block < W.heap.size := by obtain ⟨m, hm⟩ := k3; exact DataW.trod_lt m _ _ _ hm
  have k4 := h4
  have lt4 : ∀ x ∈ p4, x.block < W.heap.size := by obtain ⟨m, hm⟩ := k4; exact DataW.trod_lt m _ _ _ hm
  obtain ⟨l, hx, hcap⟩ := open_pts (hval 0 45 v0 rfl rfl) h0
  obtain ⟨m, rfl, rfl, rfl, w1⟩ := open_int Tryz.underlying3 (hval 1 3 v1 rfl rfl) h1
  obtain ⟨a0, a1, rfl⟩ := open_pt (hval 2 25 v2 rfl rfl) h2
  obtain ⟨b0, b1, rfl⟩ := open_pt (hval 3 25 v3 rfl rfl) h3
  obtain ⟨c0, c1, rfl⟩ := open_pt (hval 4 25 v4 rfl rfl) h4
  clear hA0 hval0
  refine (layupSteers_any l m (a0, a1) (b0, b1) (c0, c1) v0 W hx hcap).mono fun e W' ⟨he, bel⟩ => ?_
  subst he
  exact ⟨_, rfl, _, _, _, [], _, [], hW', trodAll_mk1 (shut_bool Tryz.underlying4 _),
    (trodAll_cons_mk (Below.trod laid_out (by kernel_rfl) (of_decide_eq_true (by kernel_rfl)) k0 bel lt0) (trodAll_cons_mk (shut_int Tryz.underlying3 w1) (trodAll_cons_mk (Below.trod laid_out (by kernel_rfl) (of_decide_eq_true (by kernel_rfl)) k2 bel lt2) (trodAll_cons_mk (Below.trod laid_out (by kernel_rfl) (of_decide_eq_true (by kernel_rfl)) k3 bel lt3) (trodAll_cons_mk (Below.trod laid_out (by kernel_rfl) (of_decide_eq_true (by kernel_rfl)) k4 bel lt4) trodAll_mk0))))), rfl, bel.frame _, fun h => by cases h⟩

theorem layupSteers_holds : Rows.LayupSteersSaid :=
  OpenClaim.holds_of_wide 4 Tryz.f4 rfl rfl rfl rfl rfl rfl rfl ⟨rfl, rfl, rfl, rfl, rfl⟩ rfl rfl rfl rfl rfl (by kernel_rfl) Tryz.func4 (by kernel_rfl)
    (of_decide_eq_true (by kernel_rfl)) (by unfold Func.isWrapper; first | (rw [if_pos (by decide +kernel)]; kernel_rfl) | (rw [if_neg (by decide +kernel)]; exact ⟨rfl, rfl⟩))
    (fun os started H enc _ => layupSteers_lifted os started H enc)

end Go.Proofs.YtemkhgdhoingiaaGreat
