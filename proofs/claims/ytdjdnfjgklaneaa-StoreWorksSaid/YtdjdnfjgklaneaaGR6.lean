/-
  Proved: for all airs and every rule, law06.StoreWorks returns true, and each argument reads afterwards as it read before. No conditions.
-/
import Derived.Test.YtdjdnfjgklaneaaGi
import Derived.Test.YtdjdnfjgklaneaaRows
namespace Go.Proofs.Ytdjdnfjgklaneaa
open Go.ChangeShapes Go.WideShapes Go.ChangeAt Go.RowKit

theorem cells_air : Try.prog.cellsOf 91 = 3 := by kernel_rfl
section
variable {H : Type} {enc : TypeId × Value → H} {w : World}
set_option maxRecDepth 100000 in
theorem open_airs {r : Reach} {b0 : Nat} {v : Value} {d : DataW H} {p : List MemPlace} (hv : Value.okWide Try.prog w r b0 86 v) (h : DataW.Trod enc Try.prog w 0 (fun _ => true) true 86 v d p) : ∃ xs, AirsOf w v xs := by
  obtain ⟨ao, len, cap, rfl, hl, hm, hE⟩ := open_flats (ls := [.int .i64, .int .i64, .float .f32]) Try.underlying86 cells_air (by omega) (by kernel_rfl) hv h
  rcases Nat.eq_zero_or_pos len with h0 | hp
  · subst h0
    exact ⟨[], ao, cap, rfl, fun h => absurd h (by simp)⟩
  · obtain ⟨b, off, rfl, hb, hi⟩ := hE hp
    obtain ⟨ps, hlen, hps⟩ := choose_list len (0, 0, 0) (fun i (x : Int × Int × Nat) => AirAt w b (off + i * 3) x) (fun i hlt => by
      obtain ⟨cs, hcl, hL, hc⟩ := hi i hlt
      match cs, hcl with
      | [c0, c1, c2], _ =>
        obtain ⟨⟨x, rfl, hx⟩, ⟨y, rfl, hy⟩, ⟨z, rfl, hz⟩, _⟩ := hL
        exact ⟨(x, y, z), hc 0 (by omega), hc 1 (by omega), hc 2 (by omega)⟩)
    subst hlen
    exact ⟨ps, _, cap, rfl, fun _ => ⟨b, off, rfl, hb, hps⟩⟩
set_option maxRecDepth 100000 in
theorem open_rule {r : Reach} {b0 : Nat} {v : Value} {d : DataW H} {p : List MemPlace} (hv : Value.okWide Try.prog w r b0 88 v) (h : DataW.Trod enc Try.prog w 0 (fun _ => true) true 88 v d p) :
    ∃ x0 x1 x2 x3 x4 x5, v = .agg #[.int .i64 x0, .int .i64 x1, .int .i64 x2, .int .i64 x3, .int .i64 x4, .int .i64 x5] ∧ i64R x1 ∧ i64R x2 ∧ i64R x3 ∧ i64R x4 := by
  obtain ⟨⟨cs⟩, rfl, _⟩ := okWide_struct Try.underlying88 hv
  have hL := open_flat (ls := [.int .i64, .int .i64, .int .i64, .int .i64, .int .i64, .int .i64]) (by kernel_rfl) h
  have hL2 : allLeaf [.int .i64, .int .i64, .int .i64, .int .i64, .int .i64, .int .i64] cs := hL
  match cs, allLeaf_length hL2 with
  | [c0, c1, c2, c3, c4, c5], _ =>
    obtain ⟨⟨x0, rfl, _⟩, ⟨x1, rfl, w1⟩, ⟨x2, rfl, w2⟩, ⟨x3, rfl, w3⟩, ⟨x4, rfl, w4⟩, ⟨x5, rfl, _⟩, _⟩ := hL2
    exact ⟨_, _, _, _, _, _, rfl, i64R_of w1, i64R_of w2, i64R_of w3, i64R_of w4⟩
end

set_option maxRecDepth 100000 in
theorem storeWorks_lifted (os : Os) (started : os.Started) (H : Type) (enc : TypeId × Value → H) :
    ReturnsInHanded {} Try.checked os 8 .any (Rows.storeWorksSpec.pre6 enc Try.prog Try.f8 Rows.storeWorksRow.domain false) (Rows.storeWorksSpec.post enc Try.prog Try.f8 false true false false) := by
  refine returnsInHanded_of_change (C := Try.checked) own_knob started (by kernel_rfl) Try.func8
    (ChangeSpec.witness6 (enc := enc) (C := Try.checked) false ⟨#[], #[.slice none 0 0, .agg #[.int .i64 0, .int .i64 0, .int .i64 0, .int .i64 0, .int .i64 0, .int .i64 0]], []⟩ 8 (by kernel_rfl) (by kernel_rfl) (by kernel_rfl) (by kernel_rfl)) ?_
  intro W base args ds gs before hval0 hW hcnd _
  have hval : ∀ (j : Nat) t v, Try.f8.params[j]? = some t → args[j]? = some v → Value.okWide Try.prog W .any base t v := hval0
  have hW' := hW
  obtain ⟨p, q, hA0, hV, rfl, hfz, hnd⟩ := hW
  have hA : DataW.TrodAll enc Try.prog W 0 (fun _ => true) true Try.f8.params.toList args.toList ds p := hA0
  rw [Try.params8] at hA hval
  obtain ⟨v0, vs0, d0, ds0, p0, q0, hargs, rfl, rfl, h0, r0⟩ := trodAll_cons hA
  obtain ⟨v1, vs1, d1, ds1, p1, q1, rfl, rfl, rfl, h1, r1⟩ := trodAll_cons r0
  obtain ⟨rfl, rfl, rfl⟩ := trodAll_nil r1
  obtain rfl : args = #[v0, v1] := by cases args; simp_all
  obtain ⟨rfl, rfl⟩ := trodVars_none hV
  have k0 := h0
  have lt0 : ∀ x ∈ p0, x.block < W.heap.size := by obtain ⟨m, hm⟩ := k0; exact DataW.trod_lt m _ _ _ hm
  have k1 := h1
  have lt1 : ∀ x ∈ p1, x.block < W.heap.size := by obtain ⟨m, hm⟩ := k1; exact DataW.trod_lt m _ _ _ hm
  obtain ⟨xs, hx⟩ := open_airs (hval 0 86 v0 rfl rfl) h0
  obtain ⟨x0, x1, x2, x3, x4, x5, rfl, i1, i2, i3, i4⟩ := open_rule (hval 1 88 v1 rfl rfl) h1
  clear hA0 hval0
  refine (storeWorks_any xs x0 x1 x2 x3 x4 x5 v0 W hx i1 i2 i3 i4).mono fun e W' ⟨he, bel⟩ => ?_
  subst he
  exact ⟨_, rfl, _, _, _, [], _, [], hW', trodAll_mk1 (shut_bool Try.underlying4 _),
    (trodAll_cons_mk (Below.trod laid_out (by kernel_rfl) (of_decide_eq_true (by kernel_rfl)) k0 bel lt0) (trodAll_cons_mk (Below.trod laid_out (by kernel_rfl) (of_decide_eq_true (by kernel_rfl)) k1 bel lt1) trodAll_mk0)), rfl, bel.frame _, fun h => by cases h⟩

theorem storeWorks_holds : Rows.StoreWorksSaid :=
  OpenClaim.holds_of_wide 8 Try.f8 rfl rfl rfl rfl rfl rfl rfl ⟨rfl, rfl, rfl, rfl, rfl⟩ rfl rfl rfl rfl rfl (by kernel_rfl) Try.func8 (by kernel_rfl)
    (of_decide_eq_true (by kernel_rfl)) (by unfold Func.isWrapper; first | (rw [if_pos (by decide +kernel)]; kernel_rfl) | (rw [if_neg (by decide +kernel)]; exact ⟨rfl, rfl⟩))
    (fun os started H enc _ => storeWorks_lifted os started H enc)

end Go.Proofs.Ytdjdnfjgklaneaa
