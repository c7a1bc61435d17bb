/-
  Proved: for all courses, law03.LayupTows returns true, and the argument reads afterwards as it read before. No conditions.
-/
import Derived.Test.YtkdcgkafjkklcaaGe
import Derived.Test.YtkdcgkafjkklcaaGh
import Derived.Test.YtkdcgkafjkklcaaRows
namespace Go.Proofs.Ytkdcgkafjkklcaa
open Go.ChangeShapes Go.WideShapes Go.ChangeAt Go.RowKit

theorem cells_course : Try.prog.cellsOf 137 = 6 := by kernel_rfl
section
variable {H : Type} {enc : TypeId × Value → H} {w : World}
set_option maxRecDepth 100000 in
theorem open_courses {r : Reach} {b0 : Nat} {v : Value} {d : DataW H} {p : List MemPlace} (hv : Value.okWide Try.prog w r b0 64 v) (h : DataW.Trod enc Try.prog w 0 (fun _ => true) true 64 v d p) : ∃ cs, CrsOf w v cs := by
  obtain ⟨ao, len, cap, rfl, hl, hm, hE⟩ := open_flats (ls := [.int .i64, .int .i64, .int .i64, .int .i64, .int .i64, .int .i64]) Try.underlying64 cells_course (by omega) (by kernel_rfl) hv h
  rcases Nat.eq_zero_or_pos len with h0 | hp
  · subst h0
    exact ⟨[], ao, cap, rfl, fun h => absurd h (by simp)⟩
  · obtain ⟨b, off, rfl, hb, hi⟩ := hE hp
    obtain ⟨ps, hlen, hps⟩ := choose_list len crs0 (fun i (x : Crs) => CrsAt w b (off + i * 6) x) (fun i hlt => by
      obtain ⟨cs, hcl, hL, hc⟩ := hi i hlt
      match cs, hcl with
      | [c0, c1, c2, c3, c4, c5], _ =>
        obtain ⟨⟨x0, rfl, _⟩, ⟨x1, rfl, _⟩, ⟨x2, rfl, _⟩, ⟨x3, rfl, _⟩, ⟨x4, rfl, _⟩, ⟨x5, rfl, _⟩, _⟩ := hL
        exact ⟨⟨x0, x1, x2, x3, x4, x5⟩, hc 0 (by omega), hc 1 (by omega), hc 2 (by omega), hc 3 (by omega), hc 4 (by omega), hc 5 (by omega)⟩)
    subst hlen
    exact ⟨ps, _, cap, rfl, fun _ => ⟨b, off, rfl, hb, hps⟩⟩
end

set_option maxRecDepth 100000 in
theorem layupTows_lifted (os : Os) (started : os.Started) (H : Type) (enc : TypeId × Value → H) :
    ReturnsInHanded {} Try.checked os 5 .any (Rows.layupTowsSpec.pre6 enc Try.prog Try.f5 Rows.layupTowsRow.domain false) (Rows.layupTowsSpec.post enc Try.prog Try.f5 false true false false) := by
  refine returnsInHanded_of_change (C := Try.checked) own_knob started (by kernel_rfl) Try.func5
    (ChangeSpec.witness6 (enc := enc) (C := Try.checked) false ⟨#[], #[.slice none 0 0], []⟩ 8 (by kernel_rfl) (by kernel_rfl) (by kernel_rfl) (by kernel_rfl)) ?_
  intro W base args ds gs before hval0 hW hcnd _
  have hval : ∀ (j : Nat) t v, Try.f5.params[j]? = some t → args[j]? = some v → Value.okWide Try.prog W .any base t v := hval0
  have hW' := hW
  obtain ⟨p, q, hA0, hV, rfl, hfz, hnd⟩ := hW
  have hA : DataW.TrodAll enc Try.prog W 0 (fun _ => true) true Try.f5.params.toList args.toList ds p := hA0
  rw [Try.params5] at hA hval
  obtain ⟨v0, vs0, d0, ds0, p0, q0, hargs, rfl, rfl, h0, r0⟩ := trodAll_cons hA
  obtain ⟨rfl, rfl, rfl⟩ := trodAll_nil r0
  obtain rfl : args = #[v0] := by cases args; simp_all
  obtain ⟨rfl, rfl⟩ := trodVars_none hV
  have k0 := h0
  have lt0 : ∀ x ∈ p0, x.block < W.heap.size := by obtain ⟨m, hm⟩ := k0; exact DataW.trod_lt m _ _ _ hm
  obtain ⟨cs, hx⟩ := open_courses (hval 0 64 v0 rfl rfl) h0
  clear hA0 hval0
  refine (layupTows_any cs v0 W hx).mono fun e W' ⟨he, bel⟩ => ?_
  subst he
  exact ⟨_, rfl, _, _, _, [], _, [], hW', trodAll_mk1 (shut_bool Try.underlying4 _),
    (trodAll_cons_mk (Below.trod laid_out (by kernel_rfl) (of_decide_eq_true (by kernel_rfl)) k0 bel lt0) trodAll_mk0), rfl, bel.frame _, fun h => by cases h⟩

theorem layupTows_holds : Rows.LayupTowsSaid :=
  OpenClaim.holds_of_wide 5 Try.f5 rfl rfl rfl rfl rfl rfl rfl ⟨rfl, rfl, rfl, rfl, rfl⟩ rfl rfl rfl rfl rfl (by kernel_rfl) Try.func5 (by kernel_rfl)
    (of_decide_eq_true (by kernel_rfl)) (by unfold Func.isWrapper; first | (rw [if_pos (by decide +kernel)]; kernel_rfl) | (rw [if_neg (by decide +kernel)]; exact ⟨rfl, rfl⟩))
    (fun os started H enc _ => layupTows_lifted os started H enc)

end Go.Proofs.Ytkdcgkafjkklcaa
