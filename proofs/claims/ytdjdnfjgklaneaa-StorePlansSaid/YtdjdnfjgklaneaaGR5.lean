/-
  Proved: for all jobs, ovens and plans, law06.StorePlans returns true, and each argument reads afterwards as it read before. No conditions.
-/
import Derived.Test.YtdjdnfjgklaneaaGg
import Derived.Test.YtdjdnfjgklaneaaRows
namespace Go.Proofs.Ytdjdnfjgklaneaa
open Go.ChangeShapes Go.WideShapes Go.ChangeAt Go.RowKit

theorem cells_job : Try.prog.cellsOf 106 = 2 := by kernel_rfl
theorem cells_slot : Try.prog.cellsOf 79 = 2 := by kernel_rfl

section
variable {H : Type} {enc : TypeId × Value → H} {w : World}
set_option maxRecDepth 100000 in
theorem open_cap {r : Reach} {b0 : Nat} {t s : TypeId} {k : Nat} (hs : Try.prog.underlying s = some (.slice t)) (hc : Try.prog.cellsOf t = k) (hk : 0 < k)
    {v : Value} {d : DataW H} {p : List MemPlace} (hv : Value.okWide Try.prog w r b0 s v) (h : DataW.Trod enc Try.prog w 0 (fun _ => true) true s v d p) : CapOk v := by
  obtain ⟨ao, len, cap, rfl, hl, hm, _⟩ := open_rows hs hc hk (fun _ => True) (fun _ _ _ _ => trivial) hv h
  exact ⟨ao, len, cap, rfl, hl, hm⟩
end

set_option maxRecDepth 100000 in
theorem storePlans_lifted (os : Os) (started : os.Started) (H : Type) (enc : TypeId × Value → H) :
    ReturnsInHanded {} Try.checked os 7 .any (Rows.storePlansSpec.pre6 enc Try.prog Try.f7 Rows.storePlansRow.domain false) (Rows.storePlansSpec.post enc Try.prog Try.f7 false true false false) := by
  refine returnsInHanded_of_change (C := Try.checked) own_knob started (by kernel_rfl) Try.func7
    (ChangeSpec.witness6 (enc := enc) (C := Try.checked) false ⟨#[], #[.slice none 0 0, .int .i64 0, .slice none 0 0], []⟩ 8 (by kernel_rfl) (by kernel_rfl) (by kernel_rfl) (by kernel_rfl)) ?_
  intro W base args ds gs before hval0 hW hcnd _
  have hval : ∀ (j : Nat) t v, Try.f7.params[j]? = some t → args[j]? = some v → Value.okWide Try.prog W .any base t v := hval0
  have hW' := hW
  obtain ⟨p, q, hA0, hV, rfl, hfz, hnd⟩ := hW
  have hA : DataW.TrodAll enc Try.prog W 0 (fun _ => true) true Try.f7.params.toList args.toList ds p := hA0
  rw [Try.params7] at hA hval
  obtain ⟨v0, vs0, d0, ds0, p0, q0, hargs, rfl, rfl, h0, r0⟩ := trodAll_cons hA
  obtain ⟨v1, vs1, d1, ds1, p1, q1, rfl, rfl, rfl, h1, r1⟩ := trodAll_cons r0
  obtain ⟨v2, vs2, d2, ds2, p2, q2, rfl, rfl, rfl, h2, r2⟩ := trodAll_cons r1
  obtain ⟨rfl, rfl, rfl⟩ := trodAll_nil r2
  obtain rfl : args = #[v0, v1, v2] := by cases args; simp_all
  obtain ⟨rfl, rfl⟩ := trodVars_none hV
  have k0 := h0
  have lt0 : ∀ x ∈ p0, x.block < W.heap.size := by obtain ⟨m, hm⟩ := k0; exact DataW.trod_lt m _ _ _ hm
  have k2 := h2
  have lt2 : ∀ x ∈ p2, x.block < W.heap.size := by obtain ⟨m, hm⟩ := k2; exact DataW.trod_lt m _ _ _ hm
  obtain ⟨js, hj, _⟩ := open_pairs Try.underlying64 Try.underlying106 ⟨rfl, rfl, rfl, rfl⟩ cells_job (hval 0 64 v0 rfl rfl) h0
  obtain ⟨ov, rfl, rfl, rfl, w1⟩ := open_int Try.underlying3 (hval 1 3 v1 rfl rfl) h1
  obtain ⟨ls, hl, _⟩ := open_pairs Try.underlying65 Try.underlying79 ⟨rfl, rfl, rfl, rfl⟩ cells_slot (hval 2 65 v2 rfl rfl) h2
  have hcap : CapOk v2 := open_cap Try.underlying65 cells_slot (by omega) (hval 2 65 v2 rfl rfl) h2
  clear hA0 hval0
  refine (storePlans_any js ov ls v0 v2 W hj hl hcap).mono fun e W' ⟨he, bel⟩ => ?_
  subst he
  exact ⟨_, rfl, _, _, _, [], _, [], hW', trodAll_mk1 (shut_bool Try.underlying4 _),
    (trodAll_cons_mk (Below.trod laid_out (by kernel_rfl) (of_decide_eq_true (by kernel_rfl)) k0 bel lt0)
      (trodAll_cons_mk (shut_int Try.underlying3 w1) (trodAll_cons_mk (Below.trod laid_out (by kernel_rfl) (of_decide_eq_true (by kernel_rfl)) k2 bel lt2) trodAll_mk0))), rfl, bel.frame _, fun h => by cases h⟩

theorem storePlans_holds : Rows.StorePlansSaid :=
  OpenClaim.holds_of_wide 7 Try.f7 rfl rfl rfl rfl rfl rfl rfl ⟨rfl, rfl, rfl, rfl, rfl⟩ rfl rfl rfl rfl rfl (by kernel_rfl) Try.func7 (by kernel_rfl)
    (of_decide_eq_true (by kernel_rfl)) (by unfold Func.isWrapper; first | (rw [if_pos (by decide +kernel)]; kernel_rfl) | (rw [if_neg (by decide +kernel)]; exact ⟨rfl, rfl⟩))
    (fun os started H enc _ => storePlans_lifted os started H enc)

end Go.Proofs.Ytdjdnfjgklaneaa
