/-
  Proved: for all degrees, rates, parts and numbers of bits, law05.CureNarrow returns true, and each argument reads afterwards as it read before. No conditions.
-/
import Derived.Test.YtfjcccpibhhncaaAf
import Derived.Test.YtfjcccpibhhncaaRows
namespace Go.Proofs.Ytfjcccpibhhncaa
open Go.ChangeShapes Go.WideShapes Go.ChangeAt Go.RowKit

theorem okWide_array2 {P : Program} {w : World} {r : Reach} {base : Nat} {t e : TypeId} {n : Nat} {v : Value} (ht : P.underlying t = some (.array n e)) (h : Value.okWide P w r base t v) : ∃ cs, v = .agg cs := by
  simp only [Value.okWide, ht] at h
  obtain ⟨cs, h1, _⟩ := h
  exact ⟨cs, h1⟩
theorem u8_nat {n : Int} (h : (Lit.int .u8 n).wf = true) : ∃ k : Nat, n = (k : Int) ∧ k < 256 := by
  have := bounds_u8 h
  exact ⟨n.toNat, by omega, by omega⟩
section
variable {H : Type} {enc : TypeId × Value → H} {w : World}
set_option maxRecDepth 100000 in
theorem open_u2 {r : Reach} {b0 : Nat} {v : Value} {d : DataW H} {p : List MemPlace} (hv : Value.okWide Try.prog w r b0 22 v) (h : DataW.Trod enc Try.prog w 0 (fun _ => true) true 22 v d p) : ∃ k0 k1 : Nat, v = .agg #[.int .u8 (k0 : Int), .int .u8 (k1 : Int)] ∧ k0 ≤ 255 ∧ k1 ≤ 255 := by
  obtain ⟨⟨cs⟩, rfl⟩ := okWide_array2 Try.underlying22 hv
  have hL := open_flat (ls := [.int .u8, .int .u8]) (by kernel_rfl) h
  have hL2 : allLeaf [.int .u8, .int .u8] cs := hL
  match cs, allLeaf_length hL2 with
  | [c0, c1], _ =>
    obtain ⟨⟨x0, rfl, h0⟩, ⟨x1, rfl, h1⟩, _⟩ := hL2
    obtain ⟨k0, rfl, hk0⟩ := u8_nat h0
    obtain ⟨k1, rfl, hk1⟩ := u8_nat h1
    exact ⟨k0, k1, rfl, by omega, by omega⟩
set_option maxRecDepth 100000 in
theorem open_u4 {r : Reach} {b0 : Nat} {v : Value} {d : DataW H} {p : List MemPlace} (hv : Value.okWide Try.prog w r b0 23 v) (h : DataW.Trod enc Try.prog w 0 (fun _ => true) true 23 v d p) : ∃ k0 k1 k2 k3 : Nat, v = .agg #[.int .u8 (k0 : Int), .int .u8 (k1 : Int), .int .u8 (k2 : Int), .int .u8 (k3 : Int)] ∧ k0 ≤ 255 ∧ k1 ≤ 255 ∧ k2 ≤ 255 ∧ k3 ≤ 255 := by
  obtain ⟨⟨cs⟩, rfl⟩ := okWide_array2 Try.underlying23 hv
  have hL := open_flat (ls := [.int .u8, .int .u8, .int .u8, .int .u8]) (by kernel_rfl) h
  have hL2 : allLeaf [.int .u8, .int .u8, .int .u8, .int .u8] cs := hL
  match cs, allLeaf_length hL2 with
  | [c0, c1, c2, c3], _ =>
    obtain ⟨⟨x0, rfl, h0⟩, ⟨x1, rfl, h1⟩, ⟨x2, rfl, h2⟩, ⟨x3, rfl, h3⟩, _⟩ := hL2
    obtain ⟨k0, rfl, hk0⟩ := u8_nat h0
    obtain ⟨k1, rfl, hk1⟩ := u8_nat h1
    obtain ⟨k2, rfl, hk2⟩ := u8_nat h2
    obtain ⟨k3, rfl, hk3⟩ := u8_nat h3
    exact ⟨k0, k1, k2, k3, rfl, by omega, by omega, by omega, by omega⟩
end

set_option maxRecDepth 100000 in
theorem cureNarrow_lifted (os : Os) (started : os.Started) (H : Type) (enc : TypeId × Value → H) :
    ReturnsInHanded {} Try.checked os 3 .any (Rows.cureNarrowSpec.pre6 enc Try.prog Try.f3 Rows.cureNarrowRow.domain false) (Rows.cureNarrowSpec.post enc Try.prog Try.f3 false true false false) := by
  refine returnsInHanded_of_change (C := Try.checked) own_knob started (by kernel_rfl) Try.func3
    (ChangeSpec.witness6 (enc := enc) (C := Try.checked) false ⟨#[], #[.agg #[.int .u8 0, .int .u8 0], .agg #[.int .u8 0, .int .u8 0], .agg #[.int .u8 0, .int .u8 0, .int .u8 0, .int .u8 0], .agg #[.int .u8 0, .int .u8 0]], []⟩ 8 (by kernel_rfl) (by kernel_rfl) (by kernel_rfl) (by kernel_rfl)) ?_
  intro W base args ds gs before hval0 hW hcnd _
  have hval : ∀ (j : Nat) t v, Try.f3.params[j]? = some t → args[j]? = some v → Value.okWide Try.prog W .any base t v := hval0
  have hW' := hW
  obtain ⟨p, q, hA0, hV, rfl, hfz, hnd⟩ := hW
  have hA : DataW.TrodAll enc Try.prog W 0 (fun _ => true) true Try.f3.params.toList args.toList ds p := hA0
  rw [Try.params3] at hA hval
  obtain ⟨v0, vs0, d0, ds0, p0, q0, hargs, rfl, rfl, h0, r0⟩ := trodAll_cons hA
  obtain ⟨v1, vs1, d1, ds1, p1, q1, rfl, rfl, rfl, h1, r1⟩ := trodAll_cons r0
  obtain ⟨v2, vs2, d2, ds2, p2, q2, rfl, rfl, rfl, h2, r2⟩ := trodAll_cons r1
  obtain ⟨v3, vs3, d3, ds3, p3, q3, rfl, rfl, rfl, h3, r3⟩ := trodAll_cons r2
  obtain ⟨rfl, rfl, rfl⟩ := trodAll_nil r3
  obtain rfl : args = #[v0, v1, v2, v3] := by cases args; simp_all
  obtain ⟨rfl, rfl⟩ := trodVars_none hV
  have k0 := h0
  have lt0 : ∀ x ∈ p0, x.block < W.heap.size := by obtain ⟨m, hm⟩ := k0; exact DataW.trod_lt m _ _ _ hm
  have k1 := h1
  have lt1 : ∀ x ∈ p1, x.block < W.heap.size := by obtain ⟨m, hm⟩ := k1; exact DataW.trod_lt m _ _ _ hm
  have k2 := h2
  have lt2 : ∀ x ∈ p2, x.block < W.heap.size := by obtain ⟨m, hm⟩ := k2; exact DataW.trod_lt m _ _ _ hm
  have k3 := h3
  have lt3 : ∀ x ∈ p3, x.block < W.heap.size := by obtain ⟨m, hm⟩ := k3; exact DataW.trod_lt m _ _ _ hm
  obtain ⟨c0, c1, rfl, hc0, hc1⟩ := open_u2 (hval 0 22 v0 rfl rfl) h0
  obtain ⟨e0, e1, rfl, he0, he1⟩ := open_u2 (hval 1 22 v1 rfl rfl) h1
  obtain ⟨n0, n1, n2, n3, rfl, hn0, hn1, hn2, hn3⟩ := open_u4 (hval 2 23 v2 rfl rfl) h2
  obtain ⟨s0, s1, rfl, hs0, hs1⟩ := open_u2 (hval 3 22 v3 rfl rfl) h3
  clear hA0 hval0
  refine (cureNarrow_any c0 c1 e0 e1 n0 n1 n2 n3 s0 s1 W hc0 hc1 he0 he1 hn0 hn1 hn2 hn3 hs0 hs1).mono fun e W' ⟨he, bel⟩ => ?_
  subst he
  exact ⟨_, rfl, _, _, _, [], _, [], hW', trodAll_mk1 (shut_bool Try.underlying4 _),
    (trodAll_cons_mk (Below.trod laid_out (by kernel_rfl) (of_decide_eq_true (by kernel_rfl)) k0 bel lt0) (trodAll_cons_mk (Below.trod laid_out (by kernel_rfl) (of_decide_eq_true (by kernel_rfl)) k1 bel lt1) (trodAll_cons_mk (Below.trod laid_out (by kernel_rfl) (of_decide_eq_true (by kernel_rfl)) k2 bel lt2) (trodAll_cons_mk (Below.trod laid_out (by kernel_rfl) (of_decide_eq_true (by kernel_rfl)) k3 bel lt3) trodAll_mk0)))), rfl, bel.frame _, fun h => by cases h⟩

theorem cureNarrow_holds : Rows.CureNarrowSaid :=
  OpenClaim.holds_of_wide 3 Try.f3 rfl rfl rfl rfl rfl rfl rfl ⟨rfl, rfl, rfl, rfl, rfl⟩ rfl rfl rfl rfl rfl (by kernel_rfl) Try.func3 (by kernel_rfl)
    (of_decide_eq_true (by kernel_rfl)) (by unfold Func.isWrapper; first | (rw [if_pos (by decide +kernel)]; kernel_rfl) | (rw [if_neg (by decide +kernel)]; exact ⟨rfl, rfl⟩))
    (fun os started H enc _ => cureNarrow_lifted os started H enc)

end Go.Proofs.Ytfjcccpibhhncaa
