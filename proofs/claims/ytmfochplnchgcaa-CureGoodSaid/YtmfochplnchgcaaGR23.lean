/-
  Proved: for all minutes, patience, demands and events, law05.CureGood returns true, and each argument reads afterwards as it read before. No conditions.
-/
import Derived.Test.YtmfochplnchgcaaGi
import Derived.Test.YtmfochplnchgcaaGj
import Derived.Test.YtmfochplnchgcaaRows
namespace Go.Proofs.Ytmfochplnchgcaa
open Go.ChangeShapes Go.WideShapes Go.ChangeAt Go.RowKit

theorem okWide_array2 {P : Program} {w : World} {r : Reach} {base : Nat} {t e : TypeId} {n : Nat} {v : Value} (ht : P.underlying t = some (.array n e)) (h : Value.okWide P w r base t v) : ∃ cs, v = .agg cs := by
  simp only [Value.okWide, ht] at h
  obtain ⟨cs, h1, _⟩ := h
  exact ⟨cs, h1⟩
theorem u8_two {n : Int} (h : (Lit.int .u8 n).wf = true) : 0 ≤ n ∧ n ≤ 255 := bounds_u8 h
theorem cells_u8 : Try.prog.cellsOf 5 = 1 := by kernel_rfl
section
variable {H : Type} {enc : TypeId × Value → H} {w : World}
set_option maxRecDepth 100000 in
theorem open_u3 {r : Reach} {b0 : Nat} {v : Value} {d : DataW H} {p : List MemPlace} (hv : Value.okWide Try.prog w r b0 47 v) (h : DataW.Trod enc Try.prog w 0 (fun _ => true) true 47 v d p) :
    ∃ x0 x1 x2, v = .agg #[.int .u8 x0, .int .u8 x1, .int .u8 x2] ∧ (0 ≤ x0 ∧ x0 ≤ 255) ∧ (0 ≤ x1 ∧ x1 ≤ 255) ∧ (0 ≤ x2 ∧ x2 ≤ 255) := by
  obtain ⟨⟨cs⟩, rfl⟩ := okWide_array2 Try.underlying47 hv
  have hL := open_flat (ls := [.int .u8, .int .u8, .int .u8]) (by kernel_rfl) h
  have hL2 : allLeaf [.int .u8, .int .u8, .int .u8] cs := hL
  match cs, allLeaf_length hL2 with
  | [c0, c1, c2], _ =>
    obtain ⟨⟨x0, rfl, w0⟩, ⟨x1, rfl, w1⟩, ⟨x2, rfl, w2⟩, _⟩ := hL2
    exact ⟨_, _, _, rfl, u8_two w0, u8_two w1, u8_two w2⟩
set_option maxRecDepth 100000 in
theorem open_u9 {r : Reach} {b0 : Nat} {v : Value} {d : DataW H} {p : List MemPlace} (hv : Value.okWide Try.prog w r b0 48 v) (h : DataW.Trod enc Try.prog w 0 (fun _ => true) true 48 v d p) :
    ∃ x0 x1 x2 x3 x4 x5 x6 x7 x8, v = .agg #[.int .u8 x0, .int .u8 x1, .int .u8 x2, .int .u8 x3, .int .u8 x4, .int .u8 x5, .int .u8 x6, .int .u8 x7, .int .u8 x8] ∧ (0 ≤ x0 ∧ x0 ≤ 255) ∧ (0 ≤ x1 ∧ x1 ≤ 255) ∧ (0 ≤ x2 ∧ x2 ≤ 255) ∧ (0 ≤ x3 ∧ x3 ≤ 255) ∧ (0 ≤ x4 ∧ x4 ≤ 255) ∧ (0 ≤ x5 ∧ x5 ≤ 255) ∧ (0 ≤ x6 ∧ x6 ≤ 255) ∧ (0 ≤ x7 ∧ x7 ≤ 255) ∧ (0 ≤ x8 ∧ x8 ≤ 255) := by
  obtain ⟨⟨cs⟩, rfl⟩ := okWide_array2 Try.underlying48 hv
  have hL := open_flat (ls := [.int .u8, .int .u8, .int .u8, .int .u8, .int .u8, .int .u8, .int .u8, .int .u8, .int .u8]) (by kernel_rfl) h
  have hL2 : allLeaf [.int .u8, .int .u8, .int .u8, .int .u8, .int .u8, .int .u8, .int .u8, .int .u8, .int .u8] cs := hL
  match cs, allLeaf_length hL2 with
  | [c0, c1, c2, c3, c4, c5, c6, c7, c8], _ =>
    obtain ⟨⟨x0, rfl, w0⟩, ⟨x1, rfl, w1⟩, ⟨x2, rfl, w2⟩, ⟨x3, rfl, w3⟩, ⟨x4, rfl, w4⟩, ⟨x5, rfl, w5⟩, ⟨x6, rfl, w6⟩, ⟨x7, rfl, w7⟩, ⟨x8, rfl, w8⟩, _⟩ := hL2
    exact ⟨_, _, _, _, _, _, _, _, _, rfl, u8_two w0, u8_two w1, u8_two w2, u8_two w3, u8_two w4, u8_two w5, u8_two w6, u8_two w7, u8_two w8⟩
set_option maxRecDepth 100000 in
theorem open_bytes {r : Reach} {b0 : Nat} {v : Value} {d : DataW H} {p : List MemPlace} (hv : Value.okWide Try.prog w r b0 49 v) (h : DataW.Trod enc Try.prog w 0 (fun _ => true) true 49 v d p) : ∃ xs, BytesOf w v xs := by
  obtain ⟨ao, len, cap, rfl, hl, hm, hE⟩ := open_flats (ls := [.int .u8]) Try.underlying49 cells_u8 (by omega) (by kernel_rfl) hv h
  rcases Nat.eq_zero_or_pos len with h0 | hp
  · subst h0
    exact ⟨[], ao, cap, rfl, fun h => absurd h (by simp)⟩
  · obtain ⟨b, off, rfl, hb, hi⟩ := hE hp
    obtain ⟨xs, hlen, hxs⟩ := choose_list len 0 (fun i (x : Int) => w.cell? ⟨b, off + i, none⟩ = some (.int .u8 x) ∧ (0 ≤ x ∧ x ≤ 255)) (fun i hlt => by
      obtain ⟨cs, hcl, hL, hc⟩ := hi i hlt
      match cs, hcl with
      | [c0], _ =>
        obtain ⟨⟨x, rfl, hx⟩, _⟩ := hL
        have := hc 0 (by omega)
        rw [Nat.mul_one, Nat.add_zero] at this
        exact ⟨x, this, u8_two hx⟩)
    subst hlen
    exact ⟨xs, _, cap, rfl, fun _ => ⟨b, off, rfl, hb, hxs⟩⟩
end

set_option maxRecDepth 100000 in
theorem cureGood_lifted (os : Os) (started : os.Started) (H : Type) (enc : TypeId × Value → H) :
    ReturnsInHanded {} Try.checked os 5 .any (Rows.cureGoodSpec.pre6 enc Try.prog Try.f5 Rows.cureGoodRow.domain false) (Rows.cureGoodSpec.post enc Try.prog Try.f5 false true false false) := by
  refine returnsInHanded_of_change (C := Try.checked) own_knob started (by kernel_rfl) Try.func5
    (ChangeSpec.witness6 (enc := enc) (C := Try.checked) false ⟨#[], #[.agg #[.int .u8 0, .int .u8 0, .int .u8 0], .int .u8 0, .agg #[.int .u8 0, .int .u8 0, .int .u8 0, .int .u8 0, .int .u8 0, .int .u8 0, .int .u8 0, .int .u8 0, .int .u8 0], .slice none 0 0], []⟩ 8 (by kernel_rfl) (by kernel_rfl) (by kernel_rfl) (by kernel_rfl)) ?_
  intro W base args ds gs before hval0 hW hcnd _
  have hval : ∀ (j : Nat) t v, Try.f5.params[j]? = some t → args[j]? = some v → Value.okWide Try.prog W .any base t v := hval0
  have hW' := hW
  obtain ⟨p, q, hA0, hV, rfl, hfz, hnd⟩ := hW
  have hA : DataW.TrodAll enc Try.prog W 0 (fun _ => true) true Try.f5.params.toList args.toList ds p := hA0
  rw [Try.params5] at hA hval
  obtain ⟨v0, vs0, d0, ds0, p0, q0, hargs, rfl, rfl, h0, r0⟩ := trodAll_cons hA
  obtain ⟨v1, vs1, d1, ds1, p1, q1, rfl, rfl, rfl, h1, r1⟩ := trodAll_cons r0
  obtain ⟨v2, vs2, d2, ds2, p2, q2, rfl, rfl, rfl, h2, r2⟩ := trodAll_cons r1
  obtain ⟨v3, vs3, d3, ds3, p3, q3, rfl, rfl, rfl, h3, r3⟩ := trodAll_cons r2
  obtain ⟨rfl, rfl, rfl⟩ := trodAll_nil r3
  obtain rfl : args = #[v0, v1, v2, v3] := by cases args; simp_all
  obtain ⟨rfl, rfl⟩ := trodVars_none hV
  have k0 := h0
  have lt0 : ∀ x ∈ p0, x.block < W.heap.size := by obtain ⟨m, hm⟩ := k0; exact DataW.trod_lt m _ _ _ hm
  have k2 := h2
  have lt2 : ∀ x ∈ p2, x.block < W.heap.size := by obtain ⟨m, hm⟩ := k2; exact DataW.trod_lt m _ _ _ hm
  have k3 := h3
  have lt3 : ∀ x ∈ p3, x.block < W.heap.size := by obtain ⟨m, hm⟩ := k3; exact DataW.trod_lt m _ _ _ hm
  obtain ⟨a0, a1, a2, rfl, j0, j1, j2⟩ := open_u3 (hval 0 47 v0 rfl rfl) h0
  obtain ⟨pp, rfl, rfl, rfl, w1⟩ := open_int Try.underlying5 (hval 1 5 v1 rfl rfl) h1
  obtain ⟨b0, b1, b2, b3, b4, b5, b6, b7, b8, rfl, k0', k1', k2', k3', k4', k5', k6', k7', k8'⟩ := open_u9 (hval 2 48 v2 rfl rfl) h2
  obtain ⟨xs, hx⟩ := open_bytes (hval 3 49 v3 rfl rfl) h3
  clear hA0 hval0
  refine (cureGood_any a0 a1 a2 pp b0 b1 b2 b3 b4 b5 b6 b7 b8 (a0 % 4) (a1 % 4) (a2 % 4) (pp % 5) (b0 % 4) (b1 % 4) (b2 % 4) (b3 % 4) (b4 % 4) (b5 % 4) (b6 % 4) (b7 % 4) (b8 % 4) (small_of a0 4 j0.1 (by omega)) (small_of a1 4 j1.1 (by omega)) (small_of a2 4 j2.1 (by omega)) (small_of b0 4 k0'.1 (by omega)) (small_of b1 4 k1'.1 (by omega)) (small_of b2 4 k2'.1 (by omega)) (small_of b3 4 k3'.1 (by omega)) (small_of b4 4 k4'.1 (by omega)) (small_of b5 4 k5'.1 (by omega)) (small_of b6 4 k6'.1 (by omega)) (small_of b7 4 k7'.1 (by omega)) (small_of b8 4 k8'.1 (by omega)) (small_of pp 5 (u8_two w1).1 (by omega)) xs v3 W hx).mono fun e W' ⟨he, bel⟩ => ?_
  subst he
  exact ⟨_, rfl, _, _, _, [], _, [], hW', trodAll_mk1 (shut_bool Try.underlying4 _),
    (trodAll_cons_mk (Below.trod laid_out (by kernel_rfl) (of_decide_eq_true (by kernel_rfl)) k0 bel lt0) (trodAll_cons_mk (shut_int Try.underlying5 w1) (trodAll_cons_mk (Below.trod laid_out (by kernel_rfl) (of_decide_eq_true (by kernel_rfl)) k2 bel lt2) (trodAll_cons_mk (Below.trod laid_out (by kernel_rfl) (of_decide_eq_true (by kernel_rfl)) k3 bel lt3) trodAll_mk0)))), rfl, bel.frame _, fun h => by cases h⟩

theorem cureGood_holds : Rows.CureGoodSaid :=
  OpenClaim.holds_of_wide 5 Try.f5 rfl rfl rfl rfl rfl rfl rfl ⟨rfl, rfl, rfl, rfl, rfl⟩ rfl rfl rfl rfl rfl (by kernel_rfl) Try.func5 (by kernel_rfl)
    (of_decide_eq_true (by kernel_rfl)) (by unfold Func.isWrapper; first | (rw [if_pos (by decide +kernel)]; kernel_rfl) | (rw [if_neg (by decide +kernel)]; exact ⟨rfl, rfl⟩))
    (fun os started H enc _ => cureGood_lifted os started H enc)

end Go.Proofs.Ytmfochplnchgcaa
