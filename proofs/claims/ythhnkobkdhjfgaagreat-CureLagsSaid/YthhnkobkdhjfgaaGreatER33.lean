/-
  Proved: for all lags, parts, airs and needs, law05.CureLags returns true, and each argument reads afterwards as it read before. No conditions.
-/
import Derived.Test.YthhnkobkdhjfgaaGreatEh
import Derived.Test.YthhnkobkdhjfgaaGreatRows
namespace Go.Proofs.YthhnkobkdhjfgaaGreat
open Go.ChangeShapes Go.WideShapes Go.ChangeAt Go.RowKit

theorem okWide_array2 {P : Program} {w : World} {r : Reach} {base : Nat} {t e : TypeId} {n : Nat} {v : Value} (ht : P.underlying t = some (.array n e)) (h : Value.okWide P w r base t v) : ∃ cs, v = .agg cs := by
  simp only [Value.okWide, ht] at h
  obtain ⟨cs, h1, _⟩ := h
  exact ⟨cs, h1⟩
theorem u8_nat {n : Int} (h : (Lit.int .u8 n).wf = true) : ∃ k : Nat, n = (k : Int) ∧ k < 256 := by
  have := bounds_u8 h
  exact ⟨n.toNat, by omega, by omega⟩
section
variable {H : Type} {enc : TypeId × Value → H} {w : World}
set_option maxRecDepth 100000 in
theorem cells_b1 : Tryz.prog.cellsOf 5 = 1 := by kernel_rfl
set_option maxRecDepth 100000 in
theorem open_bytes {r : Reach} {b0 : Nat} {v : Value} {d : DataW H} {p : List MemPlace} (hv : Value.okWide Tryz.prog w r b0 78 v) (h : DataW.Trod enc Tryz.prog w 0 (fun _ => true) true 78 v d p) : ∃ al, BytesOf w v al ∧ (∀ i, i < al.length → al.getD i 0 ≤ 255) := by
  obtain ⟨ao, len, cap, rfl, hl, hm, hE⟩ := open_flats (ls := [.int .u8]) Tryz.underlying78 cells_b1 (by omega) (by kernel_rfl) hv h
  rcases Nat.eq_zero_or_pos len with h0 | hp
  · subst h0
    exact ⟨[], ⟨ao, cap, rfl, fun h => absurd h (by simp)⟩, fun i hi => absurd hi (by simp)⟩
  · obtain ⟨b, off, rfl, hb, hi⟩ := hE hp
    obtain ⟨xs, hlen, hxs⟩ := choose_list len (0 : Nat) (fun i (x : Nat) => w.cell? ⟨b, off + i, none⟩ = some (.int .u8 (x : Int)) ∧ x ≤ 255) (fun i hlt => by
      obtain ⟨cs, hcl, hL, hc⟩ := hi i hlt
      match cs, hcl with
      | [c0], _ =>
        obtain ⟨⟨x0, rfl, h0⟩, _⟩ := hL
        obtain ⟨n, rfl, hn⟩ := u8_nat h0
        have g := hc 0 (by omega)
        rw [Nat.mul_one, Nat.add_zero] at g
        exact ⟨n, g, by omega⟩)
    subst hlen
    exact ⟨xs, ⟨_, cap, rfl, fun _ => ⟨b, off, rfl, hb, fun i hi => (hxs i hi).1⟩⟩, fun i hi => (hxs i hi).2⟩
set_option maxRecDepth 100000 in
theorem cells_b2 : Tryz.prog.cellsOf 84 = 2 := by kernel_rfl
set_option maxRecDepth 100000 in
theorem open_pairs8 {r : Reach} {b0 : Nat} {v : Value} {d : DataW H} {p : List MemPlace} (hv : Value.okWide Tryz.prog w r b0 77 v) (h : DataW.Trod enc Tryz.prog w 0 (fun _ => true) true 77 v d p) : ∃ lg, Pair8 w v lg ∧ (∀ i, i < lg.length → (lg.getD i (0, 0)).1 ≤ 255 ∧ (lg.getD i (0, 0)).2 ≤ 255) := by
  obtain ⟨ao, len, cap, rfl, hl, hm, hE⟩ := open_flats (ls := [.int .u8, .int .u8]) Tryz.underlying77 cells_b2 (by omega) (by kernel_rfl) hv h
  rcases Nat.eq_zero_or_pos len with h0 | hp
  · subst h0
    exact ⟨[], ⟨ao, cap, rfl, fun h => absurd h (by simp)⟩, fun i hi => absurd hi (by simp)⟩
  · obtain ⟨b, off, rfl, hb, hi⟩ := hE hp
    obtain ⟨xs, hlen, hxs⟩ := choose_list len ((0, 0) : Nat × Nat) (fun i (x : Nat × Nat) => (w.cell? ⟨b, off + i * 2, none⟩ = some (.int .u8 (x.1 : Int)) ∧ w.cell? ⟨b, off + i * 2 + 1, none⟩ = some (.int .u8 (x.2 : Int))) ∧ (x.1 ≤ 255 ∧ x.2 ≤ 255)) (fun i hlt => by
      obtain ⟨cs, hcl, hL, hc⟩ := hi i hlt
      match cs, hcl with
      | [c0, c1], _ =>
        obtain ⟨⟨x0, rfl, h0⟩, ⟨x1, rfl, h1⟩, _⟩ := hL
        obtain ⟨n, rfl, hn⟩ := u8_nat h0
        obtain ⟨m, rfl, hm⟩ := u8_nat h1
        exact ⟨(n, m), ⟨hc 0 (by omega), hc 1 (by omega)⟩, by omega, by omega⟩)
    subst hlen
    exact ⟨xs, ⟨_, cap, rfl, fun _ => ⟨b, off, rfl, hb, fun i hi => (hxs i hi).1⟩⟩, fun i hi => (hxs i hi).2⟩
set_option maxRecDepth 100000 in
theorem open_u4 {r : Reach} {b0 : Nat} {v : Value} {d : DataW H} {p : List MemPlace} (hv : Value.okWide Tryz.prog w r b0 79 v) (h : DataW.Trod enc Tryz.prog w 0 (fun _ => true) true 79 v d p) : ∃ k0 k1 k2 k3 : Nat, v = .agg #[.int .u8 (k0 : Int), .int .u8 (k1 : Int), .int .u8 (k2 : Int), .int .u8 (k3 : Int)] ∧ k0 ≤ 255 ∧ k1 ≤ 255 ∧ k2 ≤ 255 ∧ k3 ≤ 255 := by
  obtain ⟨⟨cs⟩, rfl⟩ := okWide_array2 Tryz.underlying79 hv
  have hL := open_flat (ls := [.int .u8, .int .u8, .int .u8, .int .u8]) (by kernel_rfl) h
  have hL2 : allLeaf [.int .u8, .int .u8, .int .u8, .int .u8] cs := hL
  match cs, allLeaf_length hL2 with
  | [c0, c1, c2, c3], _ =>
    obtain ⟨⟨x0, rfl, h0⟩, ⟨x1, rfl, h1⟩, ⟨x2, rfl, h2⟩, ⟨x3, rfl, h3⟩, _⟩ := hL2
    obtain ⟨k0, rfl, hk0⟩ := u8_nat h0
    obtain ⟨k1, rfl, hk1⟩ := u8_nat h1
    obtain ⟨k2, rfl, hk2⟩ := u8_nat h2
    obtain ⟨k3, rfl, hk3⟩ := u8_nat h3
    exact ⟨k0, k1, k2, k3, rfl, by omega, by omega, by omega, by omega⟩
end

set_option maxRecDepth 100000 in
theorem cureLags_lifted (os : Os) (started : os.Started) (H : Type) (enc : TypeId × Value → H) :
    ReturnsInHanded {} Tryz.checked os 6 .any (Rows.cureLagsSpec.pre6 enc Tryz.prog Tryz.f6 Rows.cureLagsRow.domain false) (Rows.cureLagsSpec.post enc Tryz.prog Tryz.f6 false true false false) := by
  refine returnsInHanded_of_change (C := Tryz.checked) own_knob started (by kernel_rfl) Tryz.func6
    (ChangeSpec.witness6 (enc := enc) (C := Tryz.checked) false ⟨#[], #[.slice none 0 0, .int .u8 0, .slice none 0 0, .agg #[.int .u8 0, .int .u8 0, .int .u8 0, .int .u8 0]], []⟩ 8 (by kernel_rfl) (by kernel_rfl) (by kernel_rfl) (by kernel_rfl)) ?_
  intro W base args ds gs before hval0 hW hcnd _
  have hval : ∀ (j : Nat) t v, Tryz.f6.params[j]? = some t → args[j]? = some v → Value.okWide Tryz.prog W .any base t v := hval0
  have hW' := hW
  obtain ⟨p, q, hA0, hV, rfl, hfz, hnd⟩ := hW
  have hA : DataW.TrodAll enc Tryz.prog W 0 (fun _ => true) true Tryz.f6.params.toList args.toList ds p := hA0
  rw [Tryz.params6] at hA hval
  obtain ⟨v0, vs0, d0, ds0, p0, q0, hargs, rfl, rfl, h0, r0⟩ := trodAll_cons hA
  obtain ⟨v1, vs1, d1, ds1, p1, q1, rfl, rfl, rfl, h1, r1⟩ := trodAll_cons r0
  obtain ⟨v2, vs2, d2, ds2, p2, q2, rfl, rfl, rfl, h2, r2⟩ := trodAll_cons r1
  obtain ⟨v3, vs3, d3, ds3, p3, q3, rfl, rfl, rfl, h3, r3⟩ := trodAll_cons r2
  obtain ⟨rfl, rfl, rfl⟩ := trodAll_nil r3
  obtain rfl : args = #[v0, v1, v2, v3] := by cases args; simp_all
  obtain ⟨rfl, rfl⟩ := trodVars_none hV
  have k0 := h0
  have lt0 : ∀ x ∈ p0, x.block < W.heap.size := by obtain ⟨m, hm⟩ := k0; exact DataW.trod_lt m _ _ _ hm
  have k2 := h2
  have lt2 : ∀ x ∈ p2, x.block < W.heap.size := by obtain ⟨m, hm⟩ := k2; exact DataW.trod_lt m _ _ _ hm
  have k3 := h3
  have lt3 : ∀ x ∈ p3, x.block < W.heap.size := by obtain ⟨m, hm⟩ := k3; exact DataW.trod_lt m _ _ _ hm
  obtain ⟨lg, hg, hgb⟩ := open_pairs8 (hval 0 77 v0 rfl rfl) h0
  obtain ⟨k, rfl, rfl, rfl, w1⟩ := open_int Tryz.underlying5 (hval 1 5 v1 rfl rfl) h1
  obtain ⟨al, ha, hab⟩ := open_bytes (hval 2 78 v2 rfl rfl) h2
  obtain ⟨n0, n1, n2, n3, rfl, hn0, hn1, hn2, hn3⟩ := open_u4 (hval 3 79 v3 rfl rfl) h3
  clear hA0 hval0
  obtain ⟨nn, rfl, hnn⟩ := u8_nat w1
  refine (cureLags_any lg nn al n0 n1 n2 n3 v0 v2 W hg hgb ha hab (by omega) hn0 hn1 hn2 hn3).mono fun e W' ⟨he, bel⟩ => ?_
  subst he
  exact ⟨_, rfl, _, _, _, [], _, [], hW', trodAll_mk1 (shut_bool Tryz.underlying4 _),
    (trodAll_cons_mk (Below.trod laid_out (by kernel_rfl) (of_decide_eq_true (by kernel_rfl)) k0 bel lt0) (trodAll_cons_mk (shut_int Tryz.underlying5 w1) (trodAll_cons_mk (Below.trod laid_out (by kernel_rfl) (of_decide_eq_true (by kernel_rfl)) k2 bel lt2) (trodAll_cons_mk (Below.trod laid_out (by kernel_rfl) (of_decide_eq_true (by kernel_rfl)) k3 bel lt3) trodAll_mk0)))), rfl, bel.frame _, fun h => by cases h⟩

theorem cureLags_holds : Rows.CureLagsSaid :=
  OpenClaim.holds_of_wide 6 Tryz.f6 rfl rfl rfl rfl rfl rfl rfl ⟨rfl, rfl, rfl, rfl, rfl⟩ rfl rfl rfl rfl rfl (by kernel_rfl) Tryz.func6 (by kernel_rfl)
    (of_decide_eq_true (by kernel_rfl)) (by unfold Func.isWrapper; first | (rw [if_pos (by decide +kernel)]; kernel_rfl) | (rw [if_neg (by decide +kernel)]; exact ⟨rfl, rfl⟩))
    (fun os started H enc _ => cureLags_lifted os started H enc)

end Go.Proofs.YthhnkobkdhjfgaaGreat
