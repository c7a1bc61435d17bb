/-
  Proved: for all pairs of bytes, ovens, shifts and flags, law06.StoreGraham returns true, and each argument reads afterwards as it read before. No conditions.
-/
import Derived.Test.YtdjdnfjgklaneaaGh
import Derived.Test.YtdjdnfjgklaneaaRows
namespace Go.Proofs.Ytdjdnfjgklaneaa
open Go.ChangeShapes Go.WideShapes Go.ChangeAt Go.RowKit

theorem cells_arr2 : Try.prog.cellsOf 104 = 2 := by kernel_rfl
theorem cells_u8 : Try.prog.cellsOf 5 = 1 := by kernel_rfl
theorem u8R_of {n : Int} (h : (Lit.int .u8 n).wf = true) : u8R n := bounds_u8 h

section
variable {H : Type} {enc : TypeId × Value → H} {w : World}
set_option maxRecDepth 100000 in
theorem open_pairs8 {r : Reach} {b0 : Nat} {v : Value} {d : DataW H} {p : List MemPlace} (hv : Value.okWide Try.prog w r b0 55 v) (h : DataW.Trod enc Try.prog w 0 (fun _ => true) true 55 v d p) : ∃ ps, Pairs8 w v ps := by
  obtain ⟨ao, len, cap, rfl, hl, hm, hE⟩ := open_flats (ls := [.int .u8, .int .u8]) Try.underlying55 cells_arr2 (by omega) (by kernel_rfl) hv h
  rcases Nat.eq_zero_or_pos len with h0 | hp
  · subst h0
    exact ⟨[], ao, cap, rfl, fun h => absurd h (by simp)⟩
  · obtain ⟨b, off, rfl, hb, hi⟩ := hE hp
    obtain ⟨ps, hlen, hps⟩ := choose_list len (0, 0) (fun i (x : Int × Int) => PairAt8 w b (off + i * 2) x ∧ u8R x.1 ∧ u8R x.2) (fun i hlt => by
      obtain ⟨cs, hcl, hL, hc⟩ := hi i hlt
      match cs, hcl with
      | [c0, c1], _ =>
        obtain ⟨⟨x, rfl, hx⟩, ⟨y, rfl, hy⟩, _⟩ := hL
        exact ⟨(x, y), ⟨hc 0 (by omega), hc 1 (by omega)⟩, u8R_of hx, u8R_of hy⟩)
    subst hlen
    exact ⟨ps, _, cap, rfl, fun _ => ⟨b, off, rfl, hb, hps⟩⟩
set_option maxRecDepth 100000 in
theorem open_bytes8 {r : Reach} {b0 : Nat} {v : Value} {d : DataW H} {p : List MemPlace} (hv : Value.okWide Try.prog w r b0 103 v) (h : DataW.Trod enc Try.prog w 0 (fun _ => true) true 103 v d p) : ∃ xs, Bytes8 w v xs := by
  obtain ⟨ao, len, cap, rfl, hl, hm, hE⟩ := open_flats (ls := [.int .u8]) Try.underlying103 cells_u8 (by omega) (by kernel_rfl) hv h
  rcases Nat.eq_zero_or_pos len with h0 | hp
  · subst h0
    exact ⟨[], ao, cap, rfl, fun h => absurd h (by simp)⟩
  · obtain ⟨b, off, rfl, hb, hi⟩ := hE hp
    obtain ⟨xs, hlen, hxs⟩ := choose_list len 0 (fun i (x : Int) => w.cell? ⟨b, off + i, none⟩ = some (.int .u8 x) ∧ u8R x) (fun i hlt => by
      obtain ⟨cs, hcl, hL, hc⟩ := hi i hlt
      match cs, hcl with
      | [c0], _ =>
        obtain ⟨⟨x, rfl, hx⟩, _⟩ := hL
        have := hc 0 (by omega)
        rw [Nat.mul_one, Nat.add_zero] at this
        exact ⟨x, this, u8R_of hx⟩)
    subst hlen
    exact ⟨xs, _, cap, rfl, fun _ => ⟨b, off, rfl, hb, hxs⟩⟩
end

set_option maxRecDepth 100000 in
theorem storeGraham_lifted (os : Os) (started : os.Started) (H : Type) (enc : TypeId × Value → H) :
    ReturnsInHanded {} Try.checked os 9 .any (Rows.storeGrahamSpec.pre6 enc Try.prog Try.f9 Rows.storeGrahamRow.domain false) (Rows.storeGrahamSpec.post enc Try.prog Try.f9 false true false false) := by
  refine returnsInHanded_of_change (C := Try.checked) own_knob started (by kernel_rfl) Try.func9
    (ChangeSpec.witness6 (enc := enc) (C := Try.checked) false ⟨#[], #[.slice none 0 0, .int .u8 0, .slice none 0 0, .bool false], []⟩ 8 (by kernel_rfl) (by kernel_rfl) (by kernel_rfl) (by kernel_rfl)) ?_
  intro W base args ds gs before hval0 hW hcnd _
  have hval : ∀ (j : Nat) t v, Try.f9.params[j]? = some t → args[j]? = some v → Value.okWide Try.prog W .any base t v := hval0
  have hW' := hW
  obtain ⟨p, q, hA0, hV, rfl, hfz, hnd⟩ := hW
  have hA : DataW.TrodAll enc Try.prog W 0 (fun _ => true) true Try.f9.params.toList args.toList ds p := hA0
  rw [Try.params9] at hA hval
  obtain ⟨v0, vs0, d0, ds0, p0, q0, hargs, rfl, rfl, h0, r0⟩ := trodAll_cons hA
  obtain ⟨v1, vs1, d1, ds1, p1, q1, rfl, rfl, rfl, h1, r1⟩ := trodAll_cons r0
  obtain ⟨v2, vs2, d2, ds2, p2, q2, rfl, rfl, rfl, h2, r2⟩ := trodAll_cons r1
  obtain ⟨v3, vs3, d3, ds3, p3, q3, rfl, rfl, rfl, h3, r3⟩ := trodAll_cons r2
  obtain ⟨rfl, rfl, rfl⟩ := trodAll_nil r3
  obtain rfl : args = #[v0, v1, v2, v3] := by cases args; simp_all
  obtain ⟨rfl, rfl⟩ := trodVars_none hV
  have k0 := h0
  have lt0 : ∀ x ∈ p0, x.block < W.heap.size := by obtain ⟨m, hm⟩ := k0; exact DataW.trod_lt m _ _ _ hm
  have k2 := h2
  have lt2 : ∀ x ∈ p2, x.block < W.heap.size := by obtain ⟨m, hm⟩ := k2; exact DataW.trod_lt m _ _ _ hm
  obtain ⟨ps, hp⟩ := open_pairs8 (hval 0 55 v0 rfl rfl) h0
  obtain ⟨ov, rfl, rfl, rfl, w1⟩ := open_int Try.underlying5 (hval 1 5 v1 rfl rfl) h1
  obtain ⟨xs, hx⟩ := open_bytes8 (hval 2 103 v2 rfl rfl) h2
  obtain ⟨bb, rfl, rfl, rfl⟩ := open_bool Try.underlying4 (hval 3 4 v3 rfl rfl) h3
  clear hA0 hval0
  refine (storeGraham_any ps ov xs bb v0 v2 W hp (u8R_of w1) hx).mono fun e W' ⟨he, bel⟩ => ?_
  subst he
  exact ⟨_, rfl, _, _, _, [], _, [], hW', trodAll_mk1 (shut_bool Try.underlying4 _),
    (trodAll_cons_mk (Below.trod laid_out (by kernel_rfl) (of_decide_eq_true (by kernel_rfl)) k0 bel lt0)
      (trodAll_cons_mk (shut_int Try.underlying5 w1) (trodAll_cons_mk (Below.trod laid_out (by kernel_rfl) (of_decide_eq_true (by kernel_rfl)) k2 bel lt2) (trodAll_cons_mk (shut_bool Try.underlying4 _) trodAll_mk0)))), rfl, bel.frame _, fun h => by cases h⟩

theorem storeGraham_holds : Rows.StoreGrahamSaid :=
  OpenClaim.holds_of_wide 9 Try.f9 rfl rfl rfl rfl rfl rfl rfl ⟨rfl, rfl, rfl, rfl, rfl⟩ rfl rfl rfl rfl rfl (by kernel_rfl) Try.func9 (by kernel_rfl)
    (of_decide_eq_true (by kernel_rfl)) (by unfold Func.isWrapper; first | (rw [if_pos (by decide +kernel)]; kernel_rfl) | (rw [if_neg (by decide +kernel)]; exact ⟨rfl, rfl⟩))
    (fun os started H enc _ => storeGraham_lifted os started H enc)

end Go.Proofs.Ytdjdnfjgklaneaa
