/- Part f of the lemmas and walks. -/
import Derived.Test.YtemkhgdhoingiaaGreatEe

namespace Go.Proofs.YtemkhgdhoingiaaGreat
open Go.RowKit

theorem Sx.to {w0 w W : World} {bs cs : List Bx} {fs : List Fx} (h : Sx w0 w bs fs) (e : w = W) (eb : bs = cs) : Sx w0 W cs fs := by subst e; subst eb; exact h
theorem nbs : (∀ {α : Type} {xs : List α} {i : Nat} (h : i < xs.toArray.size), xs.toArray[i] = xs[i]) ∧ (∀ {α : Type} (a : α) (l : List α) (h : 0 < (a :: l).length), (a :: l)[0] = a) ∧ (∀ {α : Type} (a : α) (l : List α) (i : Nat) (h : i + 1 < (a :: l).length), (a :: l)[i + 1] = l[i]'(by simpa using h)) ∧ (∀ {α : Type} (l : List α) (i : Nat) (a : α), l.toArray.setIfInBounds i a = (l.set i a).toArray) ∧ (∀ {α : Type} {x : α} {xs : List α} {a : α}, (x :: xs).set 0 a = a :: xs) ∧ ∀ {α : Type} {x : α} {xs : List α} {i : Nat} {a : α}, (x :: xs).set (i + 1) a = x :: xs.set i a :=
 ⟨nb1, nb2, nb3, nb4, nb5, nb6⟩
section
variable {P : Program} {ops : Array Oper} {Q : Exit → Act → World → Prop} {md : Region.Mode} {S : World → Prop}
theorem tkB {i : Nat} {oi : Oper} {v : Value} {fuel : Nat} {listed : Array Bool} {a : Act} {w : World} (hi : ops[i]? = some oi) (hy : ∀ w, S w → (execOp a.eval oi).run P w = .ok (.value v) w)
  (h : wpAnyH P md ops Q S fuel (listed.setIfInBounds i true) (a.put oi.dst v) w) (hS : S w := by assumption) (hw : Region.wanted oi (yielded ops a.tmps) = true := by first | rfl | kernel_rfl) (hs : Region.noSelect ops = true := by kernel_rfl) (hf : Region.free md ops listed i = true := by kernel_rfl)
  (hr : (Region.ready md ops listed).contains i = true := by kernel_rfl) (hQ : ∀ c a w, Q (.panic c) (a.put oi.dst v) w → Q (.panic c) a w := by exact fun _ _ _ h => h) : wpAnyH P md ops Q S (fuel + 1) listed a w :=
 tkA hi (Or.inl ⟨hw, hy⟩) hS h hs hf hr hQ
theorem tkC {i : Nat} {oi : Oper} {fuel : Nat} {listed : Array Bool} {a : Act} {w : World} (hi : ops[i]? = some oi)
  (h : wpAnyH P md ops Q S fuel (listed.setIfInBounds i true) (a.put oi.dst undef) w) (hS : S w := by assumption) (hw : Region.wanted oi (yielded ops a.tmps) = false := by first | rfl | kernel_rfl) (hs : Region.noSelect ops = true := by kernel_rfl) (hf : Region.free md ops listed i = true := by kernel_rfl)
  (hr : (Region.ready md ops listed).contains i = true := by kernel_rfl) (hQ : ∀ c a w, Q (.panic c) (a.put oi.dst undef) w → Q (.panic c) a w := by exact fun _ _ _ h => h) : wpAnyH P md ops Q S (fuel + 1) listed a w :=
 tkA (v := undef) hi (Or.inr ⟨hw, rfl⟩) hS h hs hf hr hQ
end
theorem cmp_neg {x y : Rat} : cmpR x y < 0 ↔ x < y := by
 unfold cmpR
 by_cases h : x < y
 ·
  rw [if_pos h]; simp [h]
 ·
  rw [if_neg h]
  by_cases h2 : y < x
  ·
   rw [if_pos h2]; simp [h]
  ·
   rw [if_neg h2]; simp [h]
set_option maxRecDepth 100000 in
set_option maxHeartbeats 4000000 in
theorem rnum_any (n : Int) (w : World) (h1 : -9223372036854775808 ≤ n) (h2 : n ≤ 9223372036854775807) : Calls Tryz.prog 30 #[.int .i64 n] w (RetR (n : Rat) w) := by
 have HS := Lib.hid (Sx.init w)
 have hwn : IntKind.i64.wrap n = n := IntWalk.i64_in _ (by omega)
 go_enter Tryz.func30, Tryz.ntmps30
 go_wp2_with fail
 generalize hW1 : (w).alloc (.cells _ _) = W1 at *
 replace HS := Lib.hid (((HS.out).alloc (B := w.heap.size) rfl (by rfl)).to hW1 (by (try simp only [nb5, nb6]); rfl))
 clear hW1
 refine (qint_any n _ h1 h2).mono ?_
 rintro e w2 ⟨v2, rfl, hv2, hb2⟩
 obtain ⟨z2, rfl⟩ := hv2.open3
 replace HS := Lib.hid (HS.out.below hb2)
 clear hb2
 replace HS := Lib.hid (HS.out.addQ hv2)
 clear hv2
 have b0e := (HS.out.at 0 _ _ _ rfl)
 have b0c0 := blk_cell b0e 0 (.bool false) rfl
 have b0c1 := blk_cell b0e 1 (.slice none 0 0) rfl
 have b0c2 := blk_cell b0e 2 (.slice none 0 0) rfl
 have b0f0 := blk_frozen b0e 0
 have b0f1 := blk_frozen b0e 1
 have b0f2 := blk_frozen b0e 2
 have b0l := blk_lt b0e
 clear b0e
 go_wp2_with fail
 clear b0c0 b0c1 b0c2 b0f0 b0f1 b0f2 b0l
 generalize hW3 : (((w2).setCell _ _).setCell _ _).setCell _ _ = W3 at *
 replace HS := Lib.hid (((HS.out).st_R 0 r30 z2 rfl).to hW3 (by (try simp only [nb5, nb6]); rfl))
 clear hW3
 obtain ⟨b0c0, b0c1, b0c2, _⟩ := fac3 (x := z2) (HS.out.at 0 _ _ _ rfl)
 refine bodyPost_ret (v := z2.val) (by simp [results, Tryz.results30, go_sem, b0c0, b0c1, b0c2]) rfl ⟨_, rfl, (HS.out.q 0 _ _ rfl), HS.out.bel⟩
set_option maxRecDepth 100000 in
set_option maxHeartbeats 4000000 in
theorem rright_any (a : Pt) (w : World) : Calls Tryz.prog 28 #[.agg #[.int .i64 a.1, .int .i64 a.2]] w (RetBool (ptOk a) w) := by
 have HS := Lib.hid (Sx.init w)
 obtain ⟨au, av⟩ := a
 have HR : Hid (ptOk (au, av) = (inB au (-4398046511104) 4398046511104 && inB av (-4398046511104) 4398046511104)) := rfl
 dsimp only
 go_enter Tryz.func28, Tryz.ntmps28
 go_wp2_with fail
 generalize hW1 : (w).alloc (.cells _ _) = W1 at *
 replace HS := Lib.hid (((HS.out).alloc (B := w.heap.size) rfl (by rfl)).to hW1 (by (try simp only [nb5, nb6]); rfl))
 clear hW1
 cases t2 : inB au (-4398046511104) 4398046511104 with
 | true =>
  refine (rwithin_any au 4398046511104 _ (by omega)).mono ?_
  rw [t2]
  rintro e w3 ⟨rfl, hb3⟩
  replace HS := Lib.hid (HS.out.below hb3)
  clear hb3
  have b0e := (HS.out.at 0 _ _ _ rfl)
  have b0c0 := blk_cell b0e 0 (.int .i64 au) rfl
  have b0c1 := blk_cell b0e 1 (.int .i64 av) rfl
  have b0f0 := blk_frozen b0e 0
  have b0f1 := blk_frozen b0e 1
  have b0l := blk_lt b0e
  clear b0e
  go_wp2_with fail
  clear b0c0 b0c1 b0f0 b0f1 b0l
  cases t4 : inB av (-4398046511104) 4398046511104 with
  | true =>
   refine (rwithin_any av 4398046511104 _ (by omega)).mono ?_
   rw [t4]
   rintro e w5 ⟨rfl, hb5⟩
   replace HS := Lib.hid (HS.out.below hb5)
   clear hb5
   go_wp2_with fail
   go_ret
   exact ⟨by rw [HR.out, t2, t4] <;> rfl, HS.out.bel⟩
  | false =>
   refine (rwithin_any av 4398046511104 _ (by omega)).mono ?_
   rw [t4]
   rintro e w6 ⟨rfl, hb6⟩
   replace HS := Lib.hid (HS.out.below hb6)
   clear hb6
   go_wp2_with fail
   go_ret
   exact ⟨by rw [HR.out, t2, t4] <;> rfl, HS.out.bel⟩
 | false =>
  refine (rwithin_any au 4398046511104 _ (by omega)).mono ?_
  rw [t2]
  rintro e w7 ⟨rfl, hb7⟩
  replace HS := Lib.hid (HS.out.below hb7)
  clear hb7
  go_wp2_with fail
  go_ret
  exact ⟨by rw [HR.out, t2] <;> rfl, HS.out.bel⟩
set_option maxRecDepth 100000 in
set_option maxHeartbeats 8000000 in
theorem rcross_any (a b c : Pt) (w : World) (ha : ptOk a = true) (hb : ptOk b = true) (hc : ptOk c = true) : Calls Tryz.prog 41 #[.agg #[.int .i64 a.1, .int .i64 a.2], .agg #[.int .i64 b.1, .int .i64 b.2], .agg #[.int .i64 c.1, .int .i64 c.2]] w (RetR ((crossI a b c : Int) : Rat) w) := by
 have HS := Lib.hid (Sx.init w)
 have HQ := Lib.hid (cross_cast a b c)
 generalize ((crossI a b c : Int) : Rat) = qr at *
 obtain ⟨⟨ra1, ra2⟩, ra3, ra4⟩ := ptOk_range ha
 unfold far at ra1 ra2 ra3 ra4
 obtain ⟨au, av⟩ := a
 try dsimp only at *
 have HNau : Hid (∀ W, Calls Tryz.prog 30 #[.int .i64 au] W (RetR ((au : Int) : Rat) W)) := fun W => rnum_any au W (by omega) (by omega)
 have Zau := Lib.hid (i64_szR au (by omega) (by omega) 1 (by omega))
 have HNav : Hid (∀ W, Calls Tryz.prog 30 #[.int .i64 av] W (RetR ((av : Int) : Rat) W)) := fun W => rnum_any av W (by omega) (by omega)
 have Zav := Lib.hid (i64_szR av (by omega) (by omega) 1 (by omega))
 obtain ⟨⟨rb1, rb2⟩, rb3, rb4⟩ := ptOk_range hb
 unfold far at rb1 rb2 rb3 rb4
 obtain ⟨bu, bv⟩ := b
 try dsimp only at *
 have HNbu : Hid (∀ W, Calls Tryz.prog 30 #[.int .i64 bu] W (RetR ((bu : Int) : Rat) W)) := fun W => rnum_any bu W (by omega) (by omega)
 have Zbu := Lib.hid (i64_szR bu (by omega) (by omega) 1 (by omega))
 have HNbv : Hid (∀ W, Calls Tryz.prog 30 #[.int .i64 bv] W (RetR ((bv : Int) : Rat) W)) := fun W => rnum_any bv W (by omega) (by omega)
 have Zbv := Lib.hid (i64_szR bv (by omega) (by omega) 1 (by omega))
 obtain ⟨⟨rc1, rc2⟩, rc3, rc4⟩ := ptOk_range hc
 unfold far at rc1 rc2 rc3 rc4
 obtain ⟨cu, cv⟩ := c
 try dsimp only at *
 have HNcu : Hid (∀ W, Calls Tryz.prog 30 #[.int .i64 cu] W (RetR ((cu : Int) : Rat) W)) := fun W => rnum_any cu W (by omega) (by omega)
 have Zcu := Lib.hid (i64_szR cu (by omega) (by omega) 1 (by omega))
 have HNcv : Hid (∀ W, Calls Tryz.prog 30 #[.int .i64 cv] W (RetR ((cv : Int) : Rat) W)) := fun W => rnum_any cv W (by omega) (by omega)
 have Zcv := Lib.hid (i64_szR cv (by omega) (by omega) 1 (by omega))
 clear ha ra1 ra2 ra3 ra4 hb rb1 rb2 rb3 rb4 hc rc1 rc2 rc3 rc4
 generalize ((au : Int) : Rat) = qau at *
 generalize ((av : Int) : Rat) = qav at *
 generalize ((bu : Int) : Rat) = qbu at *
 generalize ((bv : Int) : Rat) = qbv at *
 generalize ((cu : Int) : Rat) = qcu at *
 generalize ((cv : Int) : Rat) = qcv at *
 go_enter Tryz.func41, Tryz.ntmps41
 go_wp2_with fail
 generalize hW1 : ((((w).alloc (.cells _ _)).alloc (.cells _ _)).alloc (.cells _ _)).alloc (.cells _ _) = W1 at *
 replace HS := Lib.hid ((((((HS.out).alloc (B := w.heap.size) rfl (by rfl)).alloc (B := w.heap.size + 1) (by simp) (by rfl)).alloc (B := w.heap.size + 2) (by simp) (by rfl)).alloc (B := w.heap.size + 3) (by simp) (by rfl)).to hW1 (by (try simp only [nb5, nb6]); rfl))
 clear hW1
 refine wp_region_held_drew (S := (fun w' => Sx w w' [(w.heap.size + 3, #[.bool false, .slice none 0 0, .slice none 0 0], 37), (w.heap.size + 2, #[.int .i64 cu, .int .i64 cv], 25), (w.heap.size + 1, #[.int .i64 bu, .int .i64 bv], 25), (w.heap.size, #[.int .i64 au, .int .i64 av], 25)] [])) (by kernel_rfl) ((HS.out.drew).bare) (fun hh => ?_)
 replace HS := Lib.hid HS.out.drew
 have HSW := Lib.hid HS.out.bel.size
 refine tkB (i := 0) (v := ?vk3) rfl ?hk3 ?rk3
 case hk3 => intro u hSu; go_simp <;> with_reducible rfl
 try simp only [nbs, Act.put]
 refine tkB (i := 1) (v := ?vk4) rfl ?hk4 ?rk4
 case hk4 => intro u hSu; (try dsimp only at hSu); have qb1e := (hSu.at 2 _ _ _ rfl); have qb1c0 := blk_cell qb1e 0 (.int .i64 bu) rfl; have qb1c1 := blk_cell qb1e 1 (.int .i64 bv) rfl; clear qb1e; clear hSu; go_simp <;> with_reducible rfl
 try simp only [nbs, Act.put]
 refine tkB (i := 3) (v := ?vk5) rfl ?hk5 ?rk5
 case hk5 => intro u hSu; go_simp <;> with_reducible rfl
 try simp only [nbs, Act.put]
 refine tkB (i := 4) (v := ?vk6) rfl ?hk6 ?rk6
 case hk6 => intro u hSu; (try dsimp only at hSu); have qb0e := (hSu.at 3 _ _ _ rfl); have qb0c0 := blk_cell qb0e 0 (.int .i64 au) rfl; have qb0c1 := blk_cell qb0e 1 (.int .i64 av) rfl; clear qb0e; clear hSu; go_simp <;> with_reducible rfl
 try simp only [nbs, Act.put]
 refine tkB (i := 7) (v := ?vk7) rfl ?hk7 ?rk7
 case hk7 => intro u hSu; go_simp <;> with_reducible rfl
 try simp only [nbs, Act.put]
 refine tkB (i := 8) (v := ?vk8) rfl ?hk8 ?rk8
 case hk8 => intro u hSu; (try dsimp only at hSu); have qb2e := (hSu.at 1 _ _ _ rfl); have qb2c0 := blk_cell qb2e 0 (.int .i64 cu) rfl; have qb2c1 := blk_cell qb2e 1 (.int .i64 cv) rfl; clear qb2e; clear hSu; go_simp <;> with_reducible rfl
 try simp only [nbs, Act.put]
 refine tkB (i := 10) (v := ?vk9) rfl ?hk9 ?rk9
 case hk9 => intro u hSu; go_simp <;> with_reducible rfl
 try simp only [nbs, Act.put]
 refine tkB (i := 11) (v := ?vk10) rfl ?hk10 ?rk10
 case hk10 => intro u hSu; (try dsimp only at hSu); have qb0e := (hSu.at 3 _ _ _ rfl); have qb0c0 := blk_cell qb0e 0 (.int .i64 au) rfl; have qb0c1 := blk_cell qb0e 1 (.int .i64 av) rfl; clear qb0e; clear hSu; go_simp <;> with_reducible rfl
 try simp only [nbs, Act.put]
 refine wpAnyH_modular [2, 5, 6, 9, 12, 13, 14, 15] [2, 5, 6, 9, 12, 13, 14, 15] [] [10, 13, 14, 17, 20, 21, 22, 7] #[true, true, true, true, true, true, true, true, true, true, true, true, true, true, true, true, false] 1 [(2, 10), (5, 13), (6, 14), (9, 17), (12, 20), (13, 21), (14, 22), (15, 7)] [(2, []), (5, [2]), (6, [2, 5]), (9, [6]), (12, [9]), (13, [9, 12]), (14, [6, 13]), (15, [])] [15] [(2, fun v w => ∃ z11 : R3, v = z11.val ∧ Fr false w z11.val qbu), (5, fun v w => ∃ z12 : R3, v = z12.val ∧ Fr false w z12.val qau), (6, fun v w => ∃ z13 : R3, v = z13.val ∧ Fr false w z13.val (qbu - qau)), (9, fun v w => ∃ z14 : R3, v = z14.val ∧ Fr false w z14.val qcv), (12, fun v w => ∃ z15 : R3, v = z15.val ∧ Fr false w z15.val qav), (13, fun v w => ∃ z16 : R3, v = z16.val ∧ Fr false w z16.val (qcv - qav)), (14, fun v w => ∃ z17 : R3, v = z17.val ∧ Fr false w z17.val ((qbu - qau) * (qcv - qav))), (15, fun v w => ∃ Br2_15 : Nat, v = .pointer (some ⟨Br2_15, 0, none⟩) ∧ W1.drew.heap.size ≤ Br2_15 ∧ w.heap[Br2_15]? = some (.cells #[.bool false, .slice none 0 0, .slice none 0 0] 37 (0, 0)))]
  rfl (by kernel_rfl) (by decide) rfl ⟨(fun v w w' hb ⟨z0, e, h0⟩ => ⟨z0, e, Fr.below h0 hb⟩), ⟨(fun v w w' hb ⟨z0, e, h0⟩ => ⟨z0, e, Fr.below h0 hb⟩), ⟨(fun v w w' hb ⟨z0, e, h0⟩ => ⟨z0, e, Fr.below h0 hb⟩), ⟨(fun v w w' hb ⟨z0, e, h0⟩ => ⟨z0, e, Fr.below h0 hb⟩), ⟨(fun v w w' hb ⟨z0, e, h0⟩ => ⟨z0, e, Fr.below h0 hb⟩), ⟨(fun v w w' hb ⟨z0, e, h0⟩ => ⟨z0, e, Fr.below h0 hb⟩), ⟨(fun v w w' hb ⟨z0, e, h0⟩ => ⟨z0, e, Fr.below h0 hb⟩), ⟨(fun v w w' hb ⟨B, e, g, k⟩ => ⟨B, e, g, blk_keep k hb (blk_lt k)⟩), trivial⟩⟩⟩⟩⟩⟩⟩⟩ ⟨fun v w ⟨B, e, g, k⟩ => ⟨B, e, blk_lt k⟩, trivial⟩ (fun w' hb => Sx.below hh hb) ⟨?_, ?_, ?_, ?_, ?_, ?_, ?_, ?_, trivial⟩ trivial (by decide) ?_
 ·
  refine StepM.of rfl (fun f w' hb hp K hK => ?_)
  have HSB := HS
  replace HS := Lib.hid (HS.out.below hb)
  simp only [fillA, fillT, List.foldl_cons, List.foldl_nil, Act.put, nb4, nb5, nb6]
  go_simp
  go_wp2_with (go_at_call 30; (with_reducible refine (HNbu.out _).mono ?_); rintro e w11 ⟨v11, rfl, hv11, hb11⟩; obtain ⟨z11, rfl⟩ := hv11.open3)
  exact hK.out _ _ (z11.val) (by simp only [fillA, fillT, List.foldl_cons, List.foldl_nil, Act.put, nb4, nb5, nb6, nb1, nb2, nb3]) ⟨z11, rfl, hv11⟩ (fun h => absurd h (by decide)) hb11
 ·
  refine StepM.of rfl (fun f w' hb hp K hK => ?_)
  have HSB := HS
  replace HS := Lib.hid (HS.out.below hb)
  simp only [fillA, fillT, List.foldl_cons, List.foldl_nil, Act.put, nb4, nb5, nb6]
  go_simp
  go_wp2_with (go_at_call 30; (with_reducible refine (HNau.out _).mono ?_); rintro e w12 ⟨v12, rfl, hv12, hb12⟩; obtain ⟨z12, rfl⟩ := hv12.open3)
  exact hK.out _ _ (z12.val) (by simp only [fillA, fillT, List.foldl_cons, List.foldl_nil, Act.put, nb4, nb5, nb6, nb1, nb2, nb3]) ⟨z12, rfl, hv12⟩ (fun h => absurd h (by decide)) hb12
 ·
  refine StepM.of rfl (fun f w' hb hp K hK => ?_)
  obtain ⟨z11, e2, h2_0⟩ : ∃ z11 : R3, f 10 = z11.val ∧ Fr false w' z11.val qbu := hp 2 (by decide)
  obtain ⟨z12, e5, h5_0⟩ : ∃ z12 : R3, f 13 = z12.val ∧ Fr false w' z12.val qau := hp 5 (by decide)
  have HSB := HS
  replace HS := Lib.hid (HS.out.below hb)
  replace HS := Lib.hid (HS.out.addQ h2_0)
  replace HS := Lib.hid (HS.out.addQ h5_0)
  simp only [fillA, fillT, List.foldl_cons, List.foldl_nil, Act.put, nb4, nb5, nb6, e2, e5]
  have a18 := HS.out.q 1 _ _ rfl
  have a19 := HS.out.q 0 _ _ rfl
  go_simp
  go_wp2_with (go_at_call 72; (with_reducible refine (qsub_any qbu qau _ _ _ a18 a19 (szQ_mono (szQ_of Zbu.out) (by omega)) (szQ_mono (szQ_of Zau.out) (by omega))).mono ?_); rintro e w13 ⟨v13, rfl, hv13, hb13⟩; obtain ⟨z13, rfl⟩ := hv13.open3)
  exact hK.out _ _ (z13.val) (by simp only [fillA, fillT, List.foldl_cons, List.foldl_nil, Act.put, nb4, nb5, nb6, nb1, nb2, nb3, e2, e5]) ⟨z13, rfl, hv13⟩ (fun h => absurd h (by decide)) hb13
 ·
  refine StepM.of rfl (fun f w' hb hp K hK => ?_)
  have HSB := HS
  replace HS := Lib.hid (HS.out.below hb)
  simp only [fillA, fillT, List.foldl_cons, List.foldl_nil, Act.put, nb4, nb5, nb6]
  go_simp
  go_wp2_with (go_at_call 30; (with_reducible refine (HNcv.out _).mono ?_); rintro e w14 ⟨v14, rfl, hv14, hb14⟩; obtain ⟨z14, rfl⟩ := hv14.open3)
  exact hK.out _ _ (z14.val) (by simp only [fillA, fillT, List.foldl_cons, List.foldl_nil, Act.put, nb4, nb5, nb6, nb1, nb2, nb3]) ⟨z14, rfl, hv14⟩ (fun h => absurd h (by decide)) hb14
 ·
  refine StepM.of rfl (fun f w' hb hp K hK => ?_)
  have HSB := HS
  replace HS := Lib.hid (HS.out.below hb)
  simp only [fillA, fillT, List.foldl_cons, List.foldl_nil, Act.put, nb4, nb5, nb6]
  go_simp
  go_wp2_with (go_at_call 30; (with_reducible refine (HNav.out _).mono ?_); rintro e w15 ⟨v15, rfl, hv15, hb15⟩; obtain ⟨z15, rfl⟩ := hv15.open3)
  exact hK.out _ _ (z15.val) (by simp only [fillA, fillT, List.foldl_cons, List.foldl_nil, Act.put, nb4, nb5, nb6, nb1, nb2, nb3]) ⟨z15, rfl, hv15⟩ (fun h => absurd h (by decide)) hb15
 ·
  refine StepM.of rfl (fun f w' hb hp K hK => ?_)
  obtain ⟨z14, e9, h9_0⟩ : ∃ z14 : R3, f 17 = z14.val ∧ Fr false w' z14.val qcv := hp 9 (by decide)
  obtain ⟨z15, e12, h12_0⟩ : ∃ z15 : R3, f 20 = z15.val ∧ Fr false w' z15.val qav := hp 12 (by decide)
  have HSB := HS
  replace HS := Lib.hid (HS.out.below hb)
  replace HS := Lib.hid (HS.out.addQ h9_0)
  replace HS := Lib.hid (HS.out.addQ h12_0)
  simp only [fillA, fillT, List.foldl_cons, List.foldl_nil, Act.put, nb4, nb5, nb6, e9, e12]
  have a20 := HS.out.q 1 _ _ rfl
  have a21 := HS.out.q 0 _ _ rfl
  go_simp
  go_wp2_with (go_at_call 72; (with_reducible refine (qsub_any qcv qav _ _ _ a20 a21 (szQ_mono (szQ_of Zcv.out) (by omega)) (szQ_mono (szQ_of Zav.out) (by omega))).mono ?_); rintro e w16 ⟨v16, rfl, hv16, hb16⟩; obtain ⟨z16, rfl⟩ := hv16.open3)
  exact hK.out _ _ (z16.val) (by simp only [fillA, fillT, List.foldl_cons, List.foldl_nil, Act.put, nb4, nb5, nb6, nb1, nb2, nb3, e9, e12]) ⟨z16, rfl, hv16⟩ (fun h => absurd h (by decide)) hb16
 ·
  refine StepM.of rfl (fun f w' hb hp K hK => ?_)
  obtain ⟨z13, e6, h6_0⟩ : ∃ z13 : R3, f 14 = z13.val ∧ Fr false w' z13.val (qbu - qau) := hp 6 (by decide)
  obtain ⟨z16, e13, h13_0⟩ : ∃ z16 : R3, f 21 = z16.val ∧ Fr false w' z16.val (qcv - qav) := hp 13 (by decide)
  have HSB := HS
  replace HS := Lib.hid (HS.out.below hb)
  replace HS := Lib.hid (HS.out.addQ h6_0)
  replace HS := Lib.hid (HS.out.addQ h13_0)
  simp only [fillA, fillT, List.foldl_cons, List.foldl_nil, Act.put, nb4, nb5, nb6, e6, e13]
  have a22 := HS.out.q 1 _ _ rfl
  have a23 := HS.out.q 0 _ _ rfl
  go_simp
  go_wp2_with (go_at_call 44; (with_reducible refine (qmul_any (qbu - qau) (qcv - qav) _ _ _ a22 a23 (szQ_mono (szQ_of (szR_sub Zbu.out Zau.out)) (by omega)) (szQ_mono (szQ_of (szR_sub Zcv.out Zav.out)) (by omega))).mono ?_); rintro e w17 ⟨v17, rfl, hv17, hb17⟩; obtain ⟨z17, rfl⟩ := hv17.open3)
  exact hK.out _ _ (z17.val) (by simp only [fillA, fillT, List.foldl_cons, List.foldl_nil, Act.put, nb4, nb5, nb6, nb1, nb2, nb3, e6, e13]) ⟨z17, rfl, hv17⟩ (fun h => absurd h (by decide)) hb17
 ·
  refine StepM.of rfl (fun f w' hb hp K hK => ?_)
  have HSB := HS
  replace HS := Lib.hid (HS.out.below hb)
  simp only [fillA, fillT, List.foldl_cons, List.foldl_nil, Act.put, nb4, nb5, nb6]
  go_simp
  exact hK.out _ _ (.pointer (some ⟨w'.heap.size, 0, none⟩)) (by simp only [fillA, fillT, List.foldl_cons, List.foldl_nil, Act.put, nb4, nb5, nb6, nb1, nb2, nb3]) ⟨_, rfl, hb.size, blk_new _ _ _⟩ (fun _ => rfl) (below1 w' _)
 ·
  intro f wr2 hb hp hd
  obtain ⟨z11, e2, h2_0⟩ : ∃ z11 : R3, f 10 = z11.val ∧ Fr false wr2 z11.val qbu := hp 2 (by decide)
  obtain ⟨z12, e5, h5_0⟩ : ∃ z12 : R3, f 13 = z12.val ∧ Fr false wr2 z12.val qau := hp 5 (by decide)
  obtain ⟨z13, e6, h6_0⟩ : ∃ z13 : R3, f 14 = z13.val ∧ Fr false wr2 z13.val (qbu - qau) := hp 6 (by decide)
  obtain ⟨z14, e9, h9_0⟩ : ∃ z14 : R3, f 17 = z14.val ∧ Fr false wr2 z14.val qcv := hp 9 (by decide)
  obtain ⟨z15, e12, h12_0⟩ : ∃ z15 : R3, f 20 = z15.val ∧ Fr false wr2 z15.val qav := hp 12 (by decide)
  obtain ⟨z16, e13, h13_0⟩ : ∃ z16 : R3, f 21 = z16.val ∧ Fr false wr2 z16.val (qcv - qav) := hp 13 (by decide)
  obtain ⟨z17, e14, h14_0⟩ : ∃ z17 : R3, f 22 = z17.val ∧ Fr false wr2 z17.val ((qbu - qau) * (qcv - qav)) := hp 14 (by decide)
  obtain ⟨Br2_15, e15, g15, k15⟩ : ∃ Br2_15 : Nat, f 7 = .pointer (some ⟨Br2_15, 0, none⟩) ∧ W1.drew.heap.size ≤ Br2_15 ∧ wr2.heap[Br2_15]? = some (.cells #[.bool false, .slice none 0 0, .slice none 0 0] 37 (0, 0)) := hp 15 (by decide)
  replace hh := Sx.below hh hb
  have hlt := HS.out.lt
  replace HS := Lib.hid (HS.out.below hb)
  replace HS := Lib.hid (HS.out.addQ h2_0)
  replace HS := Lib.hid (HS.out.addQ h5_0)
  replace HS := Lib.hid (HS.out.addQ h6_0)
  replace HS := Lib.hid (HS.out.addQ h9_0)
  replace HS := Lib.hid (HS.out.addQ h12_0)
  replace HS := Lib.hid (HS.out.addQ h13_0)
  replace HS := Lib.hid (HS.out.addQ h14_0)
  have hge15 : w.heap.size ≤ Br2_15 := Nat.le_trans HSW.out g15
  have hne15 : ∀ b, b ∈ ([(w.heap.size + 3, #[.bool false, .slice none 0 0, .slice none 0 0], 37), (w.heap.size + 2, #[.int .i64 cu, .int .i64 cv], 25), (w.heap.size + 1, #[.int .i64 bu, .int .i64 bv], 25), (w.heap.size, #[.int .i64 au, .int .i64 av], 25)] : List Bx) → b.1 ≠ Br2_15 := by
   intro b hb
   simp only [List.mem_cons, List.not_mem_nil, or_false] at hb
   rcases hb with rfl | rfl | rfl | rfl
   ·
    have := hlt _ (List.mem_iff_getElem?.2 ⟨0, rfl⟩); dsimp only at this ⊢; omega
   ·
    have := hlt _ (List.mem_iff_getElem?.2 ⟨1, rfl⟩); dsimp only at this ⊢; omega
   ·
    have := hlt _ (List.mem_iff_getElem?.2 ⟨2, rfl⟩); dsimp only at this ⊢; omega
   ·
    have := hlt _ (List.mem_iff_getElem?.2 ⟨3, rfl⟩); dsimp only at this ⊢; omega
  replace HS := Lib.hid (HS.out.addBox k15 hge15 (by rfl) hne15)
  simp only [fillA, fillT, List.foldl_cons, List.foldl_nil, Act.put, nb4, nb5, nb6, e2, e5, e6, e9, e12, e13, e14, e15]
  clear hp hd hb hlt e2 e5 e6 e9 e12 e13 e14 e15
  refine rdA (i := 16) rfl (fun K hK => ?_)
  have b4e := (HS.out.at 0 _ _ _ rfl)
  have b4c0 := blk_cell b4e 0 (.bool false) rfl
  have b4c1 := blk_cell b4e 1 (.slice none 0 0) rfl
  have b4c2 := blk_cell b4e 2 (.slice none 0 0) rfl
  have b4f0 := blk_frozen b4e 0
  have b4f1 := blk_frozen b4e 1
  have b4f2 := blk_frozen b4e 2
  have b4l := blk_lt b4e
  clear b4e
  go_simp
  refine hK.out _ _ ((((HS.out).st_R 0 r30 z17 rfl)).erase 0) (fun hh => ?_)
  clear hK K b4c0 b4c1 b4c2 b4f0 b4f1 b4f2 b4l
  try simp only [nbs, Act.put]
  generalize hW24 : (((wr2).setCell _ _).setCell _ _).setCell _ _ = W24 at *
  replace HS := Lib.hid (((HS.out).st_R 0 r30 z17 rfl).to hW24 (by (try simp only [nb5, nb6]); rfl))
  clear hW24
  refine wpAnyH_done (by kernel_rfl) ?_ _
  go_wp2_with fail
  refine wp_region_held_drew (S := (fun w' => Sx w w' [(Br2_15, z17.arr, 37), (w.heap.size + 2, #[.int .i64 cu, .int .i64 cv], 25), (w.heap.size + 1, #[.int .i64 bu, .int .i64 bv], 25), (w.heap.size, #[.int .i64 au, .int .i64 av], 25)] [])) (by kernel_rfl) ((HS.out.drew).erase 1) (fun hh => ?_)
  replace HS := Lib.hid HS.out.drew
  refine tkB (i := 0) (v := ?vk26) rfl ?hk26 ?rk26
  case hk26 => intro u hSu; (try dsimp only at hSu); obtain ⟨qb4c0, qb4c1, qb4c2, _⟩ := fac3 (x := z17) (hSu.at 0 _ _ _ rfl); clear hSu; go_simp <;> with_reducible rfl
  try simp only [nbs, Act.put]
  refine tkB (i := 1) (v := ?vk27) rfl ?hk27 ?rk27
  case hk27 => intro u hSu; go_simp <;> with_reducible rfl
  try simp only [nbs, Act.put]
  refine tkB (i := 2) (v := ?vk28) rfl ?hk28 ?rk28
  case hk28 => intro u hSu; (try dsimp only at hSu); have qb1e := (hSu.at 2 _ _ _ rfl); have qb1c0 := blk_cell qb1e 0 (.int .i64 bu) rfl; have qb1c1 := blk_cell qb1e 1 (.int .i64 bv) rfl; clear qb1e; clear hSu; go_simp <;> with_reducible rfl
  try simp only [nbs, Act.put]
  refine tkB (i := 4) (v := ?vk29) rfl ?hk29 ?rk29
  case hk29 => intro u hSu; go_simp <;> with_reducible rfl
  try simp only [nbs, Act.put]
  refine tkB (i := 5) (v := ?vk30) rfl ?hk30 ?rk30
  case hk30 => intro u hSu; (try dsimp only at hSu); have qb0e := (hSu.at 3 _ _ _ rfl); have qb0c0 := blk_cell qb0e 0 (.int .i64 au) rfl; have qb0c1 := blk_cell qb0e 1 (.int .i64 av) rfl; clear qb0e; clear hSu; go_simp <;> with_reducible rfl
  try simp only [nbs, Act.put]
  refine tkB (i := 8) (v := ?vk31) rfl ?hk31 ?rk31
  case hk31 => intro u hSu; go_simp <;> with_reducible rfl
  try simp only [nbs, Act.put]
  refine tkB (i := 9) (v := ?vk32) rfl ?hk32 ?rk32
  case hk32 => intro u hSu; (try dsimp only at hSu); have qb2e := (hSu.at 1 _ _ _ rfl); have qb2c0 := blk_cell qb2e 0 (.int .i64 cu) rfl; have qb2c1 := blk_cell qb2e 1 (.int .i64 cv) rfl; clear qb2e; clear hSu; go_simp <;> with_reducible rfl
  try simp only [nbs, Act.put]
  refine tkB (i := 11) (v := ?vk33) rfl ?hk33 ?rk33
  case hk33 => intro u hSu; go_simp <;> with_reducible rfl
  try simp only [nbs, Act.put]
  refine tkB (i := 12) (v := ?vk34) rfl ?hk34 ?rk34
  case hk34 => intro u hSu; (try dsimp only at hSu); have qb0e := (hSu.at 3 _ _ _ rfl); have qb0c0 := blk_cell qb0e 0 (.int .i64 au) rfl; have qb0c1 := blk_cell qb0e 1 (.int .i64 av) rfl; clear qb0e; clear hSu; go_simp <;> with_reducible rfl
  try simp only [nbs, Act.put]
  refine rdA (i := 3) rfl (fun K hK => ?_)
  go_simp
  go_wp2_with (go_at_call 30; (with_reducible refine (HNbv.out _).mono ?_); rintro e w35 ⟨v35, rfl, hv35, hb35⟩; obtain ⟨z35, rfl⟩ := hv35.open3)
  refine hK.out _ _ (Sx.below hh hb35) (fun hh => ?_)
  clear hK K
  try simp only [nbs, Act.put]
  replace HS := Lib.hid (HS.out.below hb35)
  clear hb35
  replace HS := Lib.hid (HS.out.addQ hv35)
  clear hv35
  refine rdA (i := 6) rfl (fun K hK => ?_)
  go_simp
  go_wp2_with (go_at_call 30; (with_reducible refine (HNav.out _).mono ?_); rintro e w36 ⟨v36, rfl, hv36, hb36⟩; obtain ⟨z36, rfl⟩ := hv36.open3)
  refine hK.out _ _ (Sx.below hh hb36) (fun hh => ?_)
  clear hK K
  try simp only [nbs, Act.put]
  replace HS := Lib.hid (HS.out.below hb36)
  clear hb36
  replace HS := Lib.hid (HS.out.addQ hv36)
  clear hv36
  refine rdA (i := 7) rfl (fun K hK => ?_)
  go_simp
  have a38 := HS.out.q 1 _ _ rfl
  have a39 := HS.out.q 0 _ _ rfl
  go_wp2_with (go_at_call 72; (with_reducible refine (qsub_any qbv qav _ _ _ a38 a39 (szQ_mono (szQ_of Zbv.out) (by omega)) (szQ_mono (szQ_of Zav.out) (by omega))).mono ?_); rintro e w37 ⟨v37, rfl, hv37, hb37⟩; obtain ⟨z37, rfl⟩ := hv37.open3)
  refine hK.out _ _ (Sx.below hh hb37) (fun hh => ?_)
  clear hK K
  try simp only [nbs, Act.put]
  replace HS := Lib.hid (HS.out.below hb37)
  clear hb37 a38 a39
  replace HS := Lib.hid (HS.out.addQ hv37)
  clear hv37
  refine rdA (i := 10) rfl (fun K hK => ?_)
  go_simp
  go_wp2_with (go_at_call 30; (with_reducible refine (HNcu.out _).mono ?_); rintro e w40 ⟨v40, rfl, hv40, hb40⟩; obtain ⟨z40, rfl⟩ := hv40.open3)
  refine hK.out _ _ (Sx.below hh hb40) (fun hh => ?_)
  clear hK K
  try simp only [nbs, Act.put]
  replace HS := Lib.hid (HS.out.below hb40)
  clear hb40
  replace HS := Lib.hid (HS.out.addQ hv40)
  clear hv40
  refine rdA (i := 13) rfl (fun K hK => ?_)
  go_simp
  go_wp2_with (go_at_call 30; (with_reducible refine (HNau.out _).mono ?_); rintro e w41 ⟨v41, rfl, hv41, hb41⟩; obtain ⟨z41, rfl⟩ := hv41.open3)
  refine hK.out _ _ (Sx.below hh hb41) (fun hh => ?_)
  clear hK K
  try simp only [nbs, Act.put]
  replace HS := Lib.hid (HS.out.below hb41)
  clear hb41
  replace HS := Lib.hid (HS.out.addQ hv41)
  clear hv41
  refine rdA (i := 14) rfl (fun K hK => ?_)
  go_simp
  have a43 := HS.out.q 1 _ _ rfl
  have a44 := HS.out.q 0 _ _ rfl
  go_wp2_with (go_at_call 72; (with_reducible refine (qsub_any qcu qau _ _ _ a43 a44 (szQ_mono (szQ_of Zcu.out) (by omega)) (szQ_mono (szQ_of Zau.out) (by omega))).mono ?_); rintro e w42 ⟨v42, rfl, hv42, hb42⟩; obtain ⟨z42, rfl⟩ := hv42.open3)
  refine hK.out _ _ (Sx.below hh hb42) (fun hh => ?_)
  clear hK K
  try simp only [nbs, Act.put]
  replace HS := Lib.hid (HS.out.below hb42)
  clear hb42 a43 a44
  replace HS := Lib.hid (HS.out.addQ hv42)
  clear hv42
  refine rdA (i := 15) rfl (fun K hK => ?_)
  go_simp
  have a46 := HS.out.q 3 _ _ rfl
  have a47 := HS.out.q 0 _ _ rfl
  go_wp2_with (go_at_call 44; (with_reducible refine (qmul_any (qbv - qav) (qcu - qau) _ _ _ a46 a47 (szQ_mono (szQ_of (szR_sub Zbv.out Zav.out)) (by omega)) (szQ_mono (szQ_of (szR_sub Zcu.out Zau.out)) (by omega))).mono ?_); rintro e w45 ⟨v45, rfl, hv45, hb45⟩; obtain ⟨z45, rfl⟩ := hv45.open3)
  refine hK.out _ _ (Sx.below hh hb45) (fun hh => ?_)
  clear hK K
  try simp only [nbs, Act.put]
  replace HS := Lib.hid (HS.out.below hb45)
  clear hb45 a46 a47
  replace HS := Lib.hid (HS.out.addQ hv45)
  clear hv45
  refine rdA (i := 16) rfl (fun K hK => ?_)
  go_simp
  have a49 := HS.out.q 7 _ _ rfl
  have a50 := HS.out.q 0 _ _ rfl
  go_wp2_with (go_at_call 72; (with_reducible refine (qsub_any ((qbu - qau) * (qcv - qav)) ((qbv - qav) * (qcu - qau)) _ _ _ a49 a50 (szQ_mono (szQ_of (szR_mul (szR_sub Zbu.out Zau.out) (szR_sub Zcv.out Zav.out))) (by omega)) (szQ_mono (szQ_of (szR_mul (szR_sub Zbv.out Zav.out) (szR_sub Zcu.out Zau.out))) (by omega))).mono ?_); rintro e w48 ⟨v48, rfl, hv48, hb48⟩; obtain ⟨z48, rfl⟩ := hv48.open3)
  refine hK.out _ _ (Sx.below hh hb48) (fun hh => ?_)
  clear hK K
  try simp only [nbs, Act.put]
  replace HS := Lib.hid (HS.out.below hb48)
  clear hb48 a49 a50
  replace HS := Lib.hid (HS.out.addQ hv48)
  clear hv48
  refine rdA (i := 17) rfl (fun K hK => ?_)
  have b3e := (HS.out.at 1 _ _ _ rfl)
  have b3c0 := blk_cell b3e 0 (.bool false) rfl
  have b3c1 := blk_cell b3e 1 (.slice none 0 0) rfl
  have b3c2 := blk_cell b3e 2 (.slice none 0 0) rfl
  have b3f0 := blk_frozen b3e 0
  have b3f1 := blk_frozen b3e 1
  have b3f2 := blk_frozen b3e 2
  have b3l := blk_lt b3e
  clear b3e
  go_simp
  refine hK.out _ _ ((((HS.out).st_R 1 r30 z48 rfl)).erase 1) (fun hh => ?_)
  clear hK K b3c0 b3c1 b3c2 b3f0 b3f1 b3f2 b3l
  try simp only [nbs, Act.put]
  generalize hW51 : (((w48).setCell _ _).setCell _ _).setCell _ _ = W51 at *
  replace HS := Lib.hid (((HS.out).st_R 1 r30 z48 rfl).to hW51 (by (try simp only [nb5, nb6]); rfl))
  clear hW51
  refine wpAnyH_done (by kernel_rfl) ?_ _
  obtain ⟨b3c0, b3c1, b3c2, b3f0, b3f1, b3f2⟩ := fac3 (x := z48) (HS.out.at 1 _ _ _ rfl)
  have b3l := blk_lt (HS.out.at 1 _ _ _ rfl)
  go_wp2_with fail
  clear b3c0 b3c1 b3c2 b3f0 b3f1 b3f2 b3l
  obtain ⟨b3c0, b3c1, b3c2, _⟩ := fac3 (x := z48) (HS.out.at 1 _ _ _ rfl)
  refine bodyPost_ret (v := z48.val) (by simp [results, Tryz.results41, go_sem, b3c0, b3c1, b3c2]) rfl ⟨_, rfl, by rw [← HQ.out]; exact (HS.out.q 0 _ _ rfl), HS.out.bel⟩
set_option maxRecDepth 100000 in
set_option maxHeartbeats 8000000 in
theorem rapart_any (a b : Pt) (w : World) (ha : ptOk a = true) (hb : ptOk b = true) : Calls Tryz.prog 45 #[.agg #[.int .i64 a.1, .int .i64 a.2], .agg #[.int .i64 b.1, .int .i64 b.2]] w (RetR ((apartI a b : Int) : Rat) w) := by
 have HS := Lib.hid (Sx.init w)
 have HQ := Lib.hid (apart_cast a b)
 generalize ((apartI a b : Int) : Rat) = qr at *
 obtain ⟨⟨ra1, ra2⟩, ra3, ra4⟩ := ptOk_range ha
 unfold far at ra1 ra2 ra3 ra4
 obtain ⟨au, av⟩ := a
 try dsimp only at *
 have HNau : Hid (∀ W, Calls Tryz.prog 30 #[.int .i64 au] W (RetR ((au : Int) : Rat) W)) := fun W => rnum_any au W (by omega) (by omega)
 have Zau := Lib.hid (i64_szR au (by omega) (by omega) 1 (by omega))
 have HNav : Hid (∀ W, Calls Tryz.prog 30 #[.int .i64 av] W (RetR ((av : Int) : Rat) W)) := fun W => rnum_any av W (by omega) (by omega)
 have Zav := Lib.hid (i64_szR av (by omega) (by omega) 1 (by omega))
 obtain ⟨⟨rb1, rb2⟩, rb3, rb4⟩ := ptOk_range hb
 unfold far at rb1 rb2 rb3 rb4
 obtain ⟨bu, bv⟩ := b
 try dsimp only at *
 have HNbu : Hid (∀ W, Calls Tryz.prog 30 #[.int .i64 bu] W (RetR ((bu : Int) : Rat) W)) := fun W => rnum_any bu W (by omega) (by omega)
 have Zbu := Lib.hid (i64_szR bu (by omega) (by omega) 1 (by omega))
 have HNbv : Hid (∀ W, Calls Tryz.prog 30 #[.int .i64 bv] W (RetR ((bv : Int) : Rat) W)) := fun W => rnum_any bv W (by omega) (by omega)
 have Zbv := Lib.hid (i64_szR bv (by omega) (by omega) 1 (by omega))
 clear ha ra1 ra2 ra3 ra4 hb rb1 rb2 rb3 rb4
 generalize ((au : Int) : Rat) = qau at *
 generalize ((av : Int) : Rat) = qav at *
 generalize ((bu : Int) : Rat) = qbu at *
 generalize ((bv : Int) : Rat) = qbv at *
 go_enter Tryz.func45, Tryz.ntmps45
 go_wp2_with fail
 generalize hW1 : (((w).alloc (.cells _ _)).alloc (.cells _ _)).alloc (.cells _ _) = W1 at *
 replace HS := Lib.hid (((((HS.out).alloc (B := w.heap.size) rfl (by rfl)).alloc (B := w.heap.size + 1) (by simp) (by rfl)).alloc (B := w.heap.size + 2) (by simp) (by rfl)).to hW1 (by (try simp only [nb5, nb6]); rfl))
 clear hW1
 refine wp_region_held_drew (S := (fun w' => Sx w w' [(w.heap.size + 2, #[.bool false, .slice none 0 0, .slice none 0 0], 37), (w.heap.size + 1, #[.int .i64 bu, .int .i64 bv], 25), (w.heap.size, #[.int .i64 au, .int .i64 av], 25)] [])) (by kernel_rfl) ((HS.out.drew).bare) (fun hh => ?_)
 replace HS := Lib.hid HS.out.drew
 have HSW := Lib.hid HS.out.bel.size
 refine tkB (i := 0) (v := ?vk3) rfl ?hk3 ?rk3
 case hk3 => intro u hSu; go_simp <;> with_reducible rfl
 try simp only [nbs, Act.put]
 refine tkB (i := 1) (v := ?vk4) rfl ?hk4 ?rk4
 case hk4 => intro u hSu; (try dsimp only at hSu); have qb0e := (hSu.at 2 _ _ _ rfl); have qb0c0 := blk_cell qb0e 0 (.int .i64 au) rfl; have qb0c1 := blk_cell qb0e 1 (.int .i64 av) rfl; clear qb0e; clear hSu; go_simp <;> with_reducible rfl
 try simp only [nbs, Act.put]
 refine tkB (i := 3) (v := ?vk5) rfl ?hk5 ?rk5
 case hk5 => intro u hSu; go_simp <;> with_reducible rfl
 try simp only [nbs, Act.put]
 refine tkB (i := 4) (v := ?vk6) rfl ?hk6 ?rk6
 case hk6 => intro u hSu; (try dsimp only at hSu); have qb1e := (hSu.at 1 _ _ _ rfl); have qb1c0 := blk_cell qb1e 0 (.int .i64 bu) rfl; have qb1c1 := blk_cell qb1e 1 (.int .i64 bv) rfl; clear qb1e; clear hSu; go_simp <;> with_reducible rfl
 try simp only [nbs, Act.put]
 refine tkB (i := 7) (v := ?vk7) rfl ?hk7 ?rk7
 case hk7 => intro u hSu; go_simp <;> with_reducible rfl
 try simp only [nbs, Act.put]
 refine tkB (i := 8) (v := ?vk8) rfl ?hk8 ?rk8
 case hk8 => intro u hSu; (try dsimp only at hSu); have qb0e := (hSu.at 2 _ _ _ rfl); have qb0c0 := blk_cell qb0e 0 (.int .i64 au) rfl; have qb0c1 := blk_cell qb0e 1 (.int .i64 av) rfl; clear qb0e; clear hSu; go_simp <;> with_reducible rfl
 try simp only [nbs, Act.put]
 refine tkB (i := 10) (v := ?vk9) rfl ?hk9 ?rk9
 case hk9 => intro u hSu; go_simp <;> with_reducible rfl
 try simp only [nbs, Act.put]
 refine tkB (i := 11) (v := ?vk10) rfl ?hk10 ?rk10
 case hk10 => intro u hSu; (try dsimp only at hSu); have qb1e := (hSu.at 1 _ _ _ rfl); have qb1c0 := blk_cell qb1e 0 (.int .i64 bu) rfl; have qb1c1 := blk_cell qb1e 1 (.int .i64 bv) rfl; clear qb1e; clear hSu; go_simp <;> with_reducible rfl
 try simp only [nbs, Act.put]
 refine wpAnyH_modular [2, 5, 6, 9, 12, 13, 14, 15] [2, 5, 6, 9, 12, 13, 14, 15] [] [9, 12, 13, 16, 19, 20, 5, 6] #[true, true, true, true, true, true, true, true, true, true, true, true, true, true, true, true, false, false] 2 [(2, 9), (5, 12), (6, 13), (9, 16), (12, 19), (13, 20), (14, 5), (15, 6)] [(2, []), (5, [2]), (6, [2, 5]), (9, [6]), (12, [9]), (13, [9, 12]), (14, []), (15, [])] [14, 15] [(2, fun v w => ∃ z11 : R3, v = z11.val ∧ Fr false w z11.val qau), (5, fun v w => ∃ z12 : R3, v = z12.val ∧ Fr false w z12.val qbu), (6, fun v w => ∃ z13 : R3, v = z13.val ∧ Fr false w z13.val (qau - qbu)), (9, fun v w => ∃ z14 : R3, v = z14.val ∧ Fr false w z14.val qav), (12, fun v w => ∃ z15 : R3, v = z15.val ∧ Fr false w z15.val qbv), (13, fun v w => ∃ z16 : R3, v = z16.val ∧ Fr false w z16.val (qav - qbv)), (14, fun v w => ∃ Br2_14 : Nat, v = .pointer (some ⟨Br2_14, 0, none⟩) ∧ W1.drew.heap.size ≤ Br2_14 ∧ w.heap[Br2_14]? = some (.cells #[.bool false, .slice none 0 0, .slice none 0 0] 37 (0, 0))), (15, fun v w => ∃ Br2_15 : Nat, v = .pointer (some ⟨Br2_15, 0, none⟩) ∧ W1.drew.heap.size ≤ Br2_15 ∧ w.heap[Br2_15]? = some (.cells #[.bool false, .slice none 0 0, .slice none 0 0] 37 (0, 0)))]
  rfl (by kernel_rfl) (by decide) rfl ⟨(fun v w w' hb ⟨z0, e, h0⟩ => ⟨z0, e, Fr.below h0 hb⟩), ⟨(fun v w w' hb ⟨z0, e, h0⟩ => ⟨z0, e, Fr.below h0 hb⟩), ⟨(fun v w w' hb ⟨z0, e, h0⟩ => ⟨z0, e, Fr.below h0 hb⟩), ⟨(fun v w w' hb ⟨z0, e, h0⟩ => ⟨z0, e, Fr.below h0 hb⟩), ⟨(fun v w w' hb ⟨z0, e, h0⟩ => ⟨z0, e, Fr.below h0 hb⟩), ⟨(fun v w w' hb ⟨z0, e, h0⟩ => ⟨z0, e, Fr.below h0 hb⟩), ⟨(fun v w w' hb ⟨B, e, g, k⟩ => ⟨B, e, g, blk_keep k hb (blk_lt k)⟩), ⟨(fun v w w' hb ⟨B, e, g, k⟩ => ⟨B, e, g, blk_keep k hb (blk_lt k)⟩), trivial⟩⟩⟩⟩⟩⟩⟩⟩ ⟨fun v w ⟨B, e, g, k⟩ => ⟨B, e, blk_lt k⟩, ⟨fun v w ⟨B, e, g, k⟩ => ⟨B, e, blk_lt k⟩, trivial⟩⟩ (fun w' hb => Sx.below hh hb) ⟨?_, ?_, ?_, ?_, ?_, ?_, ?_, ?_, trivial⟩ trivial (by decide) ?_
 ·
  refine StepM.of rfl (fun f w' hb hp K hK => ?_)
  have HSB := HS
  replace HS := Lib.hid (HS.out.below hb)
  simp only [fillA, fillT, List.foldl_cons, List.foldl_nil, Act.put, nb4, nb5, nb6]
  go_simp
  go_wp2_with (go_at_call 30; (with_reducible refine (HNau.out _).mono ?_); rintro e w11 ⟨v11, rfl, hv11, hb11⟩; obtain ⟨z11, rfl⟩ := hv11.open3)
  exact hK.out _ _ (z11.val) (by simp only [fillA, fillT, List.foldl_cons, List.foldl_nil, Act.put, nb4, nb5, nb6, nb1, nb2, nb3]) ⟨z11, rfl, hv11⟩ (fun h => absurd h (by decide)) hb11
 ·
  refine StepM.of rfl (fun f w' hb hp K hK => ?_)
  have HSB := HS
  replace HS := Lib.hid (HS.out.below hb)
  simp only [fillA, fillT, List.foldl_cons, List.foldl_nil, Act.put, nb4, nb5, nb6]
  go_simp
  go_wp2_with (go_at_call 30; (with_reducible refine (HNbu.out _).mono ?_); rintro e w12 ⟨v12, rfl, hv12, hb12⟩; obtain ⟨z12, rfl⟩ := hv12.open3)
  exact hK.out _ _ (z12.val) (by simp only [fillA, fillT, List.foldl_cons, List.foldl_nil, Act.put, nb4, nb5, nb6, nb1, nb2, nb3]) ⟨z12, rfl, hv12⟩ (fun h => absurd h (by decide)) hb12
 ·
  refine StepM.of rfl (fun f w' hb hp K hK => ?_)
  obtain ⟨z11, e2, h2_0⟩ : ∃ z11 : R3, f 9 = z11.val ∧ Fr false w' z11.val qau := hp 2 (by decide)
  obtain ⟨z12, e5, h5_0⟩ : ∃ z12 : R3, f 12 = z12.val ∧ Fr false w' z12.val qbu := hp 5 (by decide)
  have HSB := HS
  replace HS := Lib.hid (HS.out.below hb)
  replace HS := Lib.hid (HS.out.addQ h2_0)
  replace HS := Lib.hid (HS.out.addQ h5_0)
  simp only [fillA, fillT, List.foldl_cons, List.foldl_nil, Act.put, nb4, nb5, nb6, e2, e5]
  have a17 := HS.out.q 1 _ _ rfl
  have a18 := HS.out.q 0 _ _ rfl
  go_simp
  go_wp2_with (go_at_call 72; (with_reducible refine (qsub_any qau qbu _ _ _ a17 a18 (szQ_mono (szQ_of Zau.out) (by omega)) (szQ_mono (szQ_of Zbu.out) (by omega))).mono ?_); rintro e w13 ⟨v13, rfl, hv13, hb13⟩; obtain ⟨z13, rfl⟩ := hv13.open3)
  exact hK.out _ _ (z13.val) (by simp only [fillA, fillT, List.foldl_cons, List.foldl_nil, Act.put, nb4, nb5, nb6, nb1, nb2, nb3, e2, e5]) ⟨z13, rfl, hv13⟩ (fun h => absurd h (by decide)) hb13
 ·
  refine StepM.of rfl (fun f w' hb hp K hK => ?_)
  have HSB := HS
  replace HS := Lib.hid (HS.out.below hb)
  simp only [fillA, fillT, List.foldl_cons, List.foldl_nil, Act.put, nb4, nb5, nb6]
  go_simp
  go_wp2_with (go_at_call 30; (with_reducible refine (HNav.out _).mono ?_); rintro e w14 ⟨v14, rfl, hv14, hb14⟩; obtain ⟨z14, rfl⟩ := hv14.open3)
  exact hK.out _ _ (z14.val) (by simp only [fillA, fillT, List.foldl_cons, List.foldl_nil, Act.put, nb4, nb5, nb6, nb1, nb2, nb3]) ⟨z14, rfl, hv14⟩ (fun h => absurd h (by decide)) hb14
 ·
  refine StepM.of rfl (fun f w' hb hp K hK => ?_)
  have HSB := HS
  replace HS := Lib.hid (HS.out.below hb)
  simp only [fillA, fillT, List.foldl_cons, List.foldl_nil, Act.put, nb4, nb5, nb6]
  go_simp
  go_wp2_with (go_at_call 30; (with_reducible refine (HNbv.out _).mono ?_); rintro e w15 ⟨v15, rfl, hv15, hb15⟩; obtain ⟨z15, rfl⟩ := hv15.open3)
  exact hK.out _ _ (z15.val) (by simp only [fillA, fillT, List.foldl_cons, List.foldl_nil, Act.put, nb4, nb5, nb6, nb1, nb2, nb3]) ⟨z15, rfl, hv15⟩ (fun h => absurd h (by decide)) hb15
 ·
  refine StepM.of rfl (fun f w' hb hp K hK => ?_)
  obtain ⟨z14, e9, h9_0⟩ : ∃ z14 : R3, f 16 = z14.val ∧ Fr false w' z14.val qav := hp 9 (by decide)
  obtain ⟨z15, e12, h12_0⟩ : ∃ z15 : R3, f 19 = z15.val ∧ Fr false w' z15.val qbv := hp 12 (by decide)
  have HSB := HS
  replace HS := Lib.hid (HS.out.below hb)
  replace HS := Lib.hid (HS.out.addQ h9_0)
  replace HS := Lib.hid (HS.out.addQ h12_0)
  simp only [fillA, fillT, List.foldl_cons, List.foldl_nil, Act.put, nb4, nb5, nb6, e9, e12]
  have a19 := HS.out.q 1 _ _ rfl
  have a20 := HS.out.q 0 _ _ rfl
  go_simp
  go_wp2_with (go_at_call 72; (with_reducible refine (qsub_any qav qbv _ _ _ a19 a20 (szQ_mono (szQ_of Zav.out) (by omega)) (szQ_mono (szQ_of Zbv.out) (by omega))).mono ?_); rintro e w16 ⟨v16, rfl, hv16, hb16⟩; obtain ⟨z16, rfl⟩ := hv16.open3)
  exact hK.out _ _ (z16.val) (by simp only [fillA, fillT, List.foldl_cons, List.foldl_nil, Act.put, nb4, nb5, nb6, nb1, nb2, nb3, e9, e12]) ⟨z16, rfl, hv16⟩ (fun h => absurd h (by decide)) hb16
 ·
  refine StepM.of rfl (fun f w' hb hp K hK => ?_)
  have HSB := HS
  replace HS := Lib.hid (HS.out.below hb)
  simp only [fillA, fillT, List.foldl_cons, List.foldl_nil, Act.put, nb4, nb5, nb6]
  go_simp
  exact hK.out _ _ (.pointer (some ⟨w'.heap.size, 0, none⟩)) (by simp only [fillA, fillT, List.foldl_cons, List.foldl_nil, Act.put, nb4, nb5, nb6, nb1, nb2, nb3]) ⟨_, rfl, hb.size, blk_new _ _ _⟩ (fun _ => rfl) (below1 w' _)
 ·
  refine StepM.of rfl (fun f w' hb hp K hK => ?_)
  have HSB := HS
  replace HS := Lib.hid (HS.out.below hb)
  simp only [fillA, fillT, List.foldl_cons, List.foldl_nil, Act.put, nb4, nb5, nb6]
  go_simp
  exact hK.out _ _ (.pointer (some ⟨w'.heap.size, 0, none⟩)) (by simp only [fillA, fillT, List.foldl_cons, List.foldl_nil, Act.put, nb4, nb5, nb6, nb1, nb2, nb3]) ⟨_, rfl, hb.size, blk_new _ _ _⟩ (fun _ => rfl) (below1 w' _)
 ·
  intro f wr2 hb hp hd
  obtain ⟨z11, e2, h2_0⟩ : ∃ z11 : R3, f 9 = z11.val ∧ Fr false wr2 z11.val qau := hp 2 (by decide)
  obtain ⟨z12, e5, h5_0⟩ : ∃ z12 : R3, f 12 = z12.val ∧ Fr false wr2 z12.val qbu := hp 5 (by decide)
  obtain ⟨z13, e6, h6_0⟩ : ∃ z13 : R3, f 13 = z13.val ∧ Fr false wr2 z13.val (qau - qbu) := hp 6 (by decide)
  obtain ⟨z14, e9, h9_0⟩ : ∃ z14 : R3, f 16 = z14.val ∧ Fr false wr2 z14.val qav := hp 9 (by decide)
  obtain ⟨z15, e12, h12_0⟩ : ∃ z15 : R3, f 19 = z15.val ∧ Fr false wr2 z15.val qbv := hp 12 (by decide)
  obtain ⟨z16, e13, h13_0⟩ : ∃ z16 : R3, f 20 = z16.val ∧ Fr false wr2 z16.val (qav - qbv) := hp 13 (by decide)
  obtain ⟨Br2_14, e14, g14, k14⟩ : ∃ Br2_14 : Nat, f 5 = .pointer (some ⟨Br2_14, 0, none⟩) ∧ W1.drew.heap.size ≤ Br2_14 ∧ wr2.heap[Br2_14]? = some (.cells #[.bool false, .slice none 0 0, .slice none 0 0] 37 (0, 0)) := hp 14 (by decide)
  obtain ⟨Br2_15, e15, g15, k15⟩ : ∃ Br2_15 : Nat, f 6 = .pointer (some ⟨Br2_15, 0, none⟩) ∧ W1.drew.heap.size ≤ Br2_15 ∧ wr2.heap[Br2_15]? = some (.cells #[.bool false, .slice none 0 0, .slice none 0 0] 37 (0, 0)) := hp 15 (by decide)
  have hd14_15 : Br2_14 ≠ Br2_15 := fun h => hd 14 15 (by decide) (by decide) (by decide) (by decide) (by decide) (by show f 5 = f 6; rw [e14, e15, h])
  replace hh := Sx.below hh hb
  have hlt := HS.out.lt
  replace HS := Lib.hid (HS.out.below hb)
  replace HS := Lib.hid (HS.out.addQ h2_0)
  replace HS := Lib.hid (HS.out.addQ h5_0)
  replace HS := Lib.hid (HS.out.addQ h6_0)
  replace HS := Lib.hid (HS.out.addQ h9_0)
  replace HS := Lib.hid (HS.out.addQ h12_0)
  replace HS := Lib.hid (HS.out.addQ h13_0)
  have hge14 : w.heap.size ≤ Br2_14 := Nat.le_trans HSW.out g14
  have hne14 : ∀ b, b ∈ ([(w.heap.size + 2, #[.bool false, .slice none 0 0, .slice none 0 0], 37), (w.heap.size + 1, #[.int .i64 bu, .int .i64 bv], 25), (w.heap.size, #[.int .i64 au, .int .i64 av], 25)] : List Bx) → b.1 ≠ Br2_14 := by
   intro b hb
   simp only [List.mem_cons, List.not_mem_nil, or_false] at hb
   rcases hb with rfl | rfl | rfl
   ·
    have := hlt _ (List.mem_iff_getElem?.2 ⟨0, rfl⟩); dsimp only at this ⊢; omega
   ·
    have := hlt _ (List.mem_iff_getElem?.2 ⟨1, rfl⟩); dsimp only at this ⊢; omega
   ·
    have := hlt _ (List.mem_iff_getElem?.2 ⟨2, rfl⟩); dsimp only at this ⊢; omega
  replace HS := Lib.hid (HS.out.addBox k14 hge14 (by rfl) hne14)
  have hge15 : w.heap.size ≤ Br2_15 := Nat.le_trans HSW.out g15
  have hne15 : ∀ b, b ∈ ([(Br2_14, #[.bool false, .slice none 0 0, .slice none 0 0], 37), (w.heap.size + 2, #[.bool false, .slice none 0 0, .slice none 0 0], 37), (w.heap.size + 1, #[.int .i64 bu, .int .i64 bv], 25), (w.heap.size, #[.int .i64 au, .int .i64 av], 25)] : List Bx) → b.1 ≠ Br2_15 := by
   intro b hb
   simp only [List.mem_cons, List.not_mem_nil, or_false] at hb
   rcases hb with rfl | rfl | rfl | rfl
   ·
    exact hd14_15
   ·
    have := hlt _ (List.mem_iff_getElem?.2 ⟨0, rfl⟩); dsimp only at this ⊢; omega
   ·
    have := hlt _ (List.mem_iff_getElem?.2 ⟨1, rfl⟩); dsimp only at this ⊢; omega
   ·
    have := hlt _ (List.mem_iff_getElem?.2 ⟨2, rfl⟩); dsimp only at this ⊢; omega
  replace HS := Lib.hid (HS.out.addBox k15 hge15 (by rfl) hne15)
  simp only [fillA, fillT, List.foldl_cons, List.foldl_nil, Act.put, nb4, nb5, nb6, e2, e5, e6, e9, e12, e13, e14, e15]
  clear hp hd hb hlt e2 e5 e6 e9 e12 e13 e14 e15
  refine rdA (i := 16) rfl (fun K hK => ?_)
  have b3e := (HS.out.at 1 _ _ _ rfl)
  have b3c0 := blk_cell b3e 0 (.bool false) rfl
  have b3c1 := blk_cell b3e 1 (.slice none 0 0) rfl
  have b3c2 := blk_cell b3e 2 (.slice none 0 0) rfl
  have b3f0 := blk_frozen b3e 0
  have b3f1 := blk_frozen b3e 1
  have b3f2 := blk_frozen b3e 2
  have b3l := blk_lt b3e
  clear b3e
  go_simp
  refine hK.out _ _ ((((((HS.out).st_R 1 r30 z13 rfl)).erase 1)).erase 0) (fun hh => ?_)
  clear hK K b3c0 b3c1 b3c2 b3f0 b3f1 b3f2 b3l
  try simp only [nbs, Act.put]
  generalize hW21 : (((wr2).setCell _ _).setCell _ _).setCell _ _ = W21 at *
  replace HS := Lib.hid (((HS.out).st_R 1 r30 z13 rfl).to hW21 (by (try simp only [nb5, nb6]); rfl))
  clear hW21
  refine rdA (i := 17) rfl (fun K hK => ?_)
  have b4e := (HS.out.at 0 _ _ _ rfl)
  have b4c0 := blk_cell b4e 0 (.bool false) rfl
  have b4c1 := blk_cell b4e 1 (.slice none 0 0) rfl
  have b4c2 := blk_cell b4e 2 (.slice none 0 0) rfl
  have b4f0 := blk_frozen b4e 0
  have b4f1 := blk_frozen b4e 1
  have b4f2 := blk_frozen b4e 2
  have b4l := blk_lt b4e
  clear b4e
  go_simp
  refine hK.out _ _ ((((((HS.out).st_R 0 r30 z16 rfl)).erase 1)).erase 0) (fun hh => ?_)
  clear hK K b4c0 b4c1 b4c2 b4f0 b4f1 b4f2 b4l
  try simp only [nbs, Act.put]
  generalize hW22 : (((W21).setCell _ _).setCell _ _).setCell _ _ = W22 at *
  replace HS := Lib.hid (((HS.out).st_R 0 r30 z16 rfl).to hW22 (by (try simp only [nb5, nb6]); rfl))
  clear hW22
  refine wpAnyH_done (by kernel_rfl) ?_ _
  go_wp2_with fail
  refine wp_region_held_drew (S := (fun w' => Sx w w' [(Br2_15, z16.arr, 37), (Br2_14, z13.arr, 37), (w.heap.size + 1, #[.int .i64 bu, .int .i64 bv], 25), (w.heap.size, #[.int .i64 au, .int .i64 av], 25)] [])) (by kernel_rfl) ((HS.out.drew).erase 2) (fun hh => ?_)
  replace HS := Lib.hid HS.out.drew
  refine tkB (i := 0) (v := ?vk24) rfl ?hk24 ?rk24
  case hk24 => intro u hSu; (try dsimp only at hSu); obtain ⟨qb3c0, qb3c1, qb3c2, _⟩ := fac3 (x := z13) (hSu.at 1 _ _ _ rfl); clear hSu; go_simp <;> with_reducible rfl
  try simp only [nbs, Act.put]
  refine tkB (i := 1) (v := ?vk25) rfl ?hk25 ?rk25
  case hk25 => intro u hSu; (try dsimp only at hSu); obtain ⟨qb3c0, qb3c1, qb3c2, _⟩ := fac3 (x := z13) (hSu.at 1 _ _ _ rfl); clear hSu; go_simp <;> with_reducible rfl
  try simp only [nbs, Act.put]
  refine tkB (i := 3) (v := ?vk26) rfl ?hk26 ?rk26
  case hk26 => intro u hSu; (try dsimp only at hSu); obtain ⟨qb4c0, qb4c1, qb4c2, _⟩ := fac3 (x := z16) (hSu.at 0 _ _ _ rfl); clear hSu; go_simp <;> with_reducible rfl
  try simp only [nbs, Act.put]
  refine tkB (i := 4) (v := ?vk27) rfl ?hk27 ?rk27
  case hk27 => intro u hSu; (try dsimp only at hSu); obtain ⟨qb4c0, qb4c1, qb4c2, _⟩ := fac3 (x := z16) (hSu.at 0 _ _ _ rfl); clear hSu; go_simp <;> with_reducible rfl
  try simp only [nbs, Act.put]
  refine rdA (i := 2) rfl (fun K hK => ?_)
  go_simp
  have a29 := HS.out.q 3 _ _ rfl
  go_wp2_with (go_at_call 44; (with_reducible refine (qmul_any (qau - qbu) (qau - qbu) _ _ _ a29 a29 (szQ_mono (szQ_of (szR_sub Zau.out Zbu.out)) (by omega)) (szQ_mono (szQ_of (szR_sub Zau.out Zbu.out)) (by omega))).mono ?_); rintro e w28 ⟨v28, rfl, hv28, hb28⟩; obtain ⟨z28, rfl⟩ := hv28.open3)
  refine hK.out _ _ (Sx.below hh hb28) (fun hh => ?_)
  clear hK K
  try simp only [nbs, Act.put]
  replace HS := Lib.hid (HS.out.below hb28)
  clear hb28 a29
  replace HS := Lib.hid (HS.out.addQ hv28)
  clear hv28
  refine rdA (i := 5) rfl (fun K hK => ?_)
  go_simp
  have a31 := HS.out.q 1 _ _ rfl
  go_wp2_with (go_at_call 44; (with_reducible refine (qmul_any (qav - qbv) (qav - qbv) _ _ _ a31 a31 (szQ_mono (szQ_of (szR_sub Zav.out Zbv.out)) (by omega)) (szQ_mono (szQ_of (szR_sub Zav.out Zbv.out)) (by omega))).mono ?_); rintro e w30 ⟨v30, rfl, hv30, hb30⟩; obtain ⟨z30, rfl⟩ := hv30.open3)
  refine hK.out _ _ (Sx.below hh hb30) (fun hh => ?_)
  clear hK K
  try simp only [nbs, Act.put]
  replace HS := Lib.hid (HS.out.below hb30)
  clear hb30 a31
  replace HS := Lib.hid (HS.out.addQ hv30)
  clear hv30
  refine rdA (i := 6) rfl (fun K hK => ?_)
  go_simp
  have a33 := HS.out.q 1 _ _ rfl
  have a34 := HS.out.q 0 _ _ rfl
  go_wp2_with (go_at_call 74; (with_reducible refine (qadd_any ((qau - qbu) * (qau - qbu)) ((qav - qbv) * (qav - qbv)) _ _ _ a33 a34 (szQ_mono (szQ_of (szR_mul (szR_sub Zau.out Zbu.out) (szR_sub Zau.out Zbu.out))) (by omega)) (szQ_mono (szQ_of (szR_mul (szR_sub Zav.out Zbv.out) (szR_sub Zav.out Zbv.out))) (by omega))).mono ?_); rintro e w32 ⟨v32, rfl, hv32, hb32⟩; obtain ⟨z32, rfl⟩ := hv32.open3)
  refine hK.out _ _ (Sx.below hh hb32) (fun hh => ?_)
  clear hK K
  try simp only [nbs, Act.put]
  replace HS := Lib.hid (HS.out.below hb32)
  clear hb32 a33 a34
  replace HS := Lib.hid (HS.out.addQ hv32)
  clear hv32
  refine rdA (i := 7) rfl (fun K hK => ?_)
  have b2e := (HS.out.at 2 _ _ _ rfl)
  have b2c0 := blk_cell b2e 0 (.bool false) rfl
  have b2c1 := blk_cell b2e 1 (.slice none 0 0) rfl
  have b2c2 := blk_cell b2e 2 (.slice none 0 0) rfl
  have b2f0 := blk_frozen b2e 0
  have b2f1 := blk_frozen b2e 1
  have b2f2 := blk_frozen b2e 2
  have b2l := blk_lt b2e
  clear b2e
  go_simp
  refine hK.out _ _ ((((HS.out).st_R 2 r30 z32 rfl)).erase 2) (fun hh => ?_)
  clear hK K b2c0 b2c1 b2c2 b2f0 b2f1 b2f2 b2l
  try simp only [nbs, Act.put]
  generalize hW35 : (((w32).setCell _ _).setCell _ _).setCell _ _ = W35 at *
  replace HS := Lib.hid (((HS.out).st_R 2 r30 z32 rfl).to hW35 (by (try simp only [nb5, nb6]); rfl))
  clear hW35
  refine wpAnyH_done (by kernel_rfl) ?_ _
  obtain ⟨b2c0, b2c1, b2c2, b2f0, b2f1, b2f2⟩ := fac3 (x := z32) (HS.out.at 2 _ _ _ rfl)
  have b2l := blk_lt (HS.out.at 2 _ _ _ rfl)
  go_wp2_with fail
  clear b2c0 b2c1 b2c2 b2f0 b2f1 b2f2 b2l
  obtain ⟨b2c0, b2c1, b2c2, _⟩ := fac3 (x := z32) (HS.out.at 2 _ _ _ rfl)
  refine bodyPost_ret (v := z32.val) (by simp [results, Tryz.results45, go_sem, b2c0, b2c1, b2c2]) rfl ⟨_, rfl, by rw [← HQ.out]; exact (HS.out.q 0 _ _ rfl), HS.out.bel⟩
theorem qint0_any' (w : World) : Calls Tryz.prog 27 #[.int .i64 0] w (RetR 0 w) := qint_any 0 w (by omega) (by omega)
theorem qzeroR_any (q : Rat) (v : Value) (w : World) (h : IsR w v q) : Calls Tryz.prog 42 #[v] w (RetBool (decide (q.num.natAbs = 0)) w) := by
 obtain ⟨d', a1, c1, a2, c2, rfl, _⟩ := h.opened
 exact qzero_any _ _ _ _ _ _ _ _
set_option maxRecDepth 100000 in
set_option maxHeartbeats 8000000 in
theorem rradius_bad (a b c : Pt) (w : World) (hbad : (ptOk a && (ptOk b && ptOk c)) = false) : Calls Tryz.prog 14 #[.agg #[.int .i64 a.1, .int .i64 a.2], .agg #[.int .i64 b.1, .int .i64 b.2], .agg #[.int .i64 c.1, .int .i64 c.2]] w (RetRE 0 1 w) := by
 have HS := Lib.hid (Sx.init w)
 have HRa := Lib.hid (rright_any a)
 have HRb := Lib.hid (rright_any b)
 have HRc := Lib.hid (rright_any c)
 have h3 : ∀ p q r : Bool, (p && (q && r)) = false → p = false ∨ (p = true ∧ q = false) ∨ (p = true ∧ q = true ∧ r = false) := by decide
 replace h3 := h3 _ _ _ hbad
 clear hbad
 generalize ptOk a = pa at *
 obtain ⟨au, av⟩ := a
 generalize ptOk b = pb at *
 obtain ⟨bu, bv⟩ := b
 generalize ptOk c = pc at *
 obtain ⟨cu, cv⟩ := c
 try dsimp only at *
 rcases h3 with rfl | ⟨rfl, rfl⟩ | ⟨rfl, rfl, rfl⟩
 ·
  go_enter Tryz.func14, Tryz.ntmps14
  go_wp2_with fail
  generalize hW1 : ((((w).alloc (.cells _ _)).alloc (.cells _ _)).alloc (.cells _ _)).alloc (.cells _ _) = W1 at *
  replace HS := Lib.hid ((((((HS.out).alloc (B := w.heap.size) rfl (by rfl)).alloc (B := w.heap.size + 1) (by simp) (by rfl)).alloc (B := w.heap.size + 2) (by simp) (by rfl)).alloc (B := w.heap.size + 3) (by simp) (by rfl)).to hW1 (by (try simp only [nb5, nb6]); rfl))
  clear hW1
  refine (HRa.out _).mono ?_
  rintro e w2 ⟨rfl, hb2⟩
  replace HS := Lib.hid (HS.out.below hb2)
  clear hb2
  go_wp2_with fail
  refine (qint0_any' _).mono ?_
  rintro e w3 ⟨v3, rfl, hv3, hb3⟩
  obtain ⟨z3, rfl⟩ := hv3.open3
  replace HS := Lib.hid (HS.out.below hb3)
  clear hb3
  replace HS := Lib.hid (HS.out.addQ hv3)
  clear hv3
  have b3e := (HS.out.at 0 _ _ _ rfl)
  have b3c0 := blk_cell b3e 0 (.bool false) rfl
  have b3c1 := blk_cell b3e 1 (.slice none 0 0) rfl
  have b3c2 := blk_cell b3e 2 (.slice none 0 0) rfl
  have b3f0 := blk_frozen b3e 0
  have b3f1 := blk_frozen b3e 1
  have b3f2 := blk_frozen b3e 2
  have b3l := blk_lt b3e
  clear b3e
  go_wp2_with fail
  clear b3c0 b3c1 b3c2 b3f0 b3f1 b3f2 b3l
  generalize hW4 : (((w3).setCell _ _).setCell _ _).setCell _ _ = W4 at *
  replace HS := Lib.hid (((HS.out).st_R 0 r30 z3 rfl).to hW4 (by (try simp only [nb5, nb6]); rfl))
  clear hW4
  obtain ⟨b3c0, b3c1, b3c2, _⟩ := fac3 (x := z3) (HS.out.at 0 _ _ _ rfl)
  refine bodyPost_ret (v := .tuple #[z3.val, .int .i64 1]) (by simp [results, Tryz.results14, go_sem, b3c0, b3c1, b3c2]) rfl ⟨_, rfl, (HS.out.q 0 _ _ rfl), HS.out.bel⟩
 ·
  go_enter Tryz.func14, Tryz.ntmps14
  go_wp2_with fail
  generalize hW5 : ((((w).alloc (.cells _ _)).alloc (.cells _ _)).alloc (.cells _ _)).alloc (.cells _ _) = W5 at *
  replace HS := Lib.hid ((((((HS.out).alloc (B := w.heap.size) rfl (by rfl)).alloc (B := w.heap.size + 1) (by simp) (by rfl)).alloc (B := w.heap.size + 2) (by simp) (by rfl)).alloc (B := w.heap.size + 3) (by simp) (by rfl)).to hW5 (by (try simp only [nb5, nb6]); rfl))
  clear hW5
  refine (HRa.out _).mono ?_
  rintro e w6 ⟨rfl, hb6⟩
  replace HS := Lib.hid (HS.out.below hb6)
  clear hb6
  have b1e := (HS.out.at 2 _ _ _ rfl)
  have b1c0 := blk_cell b1e 0 (.int .i64 bu) rfl
  have b1c1 := blk_cell b1e 1 (.int .i64 bv) rfl
  have b1f0 := blk_frozen b1e 0
  have b1f1 := blk_frozen b1e 1
  have b1l := blk_lt b1e
  clear b1e
  go_wp2_with fail
  clear b1c0 b1c1 b1f0 b1f1 b1l
  refine (HRb.out _).mono ?_
  rintro e w7 ⟨rfl, hb7⟩
  replace HS := Lib.hid (HS.out.below hb7)
  clear hb7
  go_wp2_with fail
  refine (qint0_any' _).mono ?_
  rintro e w8 ⟨v8, rfl, hv8, hb8⟩
  obtain ⟨z8, rfl⟩ := hv8.open3
  replace HS := Lib.hid (HS.out.below hb8)
  clear hb8
  replace HS := Lib.hid (HS.out.addQ hv8)
  clear hv8
  have b3e := (HS.out.at 0 _ _ _ rfl)
  have b3c0 := blk_cell b3e 0 (.bool false) rfl
  have b3c1 := blk_cell b3e 1 (.slice none 0 0) rfl
  have b3c2 := blk_cell b3e 2 (.slice none 0 0) rfl
  have b3f0 := blk_frozen b3e 0
  have b3f1 := blk_frozen b3e 1
  have b3f2 := blk_frozen b3e 2
  have b3l := blk_lt b3e
  clear b3e
  go_wp2_with fail
  clear b3c0 b3c1 b3c2 b3f0 b3f1 b3f2 b3l
  generalize hW9 : (((w8).setCell _ _).setCell _ _).setCell _ _ = W9 at *
  replace HS := Lib.hid (((HS.out).st_R 0 r30 z8 rfl).to hW9 (by (try simp only [nb5, nb6]); rfl))
  clear hW9
  obtain ⟨b3c0, b3c1, b3c2, _⟩ := fac3 (x := z8) (HS.out.at 0 _ _ _ rfl)
  refine bodyPost_ret (v := .tuple #[z8.val, .int .i64 1]) (by simp [results, Tryz.results14, go_sem, b3c0, b3c1, b3c2]) rfl ⟨_, rfl, (HS.out.q 0 _ _ rfl), HS.out.bel⟩
 ·
  go_enter Tryz.func14, Tryz.ntmps14
  go_wp2_with fail
  generalize hW10 : ((((w).alloc (.cells _ _)).alloc (.cells _ _)).alloc (.cells _ _)).alloc (.cells _ _) = W10 at *
  replace HS := Lib.hid ((((((HS.out).alloc (B := w.heap.size) rfl (by rfl)).alloc (B := w.heap.size + 1) (by simp) (by rfl)).alloc (B := w.heap.size + 2) (by simp) (by rfl)).alloc (B := w.heap.size + 3) (by simp) (by rfl)).to hW10 (by (try simp only [nb5, nb6]); rfl))
  clear hW10
  refine (HRa.out _).mono ?_
  rintro e w11 ⟨rfl, hb11⟩
  replace HS := Lib.hid (HS.out.below hb11)
  clear hb11
  have b1e := (HS.out.at 2 _ _ _ rfl)
  have b1c0 := blk_cell b1e 0 (.int .i64 bu) rfl
  have b1c1 := blk_cell b1e 1 (.int .i64 bv) rfl
  have b1f0 := blk_frozen b1e 0
  have b1f1 := blk_frozen b1e 1
  have b1l := blk_lt b1e
  clear b1e
  go_wp2_with fail
  clear b1c0 b1c1 b1f0 b1f1 b1l
  refine (HRb.out _).mono ?_
  rintro e w12 ⟨rfl, hb12⟩
  replace HS := Lib.hid (HS.out.below hb12)
  clear hb12
  have b2e := (HS.out.at 1 _ _ _ rfl)
  have b2c0 := blk_cell b2e 0 (.int .i64 cu) rfl
  have b2c1 := blk_cell b2e 1 (.int .i64 cv) rfl
  have b2f0 := blk_frozen b2e 0
  have b2f1 := blk_frozen b2e 1
  have b2l := blk_lt b2e
  clear b2e
  go_wp2_with fail
  clear b2c0 b2c1 b2f0 b2f1 b2l
  refine (HRc.out _).mono ?_
  rintro e w13 ⟨rfl, hb13⟩
  replace HS := Lib.hid (HS.out.below hb13)
  clear hb13
  go_wp2_with fail
  refine (qint0_any' _).mono ?_
  rintro e w14 ⟨v14, rfl, hv14, hb14⟩
  obtain ⟨z14, rfl⟩ := hv14.open3
  replace HS := Lib.hid (HS.out.below hb14)
  clear hb14
  replace HS := Lib.hid (HS.out.addQ hv14)
  clear hv14
  have b3e := (HS.out.at 0 _ _ _ rfl)
  have b3c0 := blk_cell b3e 0 (.bool false) rfl
  have b3c1 := blk_cell b3e 1 (.slice none 0 0) rfl
  have b3c2 := blk_cell b3e 2 (.slice none 0 0) rfl
  have b3f0 := blk_frozen b3e 0
  have b3f1 := blk_frozen b3e 1
  have b3f2 := blk_frozen b3e 2
  have b3l := blk_lt b3e
  clear b3e
  go_wp2_with fail
  clear b3c0 b3c1 b3c2 b3f0 b3f1 b3f2 b3l
  generalize hW15 : (((w14).setCell _ _).setCell _ _).setCell _ _ = W15 at *
  replace HS := Lib.hid (((HS.out).st_R 0 r30 z14 rfl).to hW15 (by (try simp only [nb5, nb6]); rfl))
  clear hW15
  obtain ⟨b3c0, b3c1, b3c2, _⟩ := fac3 (x := z14) (HS.out.at 0 _ _ _ rfl)
  refine bodyPost_ret (v := .tuple #[z14.val, .int .i64 1]) (by simp [results, Tryz.results14, go_sem, b3c0, b3c1, b3c2]) rfl ⟨_, rfl, (HS.out.q 0 _ _ rfl), HS.out.bel⟩
set_option maxRecDepth 100000 in
set_option maxHeartbeats 8000000 in
theorem rradius_any (a b c : Pt) (w : World) (ha : ptOk a = true) (hb : ptOk b = true) (hc : ptOk c = true) : Calls Tryz.prog 14 #[.agg #[.int .i64 a.1, .int .i64 a.2], .agg #[.int .i64 b.1, .int .i64 b.2], .agg #[.int .i64 c.1, .int .i64 c.2]] w (RetRE (radQ a b c) (radE a b c) w) := by
 have HS := Lib.hid (Sx.init w)
 have HRa : Hid (∀ W, Calls Tryz.prog 28 #[.agg #[.int .i64 a.1, .int .i64 a.2]] W (RetBool true W)) := fun W => by rw [← ha]; exact rright_any a W
 have HRb : Hid (∀ W, Calls Tryz.prog 28 #[.agg #[.int .i64 b.1, .int .i64 b.2]] W (RetBool true W)) := fun W => by rw [← hb]; exact rright_any b W
 have HRc : Hid (∀ W, Calls Tryz.prog 28 #[.agg #[.int .i64 c.1, .int .i64 c.2]] W (RetBool true W)) := fun W => by rw [← hc]; exact rright_any c W
 have HCR : Hid (∀ W, Calls Tryz.prog 41 #[.agg #[.int .i64 a.1, .int .i64 a.2], .agg #[.int .i64 b.1, .int .i64 b.2], .agg #[.int .i64 c.1, .int .i64 c.2]] W (RetR ((crossI a b c : Int) : Rat) W)) := fun W => rcross_any a b c W ha hb hc
 have HAab : Hid (∀ W, Calls Tryz.prog 45 #[.agg #[.int .i64 a.1, .int .i64 a.2], .agg #[.int .i64 b.1, .int .i64 b.2]] W (RetR ((apartI a b : Int) : Rat) W)) := fun W => rapart_any a b W ha hb
 have ZAab := Lib.hid (apart_sz ha hb)
 have HAbc : Hid (∀ W, Calls Tryz.prog 45 #[.agg #[.int .i64 b.1, .int .i64 b.2], .agg #[.int .i64 c.1, .int .i64 c.2]] W (RetR ((apartI b c : Int) : Rat) W)) := fun W => rapart_any b c W hb hc
 have ZAbc := Lib.hid (apart_sz hb hc)
 have HAac : Hid (∀ W, Calls Tryz.prog 45 #[.agg #[.int .i64 a.1, .int .i64 a.2], .agg #[.int .i64 c.1, .int .i64 c.2]] W (RetR ((apartI a c : Int) : Rat) W)) := fun W => rapart_any a c W ha hc
 have ZAac := Lib.hid (apart_sz ha hc)
 have ZCR := Lib.hid (cd_range ha hb hc).1
 have HN4 : Hid (∀ W, Calls Tryz.prog 30 #[.int .i64 4] W (RetR ((4 : Int) : Rat) W)) := fun W => rnum_any 4 W (by omega) (by omega)
 have Z4 := Lib.hid (i64_szR 4 (by omega) (by omega) 1 (by omega))
 by_cases hz : crossI a b c = 0
 ·
  have HZT : Hid (decide (((crossI a b c : Int) : Rat).num.natAbs = 0) = true) := by show _ = _; rw [hz]; rfl
  have Hq0 : Hid (radQ a b c = 0) := by show _ = _; unfold radQ; rw [if_pos hz]
  have Hqe : radE a b c = 5 := by unfold radE; rw [if_pos hz]
  rw [Hqe]
  generalize radQ a b c = qr at *
  clear hz ha hb hc Hqe
  generalize ((apartI a b : Int) : Rat) = qab at *
  generalize ((apartI b c : Int) : Rat) = qbc at *
  generalize ((apartI a c : Int) : Rat) = qac at *
  generalize ((crossI a b c : Int) : Rat) = qt at *
  generalize ((4 : Int) : Rat) = q4 at *
  obtain ⟨au, av⟩ := a
  obtain ⟨bu, bv⟩ := b
  obtain ⟨cu, cv⟩ := c
  try dsimp only at *
  go_enter Tryz.func14, Tryz.ntmps14
  go_wp2_with fail
  generalize hW1 : ((((w).alloc (.cells _ _)).alloc (.cells _ _)).alloc (.cells _ _)).alloc (.cells _ _) = W1 at *
  replace HS := Lib.hid ((((((HS.out).alloc (B := w.heap.size) rfl (by rfl)).alloc (B := w.heap.size + 1) (by simp) (by rfl)).alloc (B := w.heap.size + 2) (by simp) (by rfl)).alloc (B := w.heap.size + 3) (by simp) (by rfl)).to hW1 (by (try simp only [nb5, nb6]); rfl))
  clear hW1
  refine (HRa.out _).mono ?_
  rintro e w2 ⟨rfl, hb2⟩
  replace HS := Lib.hid (HS.out.below hb2)
  clear hb2
  have b1e := (HS.out.at 2 _ _ _ rfl)
  have b1c0 := blk_cell b1e 0 (.int .i64 bu) rfl
  have b1c1 := blk_cell b1e 1 (.int .i64 bv) rfl
  have b1f0 := blk_frozen b1e 0
  have b1f1 := blk_frozen b1e 1
  have b1l := blk_lt b1e
  clear b1e
  go_wp2_with fail
  clear b1c0 b1c1 b1f0 b1f1 b1l
  refine (HRb.out _).mono ?_
  rintro e w3 ⟨rfl, hb3⟩
  replace HS := Lib.hid (HS.out.below hb3)
  clear hb3
  have b2e := (HS.out.at 1 _ _ _ rfl)
  have b2c0 := blk_cell b2e 0 (.int .i64 cu) rfl
  have b2c1 := blk_cell b2e 1 (.int .i64 cv) rfl
  have b2f0 := blk_frozen b2e 0
  have b2f1 := blk_frozen b2e 1
  have b2l := blk_lt b2e
  clear b2e
  go_wp2_with fail
  clear b2c0 b2c1 b2f0 b2f1 b2l
  refine (HRc.out _).mono ?_
  rintro e w4 ⟨rfl, hb4⟩
  replace HS := Lib.hid (HS.out.below hb4)
  clear hb4
  have b0e := (HS.out.at 3 _ _ _ rfl)
  have b0c0 := blk_cell b0e 0 (.int .i64 au) rfl
  have b0c1 := blk_cell b0e 1 (.int .i64 av) rfl
  have b0f0 := blk_frozen b0e 0
  have b0f1 := blk_frozen b0e 1
  have b0l := blk_lt b0e
  clear b0e
  have b1e := (HS.out.at 2 _ _ _ rfl)
  have b1c0 := blk_cell b1e 0 (.int .i64 bu) rfl
  have b1c1 := blk_cell b1e 1 (.int .i64 bv) rfl
  have b1f0 := blk_frozen b1e 0
  have b1f1 := blk_frozen b1e 1
  have b1l := blk_lt b1e
  clear b1e
  have b2e := (HS.out.at 1 _ _ _ rfl)
  have b2c0 := blk_cell b2e 0 (.int .i64 cu) rfl
  have b2c1 := blk_cell b2e 1 (.int .i64 cv) rfl
  have b2f0 := blk_frozen b2e 0
  have b2f1 := blk_frozen b2e 1
  have b2l := blk_lt b2e
  clear b2e
  go_wp2_with fail
  clear b0c0 b0c1 b0f0 b0f1 b0l b1c0 b1c1 b1f0 b1f1 b1l b2c0 b2c1 b2f0 b2f1 b2l
  refine (HCR.out _).mono ?_
  rintro e w5 ⟨v5, rfl, hv5, hb5⟩
  obtain ⟨z5, rfl⟩ := hv5.open3
  replace HS := Lib.hid (HS.out.below hb5)
  clear hb5
  replace HS := Lib.hid (HS.out.addQ hv5)
  clear hv5
  go_wp2_with fail
  generalize hW6 : (w5).alloc (.cells _ _) = W6 at *
  replace HS := Lib.hid (((HS.out).alloc (B := w5.heap.size) rfl (by rfl)).to hW6 (by (try simp only [nb5, nb6]); rfl))
  clear hW6
  refine (qzeroR_any qt _ _ (HS.out.q 0 _ _ rfl)).mono ?_
  rw [HZT.out]
  rintro e w7 ⟨rfl, hb7⟩
  replace HS := Lib.hid (HS.out.below hb7)
  clear hb7
  go_wp2_with fail
  refine (qint0_any' _).mono ?_
  rintro e w8 ⟨v8, rfl, hv8, hb8⟩
  obtain ⟨z8, rfl⟩ := hv8.open3
  replace HS := Lib.hid (HS.out.below hb8)
  clear hb8
  replace HS := Lib.hid (HS.out.addQ hv8)
  clear hv8
  have b3e := (HS.out.at 1 _ _ _ rfl)
  have b3c0 := blk_cell b3e 0 (.bool false) rfl
  have b3c1 := blk_cell b3e 1 (.slice none 0 0) rfl
  have b3c2 := blk_cell b3e 2 (.slice none 0 0) rfl
  have b3f0 := blk_frozen b3e 0
  have b3f1 := blk_frozen b3e 1
  have b3f2 := blk_frozen b3e 2
  have b3l := blk_lt b3e
  clear b3e
  go_wp2_with fail
  clear b3c0 b3c1 b3c2 b3f0 b3f1 b3f2 b3l
  generalize hW9 : (((w8).setCell _ _).setCell _ _).setCell _ _ = W9 at *
  replace HS := Lib.hid (((HS.out).st_R 1 r30 z8 rfl).to hW9 (by (try simp only [nb5, nb6]); rfl))
  clear hW9
  obtain ⟨b3c0, b3c1, b3c2, _⟩ := fac3 (x := z8) (HS.out.at 1 _ _ _ rfl)
  refine bodyPost_ret (v := .tuple #[z8.val, .int .i64 5]) (by simp [results, Tryz.results14, go_sem, b3c0, b3c1, b3c2]) rfl ⟨_, rfl, by rw [Hq0.out]; exact (HS.out.q 0 _ _ rfl), HS.out.bel⟩
 ·
  have hn0 : (crossI a b c).natAbs ≠ 0 := by omega
  have HZT : Hid (decide (((crossI a b c : Int) : Rat).num.natAbs = 0) = false) := by show _ = _; rw [Rat.num_intCast]; exact decide_eq_false hn0
  have Hqe : radE a b c = 0 := by unfold radE; rw [if_neg hz]
  rw [Hqe]
  have hdn : (((4 : Int) : Rat) * (((crossI a b c : Int) : Rat) * ((crossI a b c : Int) : Rat))).num.natAbs ≠ 0 := by
   rw [← Rat.intCast_mul, ← Rat.intCast_mul, Rat.num_intCast]
   have := Int.mul_ne_zero (show (4 : Int) ≠ 0 by omega) (Int.mul_ne_zero hz hz)
   omega
  have HDV : Hid (∀ u v W, IsR W u (((apartI a b : Int) : Rat) * ((apartI b c : Int) : Rat) * ((apartI a c : Int) : Rat)) → IsR W v (((4 : Int) : Rat) * (((crossI a b c : Int) : Rat) * ((crossI a b c : Int) : Rat))) → Calls Tryz.prog 43 #[u, v] W (RetRE (radQ a b c) 0 W)) := fun u v W h1 h2 => by
   rw [← rad_ref hz]
   exact qdiv_any _ _ _ _ _ h1 h2 (szQ_mono (szQ_of (szR_mul (szR_mul ZAab.out ZAbc.out) ZAac.out)) (by omega)) (szQ_mono (szQ_of (szR_mul Z4.out (szR_mul ZCR.out ZCR.out))) (by omega)) hdn
  generalize radQ a b c = qr at *
  clear hz ha hb hc Hqe hn0 hdn
  generalize ((apartI a b : Int) : Rat) = qab at *
  generalize ((apartI b c : Int) : Rat) = qbc at *
  generalize ((apartI a c : Int) : Rat) = qac at *
  generalize ((crossI a b c : Int) : Rat) = qt at *
  generalize ((4 : Int) : Rat) = q4 at *
  obtain ⟨au, av⟩ := a
  obtain ⟨bu, bv⟩ := b
  obtain ⟨cu, cv⟩ := c
  try dsimp only at *
  go_enter Tryz.func14, Tryz.ntmps14
  go_wp2_with fail
  generalize hW10 : ((((w).alloc (.cells _ _)).alloc (.cells _ _)).alloc (.cells _ _)).alloc (.cells _ _) = W10 at *
  replace HS := Lib.hid ((((((HS.out).alloc (B := w.heap.size) rfl (by rfl)).alloc (B := w.heap.size + 1) (by simp) (by rfl)).alloc (B := w.heap.size + 2) (by simp) (by rfl)).alloc (B := w.heap.size + 3) (by simp) (by rfl)).to hW10 (by (try simp only [nb5, nb6]); rfl))
  clear hW10
  refine (HRa.out _).mono ?_
  rintro e w11 ⟨rfl, hb11⟩
  replace HS := Lib.hid (HS.out.below hb11)
  clear hb11
  have b1e := (HS.out.at 2 _ _ _ rfl)
  have b1c0 := blk_cell b1e 0 (.int .i64 bu) rfl
  have b1c1 := blk_cell b1e 1 (.int .i64 bv) rfl
  have b1f0 := blk_frozen b1e 0
  have b1f1 := blk_frozen b1e 1
  have b1l := blk_lt b1e
  clear b1e
  go_wp2_with fail
  clear b1c0 b1c1 b1f0 b1f1 b1l
  refine (HRb.out _).mono ?_
  rintro e w12 ⟨rfl, hb12⟩
  replace HS := Lib.hid (HS.out.below hb12)
  clear hb12
  have b2e := (HS.out.at 1 _ _ _ rfl)
  have b2c0 := blk_cell b2e 0 (.int .i64 cu) rfl
  have b2c1 := blk_cell b2e 1 (.int .i64 cv) rfl
  have b2f0 := blk_frozen b2e 0
  have b2f1 := blk_frozen b2e 1
  have b2l := blk_lt b2e
  clear b2e
  go_wp2_with fail
  clear b2c0 b2c1 b2f0 b2f1 b2l
  refine (HRc.out _).mono ?_
  rintro e w13 ⟨rfl, hb13⟩
  replace HS := Lib.hid (HS.out.below hb13)
  clear hb13
  have b0e := (HS.out.at 3 _ _ _ rfl)
  have b0c0 := blk_cell b0e 0 (.int .i64 au) rfl
  have b0c1 := blk_cell b0e 1 (.int .i64 av) rfl
  have b0f0 := blk_frozen b0e 0
  have b0f1 := blk_frozen b0e 1
  have b0l := blk_lt b0e
  clear b0e
  have b1e := (HS.out.at 2 _ _ _ rfl)
  have b1c0 := blk_cell b1e 0 (.int .i64 bu) rfl
  have b1c1 := blk_cell b1e 1 (.int .i64 bv) rfl
  have b1f0 := blk_frozen b1e 0
  have b1f1 := blk_frozen b1e 1
  have b1l := blk_lt b1e
  clear b1e
  have b2e := (HS.out.at 1 _ _ _ rfl)
  have b2c0 := blk_cell b2e 0 (.int .i64 cu) rfl
  have b2c1 := blk_cell b2e 1 (.int .i64 cv) rfl
  have b2f0 := blk_frozen b2e 0
  have b2f1 := blk_frozen b2e 1
  have b2l := blk_lt b2e
  clear b2e
  go_wp2_with fail
  clear b0c0 b0c1 b0f0 b0f1 b0l b1c0 b1c1 b1f0 b1f1 b1l b2c0 b2c1 b2f0 b2f1 b2l
  refine (HCR.out _).mono ?_
  rintro e w14 ⟨v14, rfl, hv14, hb14⟩
  obtain ⟨z14, rfl⟩ := hv14.open3
  replace HS := Lib.hid (HS.out.below hb14)
  clear hb14
  replace HS := Lib.hid (HS.out.addQ hv14)
  clear hv14
  go_wp2_with fail
  generalize hW15 : (w14).alloc (.cells _ _) = W15 at *
  replace HS := Lib.hid (((HS.out).alloc (B := w14.heap.size) rfl (by rfl)).to hW15 (by (try simp only [nb5, nb6]); rfl))
  clear hW15
  refine (qzeroR_any qt _ _ (HS.out.q 0 _ _ rfl)).mono ?_
  rw [HZT.out]
  rintro e w16 ⟨rfl, hb16⟩
  replace HS := Lib.hid (HS.out.below hb16)
  clear hb16
  go_wp2_with fail
  refine wp_region_held_drew (S := (fun w' => Sx w w' [(w14.heap.size, z14.arr, 37), (w.heap.size + 3, #[.bool false, .slice none 0 0, .slice none 0 0], 37), (w.heap.size + 2, #[.int .i64 cu, .int .i64 cv], 25), (w.heap.size + 1, #[.int .i64 bu, .int .i64 bv], 25), (w.heap.size, #[.int .i64 au, .int .i64 av], 25)] [])) (by kernel_rfl) ((HS.out.drew).bare) (fun hh => ?_)
  replace HS := Lib.hid HS.out.drew
  have HSW := Lib.hid HS.out.bel.size
  refine tkB (i := 0) (v := ?vk18) rfl ?hk18 ?rk18
  case hk18 => intro u hSu; (try dsimp only at hSu); have qb0e := (hSu.at 4 _ _ _ rfl); have qb0c0 := blk_cell qb0e 0 (.int .i64 au) rfl; have qb0c1 := blk_cell qb0e 1 (.int .i64 av) rfl; clear qb0e; clear hSu; go_simp <;> with_reducible rfl
  try simp only [nbs, Act.put]
  refine tkB (i := 1) (v := ?vk19) rfl ?hk19 ?rk19
  case hk19 => intro u hSu; (try dsimp only at hSu); have qb1e := (hSu.at 3 _ _ _ rfl); have qb1c0 := blk_cell qb1e 0 (.int .i64 bu) rfl; have qb1c1 := blk_cell qb1e 1 (.int .i64 bv) rfl; clear qb1e; clear hSu; go_simp <;> with_reducible rfl
  try simp only [nbs, Act.put]
  refine tkB (i := 3) (v := ?vk20) rfl ?hk20 ?rk20
  case hk20 => intro u hSu; (try dsimp only at hSu); have qb1e := (hSu.at 3 _ _ _ rfl); have qb1c0 := blk_cell qb1e 0 (.int .i64 bu) rfl; have qb1c1 := blk_cell qb1e 1 (.int .i64 bv) rfl; clear qb1e; clear hSu; go_simp <;> with_reducible rfl
  try simp only [nbs, Act.put]
  refine tkB (i := 4) (v := ?vk21) rfl ?hk21 ?rk21
  case hk21 => intro u hSu; (try dsimp only at hSu); have qb2e := (hSu.at 2 _ _ _ rfl); have qb2c0 := blk_cell qb2e 0 (.int .i64 cu) rfl; have qb2c1 := blk_cell qb2e 1 (.int .i64 cv) rfl; clear qb2e; clear hSu; go_simp <;> with_reducible rfl
  try simp only [nbs, Act.put]
  refine tkB (i := 7) (v := ?vk22) rfl ?hk22 ?rk22
  case hk22 => intro u hSu; (try dsimp only at hSu); have qb0e := (hSu.at 4 _ _ _ rfl); have qb0c0 := blk_cell qb0e 0 (.int .i64 au) rfl; have qb0c1 := blk_cell qb0e 1 (.int .i64 av) rfl; clear qb0e; clear hSu; go_simp <;> with_reducible rfl
  try simp only [nbs, Act.put]
  refine tkB (i := 8) (v := ?vk23) rfl ?hk23 ?rk23
  case hk23 => intro u hSu; (try dsimp only at hSu); have qb2e := (hSu.at 2 _ _ _ rfl); have qb2c0 := blk_cell qb2e 0 (.int .i64 cu) rfl; have qb2c1 := blk_cell qb2e 1 (.int .i64 cv) rfl; clear qb2e; clear hSu; go_simp <;> with_reducible rfl
  try simp only [nbs, Act.put]
  refine tkB (i := 12) (v := ?vk24) rfl ?hk24 ?rk24
  case hk24 => intro u hSu; (try dsimp only at hSu); obtain ⟨qb4c0, qb4c1, qb4c2, _⟩ := fac3 (x := z14) (hSu.at 0 _ _ _ rfl); clear hSu; go_simp <;> with_reducible rfl
  try simp only [nbs, Act.put]
  refine tkB (i := 13) (v := ?vk25) rfl ?hk25 ?rk25
  case hk25 => intro u hSu; (try dsimp only at hSu); obtain ⟨qb4c0, qb4c1, qb4c2, _⟩ := fac3 (x := z14) (hSu.at 0 _ _ _ rfl); clear hSu; go_simp <;> with_reducible rfl
  try simp only [nbs, Act.put]
  refine wpAnyH_modular [2, 5, 6, 9, 10, 11, 14, 15, 16, 17, 18, 19, 20] [2, 5, 6, 9, 10, 11, 14, 15, 16, 20] [17, 18, 19] [35, 38, 39, 42, 43, 44, 47, 48, 49, 32, 50, 51, 9] #[true, true, true, true, true, true, true, true, true, true, true, true, true, true, true, true, true, true, true, true, true, false, false] 2 [(2, 35), (5, 38), (6, 39), (9, 42), (10, 43), (11, 44), (14, 47), (15, 48), (16, 49), (17, 32), (18, 50), (19, 51), (20, 9)] [(2, []), (5, [2]), (6, [2, 5]), (9, [6]), (10, [6, 9]), (11, [10]), (14, [11]), (15, [11, 14]), (16, [10, 15]), (17, [16]), (18, [17]), (19, [17]), (20, [])] [20] [(2, fun v w => ∃ z26 : R3, v = z26.val ∧ Fr false w z26.val qab), (5, fun v w => ∃ z27 : R3, v = z27.val ∧ Fr false w z27.val qbc), (6, fun v w => ∃ z28 : R3, v = z28.val ∧ Fr false w z28.val (qab * qbc)), (9, fun v w => ∃ z29 : R3, v = z29.val ∧ Fr false w z29.val qac), (10, fun v w => ∃ z30 : R3, v = z30.val ∧ Fr false w z30.val ((qab * qbc) * qac)), (11, fun v w => ∃ z31 : R3, v = z31.val ∧ Fr false w z31.val q4), (14, fun v w => ∃ z32 : R3, v = z32.val ∧ Fr false w z32.val (qt * qt)), (15, fun v w => ∃ z33 : R3, v = z33.val ∧ Fr false w z33.val (q4 * (qt * qt))), (16, fun v w => ∃ z34 : R3, v = .tuple #[z34.val, .int .i64 0] ∧ Fr false w z34.val qr), (17, fun v w => ∃ z34q17 : R3, v = .tuple #[z34q17.val, .int .i64 0] ∧ Fr false w z34q17.val qr), (18, fun v w => ∃ z34q17q18 : R3, v = z34q17q18.val ∧ Fr false w z34q17q18.val qr), (19, fun v w => v = .int .i64 0), (20, fun v w => ∃ Br17_20 : Nat, v = .pointer (some ⟨Br17_20, 0, none⟩) ∧ w16.drew.heap.size ≤ Br17_20 ∧ w.heap[Br17_20]? = some (.cells #[.bool false, .slice none 0 0, .slice none 0 0] 37 (0, 0)))]
   rfl (by kernel_rfl) (by decide) rfl ⟨(fun v w w' hb ⟨z0, e, h0⟩ => ⟨z0, e, Fr.below h0 hb⟩), ⟨(fun v w w' hb ⟨z0, e, h0⟩ => ⟨z0, e, Fr.below h0 hb⟩), ⟨(fun v w w' hb ⟨z0, e, h0⟩ => ⟨z0, e, Fr.below h0 hb⟩), ⟨(fun v w w' hb ⟨z0, e, h0⟩ => ⟨z0, e, Fr.below h0 hb⟩), ⟨(fun v w w' hb ⟨z0, e, h0⟩ => ⟨z0, e, Fr.below h0 hb⟩), ⟨(fun v w w' hb ⟨z0, e, h0⟩ => ⟨z0, e, Fr.below h0 hb⟩), ⟨(fun v w w' hb ⟨z0, e, h0⟩ => ⟨z0, e, Fr.below h0 hb⟩), ⟨(fun v w w' hb ⟨z0, e, h0⟩ => ⟨z0, e, Fr.below h0 hb⟩), ⟨(fun v w w' hb ⟨z0, e, h0⟩ => ⟨z0, e, Fr.below h0 hb⟩), ⟨(fun v w w' hb ⟨z0, e, h0⟩ => ⟨z0, e, Fr.below h0 hb⟩), ⟨(fun v w w' hb ⟨z0, e, h0⟩ => ⟨z0, e, Fr.below h0 hb⟩), ⟨(fun v w w' hb e => e), ⟨(fun v w w' hb ⟨B, e, g, k⟩ => ⟨B, e, g, blk_keep k hb (blk_lt k)⟩), trivial⟩⟩⟩⟩⟩⟩⟩⟩⟩⟩⟩⟩⟩ ⟨fun v w ⟨B, e, g, k⟩ => ⟨B, e, blk_lt k⟩, trivial⟩ (fun w' hb => Sx.below hh hb) ⟨?_, ?_, ?_, ?_, ?_, ?_, ?_, ?_, ?_, ?_, trivial⟩ ⟨?_, ?_, ?_, trivial⟩ (by decide) ?_
  ·
   refine StepM.of rfl (fun f w' hb hp K hK => ?_)
   have HSB := HS
   replace HS := Lib.hid (HS.out.below hb)
   simp only [fillA, fillT, List.foldl_cons, List.foldl_nil, Act.put, nb4, nb5, nb6]
   go_simp
   go_wp2_with (go_at_call 45; (with_reducible refine (HAab.out _).mono ?_); rintro e w26 ⟨v26, rfl, hv26, hb26⟩; obtain ⟨z26, rfl⟩ := hv26.open3)
   exact hK.out _ _ (z26.val) (by simp only [fillA, fillT, List.foldl_cons, List.foldl_nil, Act.put, nb4, nb5, nb6, nb1, nb2, nb3]) ⟨z26, rfl, hv26⟩ (fun h => absurd h (by decide)) hb26
  ·
   refine StepM.of rfl (fun f w' hb hp K hK => ?_)
   have HSB := HS
   replace HS := Lib.hid (HS.out.below hb)
   simp only [fillA, fillT, List.foldl_cons, List.foldl_nil, Act.put, nb4, nb5, nb6]
   go_simp
   go_wp2_with (go_at_call 45; (with_reducible refine (HAbc.out _).mono ?_); rintro e w27 ⟨v27, rfl, hv27, hb27⟩; obtain ⟨z27, rfl⟩ := hv27.open3)
   exact hK.out _ _ (z27.val) (by simp only [fillA, fillT, List.foldl_cons, List.foldl_nil, Act.put, nb4, nb5, nb6, nb1, nb2, nb3]) ⟨z27, rfl, hv27⟩ (fun h => absurd h (by decide)) hb27
  ·
   refine StepM.of rfl (fun f w' hb hp K hK => ?_)
   obtain ⟨z26, e2, h2_0⟩ : ∃ z26 : R3, f 35 = z26.val ∧ Fr false w' z26.val qab := hp 2 (by decide)
   obtain ⟨z27, e5, h5_0⟩ : ∃ z27 : R3, f 38 = z27.val ∧ Fr false w' z27.val qbc := hp 5 (by decide)
   have HSB := HS
   replace HS := Lib.hid (HS.out.below hb)
   replace HS := Lib.hid (HS.out.addQ h2_0)
   replace HS := Lib.hid (HS.out.addQ h5_0)
   simp only [fillA, fillT, List.foldl_cons, List.foldl_nil, Act.put, nb4, nb5, nb6, e2, e5]
   have a35 := HS.out.q 1 _ _ rfl
   have a36 := HS.out.q 0 _ _ rfl
   go_simp
   go_wp2_with (go_at_call 44; (with_reducible refine (qmul_any qab qbc _ _ _ a35 a36 (szQ_mono (szQ_of ZAab.out) (by omega)) (szQ_mono (szQ_of ZAbc.out) (by omega))).mono ?_); rintro e w28 ⟨v28, rfl, hv28, hb28⟩; obtain ⟨z28, rfl⟩ := hv28.open3)
   exact hK.out _ _ (z28.val) (by simp only [fillA, fillT, List.foldl_cons, List.foldl_nil, Act.put, nb4, nb5, nb6, nb1, nb2, nb3, e2, e5]) ⟨z28, rfl, hv28⟩ (fun h => absurd h (by decide)) hb28
  ·
   refine StepM.of rfl (fun f w' hb hp K hK => ?_)
   have HSB := HS
   replace HS := Lib.hid (HS.out.below hb)
   simp only [fillA, fillT, List.foldl_cons, List.foldl_nil, Act.put, nb4, nb5, nb6]
   go_simp
   go_wp2_with (go_at_call 45; (with_reducible refine (HAac.out _).mono ?_); rintro e w29 ⟨v29, rfl, hv29, hb29⟩; obtain ⟨z29, rfl⟩ := hv29.open3)
   exact hK.out _ _ (z29.val) (by simp only [fillA, fillT, List.foldl_cons, List.foldl_nil, Act.put, nb4, nb5, nb6, nb1, nb2, nb3]) ⟨z29, rfl, hv29⟩ (fun h => absurd h (by decide)) hb29
  ·
   refine StepM.of rfl (fun f w' hb hp K hK => ?_)
   obtain ⟨z28, e6, h6_0⟩ : ∃ z28 : R3, f 39 = z28.val ∧ Fr false w' z28.val (qab * qbc) := hp 6 (by decide)
   obtain ⟨z29, e9, h9_0⟩ : ∃ z29 : R3, f 42 = z29.val ∧ Fr false w' z29.val qac := hp 9 (by decide)
   have HSB := HS
   replace HS := Lib.hid (HS.out.below hb)
   replace HS := Lib.hid (HS.out.addQ h6_0)
   replace HS := Lib.hid (HS.out.addQ h9_0)
   simp only [fillA, fillT, List.foldl_cons, List.foldl_nil, Act.put, nb4, nb5, nb6, e6, e9]
   have a37 := HS.out.q 1 _ _ rfl
   have a38 := HS.out.q 0 _ _ rfl
   go_simp
   go_wp2_with (go_at_call 44; (with_reducible refine (qmul_any (qab * qbc) qac _ _ _ a37 a38 (szQ_mono (szQ_of (szR_mul ZAab.out ZAbc.out)) (by omega)) (szQ_mono (szQ_of ZAac.out) (by omega))).mono ?_); rintro e w30 ⟨v30, rfl, hv30, hb30⟩; obtain ⟨z30, rfl⟩ := hv30.open3)
   exact hK.out _ _ (z30.val) (by simp only [fillA, fillT, List.foldl_cons, List.foldl_nil, Act.put, nb4, nb5, nb6, nb1, nb2, nb3, e6, e9]) ⟨z30, rfl, hv30⟩ (fun h => absurd h (by decide)) hb30
  ·
   refine StepM.of rfl (fun f w' hb hp K hK => ?_)
   have HSB := HS
   replace HS := Lib.hid (HS.out.below hb)
   simp only [fillA, fillT, List.foldl_cons, List.foldl_nil, Act.put, nb4, nb5, nb6]
   go_simp
   go_wp2_with (go_at_call 30; (with_reducible refine (HN4.out _).mono ?_); rintro e w31 ⟨v31, rfl, hv31, hb31⟩; obtain ⟨z31, rfl⟩ := hv31.open3)
   exact hK.out _ _ (z31.val) (by simp only [fillA, fillT, List.foldl_cons, List.foldl_nil, Act.put, nb4, nb5, nb6, nb1, nb2, nb3]) ⟨z31, rfl, hv31⟩ (fun h => absurd h (by decide)) hb31
  ·
   refine StepM.of rfl (fun f w' hb hp K hK => ?_)
   have HSB := HS
   replace HS := Lib.hid (HS.out.below hb)
   simp only [fillA, fillT, List.foldl_cons, List.foldl_nil, Act.put, nb4, nb5, nb6]
   have a39 := HS.out.q 0 _ _ rfl
   go_simp
   go_wp2_with (go_at_call 44; (with_reducible refine (qmul_any qt qt _ _ _ a39 a39 (szQ_mono (szQ_of ZCR.out) (by omega)) (szQ_mono (szQ_of ZCR.out) (by omega))).mono ?_); rintro e w32 ⟨v32, rfl, hv32, hb32⟩; obtain ⟨z32, rfl⟩ := hv32.open3)
   exact hK.out _ _ (z32.val) (by simp only [fillA, fillT, List.foldl_cons, List.foldl_nil, Act.put, nb4, nb5, nb6, nb1, nb2, nb3]) ⟨z32, rfl, hv32⟩ (fun h => absurd h (by decide)) hb32
  ·
   refine StepM.of rfl (fun f w' hb hp K hK => ?_)
   obtain ⟨z31, e11, h11_0⟩ : ∃ z31 : R3, f 44 = z31.val ∧ Fr false w' z31.val q4 := hp 11 (by decide)
   obtain ⟨z32, e14, h14_0⟩ : ∃ z32 : R3, f 47 = z32.val ∧ Fr false w' z32.val (qt * qt) := hp 14 (by decide)
   have HSB := HS
   replace HS := Lib.hid (HS.out.below hb)
   replace HS := Lib.hid (HS.out.addQ h11_0)
   replace HS := Lib.hid (HS.out.addQ h14_0)
   simp only [fillA, fillT, List.foldl_cons, List.foldl_nil, Act.put, nb4, nb5, nb6, e11, e14]
   have a40 := HS.out.q 1 _ _ rfl
   have a41 := HS.out.q 0 _ _ rfl
   go_simp
   go_wp2_with (go_at_call 44; (with_reducible refine (qmul_any q4 (qt * qt) _ _ _ a40 a41 (szQ_mono (szQ_of Z4.out) (by omega)) (szQ_mono (szQ_of (szR_mul ZCR.out ZCR.out)) (by omega))).mono ?_); rintro e w33 ⟨v33, rfl, hv33, hb33⟩; obtain ⟨z33, rfl⟩ := hv33.open3)
   exact hK.out _ _ (z33.val) (by simp only [fillA, fillT, List.foldl_cons, List.foldl_nil, Act.put, nb4, nb5, nb6, nb1, nb2, nb3, e11, e14]) ⟨z33, rfl, hv33⟩ (fun h => absurd h (by decide)) hb33
  ·
   refine StepM.of rfl (fun f w' hb hp K hK => ?_)
   obtain ⟨z30, e10, h10_0⟩ : ∃ z30 : R3, f 43 = z30.val ∧ Fr false w' z30.val ((qab * qbc) * qac) := hp 10 (by decide)
   obtain ⟨z33, e15, h15_0⟩ : ∃ z33 : R3, f 48 = z33.val ∧ Fr false w' z33.val (q4 * (qt * qt)) := hp 15 (by decide)
   have HSB := HS
   replace HS := Lib.hid (HS.out.below hb)
   replace HS := Lib.hid (HS.out.addQ h10_0)
   replace HS := Lib.hid (HS.out.addQ h15_0)
   simp only [fillA, fillT, List.foldl_cons, List.foldl_nil, Act.put, nb4, nb5, nb6, e10, e15]
   have a42 := HS.out.q 1 _ _ rfl
   have a43 := HS.out.q 0 _ _ rfl
   go_simp
   go_wp2_with (go_at_call 43; (with_reducible refine (HDV.out _ _ _ a42 a43).mono ?_); rintro e w34 ⟨v34, rfl, hv34, hb34⟩; obtain ⟨z34, rfl⟩ := hv34.open3)
   exact hK.out _ _ (.tuple #[z34.val, .int .i64 0]) (by simp only [fillA, fillT, List.foldl_cons, List.foldl_nil, Act.put, nb4, nb5, nb6, nb1, nb2, nb3, e10, e15]) ⟨z34, rfl, hv34⟩ (fun h => absurd h (by decide)) hb34
  ·
   refine StepM.of rfl (fun f w' hb hp K hK => ?_)
   have HSB := HS
   replace HS := Lib.hid (HS.out.below hb)
   simp only [fillA, fillT, List.foldl_cons, List.foldl_nil, Act.put, nb4, nb5, nb6]
   go_simp
   exact hK.out _ _ (.pointer (some ⟨w'.heap.size, 0, none⟩)) (by simp only [fillA, fillT, List.foldl_cons, List.foldl_nil, Act.put, nb4, nb5, nb6, nb1, nb2, nb3]) ⟨_, rfl, hb.size, blk_new _ _ _⟩ (fun _ => rfl) (below1 w' _)
  ·
   refine EagerM.of rfl (fun f w' hb hp => ?_)
   obtain ⟨z34, e16, h16_0⟩ : ∃ z34 : R3, f 49 = .tuple #[z34.val, .int .i64 0] ∧ Fr false w' z34.val qr := hp 16 (by decide)
   refine ⟨.tuple #[z34.val, .int .i64 0], ⟨z34, rfl, h16_0⟩, by first | rfl | kernel_rfl, fun u => ?_⟩
   simp only [fillA, fillT, List.foldl_cons, List.foldl_nil, Act.put, nb4, nb5, nb6, e16]
   go_simp <;> with_reducible rfl
  ·
   refine EagerM.of rfl (fun f w' hb hp => ?_)
   obtain ⟨z34q17, e17, h17_0⟩ : ∃ z34q17 : R3, f 32 = .tuple #[z34q17.val, .int .i64 0] ∧ Fr false w' z34q17.val qr := hp 17 (by decide)
   refine ⟨z34q17.val, ⟨z34q17, rfl, h17_0⟩, by first | rfl | kernel_rfl, fun u => ?_⟩
   simp only [fillA, fillT, List.foldl_cons, List.foldl_nil, Act.put, nb4, nb5, nb6, e17]
   go_simp <;> with_reducible rfl
  ·
   refine EagerM.of rfl (fun f w' hb hp => ?_)
   obtain ⟨z34q17, e17, h17_0⟩ : ∃ z34q17 : R3, f 32 = .tuple #[z34q17.val, .int .i64 0] ∧ Fr false w' z34q17.val qr := hp 17 (by decide)
   refine ⟨.int .i64 0, rfl, by first | rfl | kernel_rfl, fun u => ?_⟩
   simp only [fillA, fillT, List.foldl_cons, List.foldl_nil, Act.put, nb4, nb5, nb6, e17]
   go_simp <;> with_reducible rfl
  ·
   intro f wr17 hb hp hd
   obtain ⟨z26, e2, h2_0⟩ : ∃ z26 : R3, f 35 = z26.val ∧ Fr false wr17 z26.val qab := hp 2 (by decide)
   obtain ⟨z27, e5, h5_0⟩ : ∃ z27 : R3, f 38 = z27.val ∧ Fr false wr17 z27.val qbc := hp 5 (by decide)
   obtain ⟨z28, e6, h6_0⟩ : ∃ z28 : R3, f 39 = z28.val ∧ Fr false wr17 z28.val (qab * qbc) := hp 6 (by decide)
   obtain ⟨z29, e9, h9_0⟩ : ∃ z29 : R3, f 42 = z29.val ∧ Fr false wr17 z29.val qac := hp 9 (by decide)
   obtain ⟨z30, e10, h10_0⟩ : ∃ z30 : R3, f 43 = z30.val ∧ Fr false wr17 z30.val ((qab * qbc) * qac) := hp 10 (by decide)
   obtain ⟨z31, e11, h11_0⟩ : ∃ z31 : R3, f 44 = z31.val ∧ Fr false wr17 z31.val q4 := hp 11 (by decide)
   obtain ⟨z32, e14, h14_0⟩ : ∃ z32 : R3, f 47 = z32.val ∧ Fr false wr17 z32.val (qt * qt) := hp 14 (by decide)
   obtain ⟨z33, e15, h15_0⟩ : ∃ z33 : R3, f 48 = z33.val ∧ Fr false wr17 z33.val (q4 * (qt * qt)) := hp 15 (by decide)
   obtain ⟨z34, e16, h16_0⟩ : ∃ z34 : R3, f 49 = .tuple #[z34.val, .int .i64 0] ∧ Fr false wr17 z34.val qr := hp 16 (by decide)
   obtain ⟨z34q17, e17, h17_0⟩ : ∃ z34q17 : R3, f 32 = .tuple #[z34q17.val, .int .i64 0] ∧ Fr false wr17 z34q17.val qr := hp 17 (by decide)
   obtain ⟨z34q17q18, e18, h18_0⟩ : ∃ z34q17q18 : R3, f 50 = z34q17q18.val ∧ Fr false wr17 z34q17q18.val qr := hp 18 (by decide)
   obtain e19 : f 51 = .int .i64 0 := hp 19 (by decide)
   obtain ⟨Br17_20, e20, g20, k20⟩ : ∃ Br17_20 : Nat, f 9 = .pointer (some ⟨Br17_20, 0, none⟩) ∧ w16.drew.heap.size ≤ Br17_20 ∧ wr17.heap[Br17_20]? = some (.cells #[.bool false, .slice none 0 0, .slice none 0 0] 37 (0, 0)) := hp 20 (by decide)
   replace hh := Sx.below hh hb
   have hlt := HS.out.lt
   replace HS := Lib.hid (HS.out.below hb)
   replace HS := Lib.hid (HS.out.addQ h2_0)
   replace HS := Lib.hid (HS.out.addQ h5_0)
   replace HS := Lib.hid (HS.out.addQ h6_0)
   replace HS := Lib.hid (HS.out.addQ h9_0)
   replace HS := Lib.hid (HS.out.addQ h10_0)
   replace HS := Lib.hid (HS.out.addQ h11_0)
   replace HS := Lib.hid (HS.out.addQ h14_0)
   replace HS := Lib.hid (HS.out.addQ h15_0)
   replace HS := Lib.hid (HS.out.addQ h16_0)
   replace HS := Lib.hid (HS.out.addQ h17_0)
   replace HS := Lib.hid (HS.out.addQ h18_0)
   have hge20 : w.heap.size ≤ Br17_20 := Nat.le_trans HSW.out g20
   have hne20 : ∀ b, b ∈ ([(w14.heap.size, z14.arr, 37), (w.heap.size + 3, #[.bool false, .slice none 0 0, .slice none 0 0], 37), (w.heap.size + 2, #[.int .i64 cu, .int .i64 cv], 25), (w.heap.size + 1, #[.int .i64 bu, .int .i64 bv], 25), (w.heap.size, #[.int .i64 au, .int .i64 av], 25)] : List Bx) → b.1 ≠ Br17_20 := by
    intro b hb
    simp only [List.mem_cons, List.not_mem_nil, or_false] at hb
    rcases hb with rfl | rfl | rfl | rfl | rfl
    ·
     have := hlt _ (List.mem_iff_getElem?.2 ⟨0, rfl⟩); dsimp only at this ⊢; omega
    ·
     have := hlt _ (List.mem_iff_getElem?.2 ⟨1, rfl⟩); dsimp only at this ⊢; omega
    ·
     have := hlt _ (List.mem_iff_getElem?.2 ⟨2, rfl⟩); dsimp only at this ⊢; omega
    ·
     have := hlt _ (List.mem_iff_getElem?.2 ⟨3, rfl⟩); dsimp only at this ⊢; omega
    ·
     have := hlt _ (List.mem_iff_getElem?.2 ⟨4, rfl⟩); dsimp only at this ⊢; omega
   replace HS := Lib.hid (HS.out.addBox k20 hge20 (by rfl) hne20)
   simp only [fillA, fillT, List.foldl_cons, List.foldl_nil, Act.put, nb4, nb5, nb6, e2, e5, e6, e9, e10, e11, e14, e15, e16, e17, e18, e19, e20]
   clear hp hd hb hlt e2 e5 e6 e9 e10 e11 e14 e15 e16 e17 e18 e19 e20
   refine rdA (i := 21) rfl (fun K hK => ?_)
   have b5e := (HS.out.at 0 _ _ _ rfl)
   have b5c0 := blk_cell b5e 0 (.bool false) rfl
   have b5c1 := blk_cell b5e 1 (.slice none 0 0) rfl
   have b5c2 := blk_cell b5e 2 (.slice none 0 0) rfl
   have b5f0 := blk_frozen b5e 0
   have b5f1 := blk_frozen b5e 1
   have b5f2 := blk_frozen b5e 2
   have b5l := blk_lt b5e
   clear b5e
   go_simp
   refine hK.out _ _ ((((HS.out).st_R 0 r30 z34q17q18 rfl)).erase 0) (fun hh => ?_)
   clear hK K b5c0 b5c1 b5c2 b5f0 b5f1 b5f2 b5l
   try simp only [nbs, Act.put]
   generalize hW44 : (((wr17).setCell _ _).setCell _ _).setCell _ _ = W44 at *
   replace HS := Lib.hid (((HS.out).st_R 0 r30 z34q17q18 rfl).to hW44 (by (try simp only [nb5, nb6]); rfl))
   clear hW44
   refine tkB (i := 22) (v := ?vk45) rfl ?hk45 ?rk45
   case hk45 => intro u hSu; go_simp <;> with_reducible rfl
   try simp only [nbs, Act.put]
   refine wpAnyH_done (by kernel_rfl) ?_ _
   obtain ⟨b5c0, b5c1, b5c2, b5f0, b5f1, b5f2⟩ := fac3 (x := z34q17q18) (HS.out.at 0 _ _ _ rfl)
   have b5l := blk_lt (HS.out.at 0 _ _ _ rfl)
   have b3e := (HS.out.at 2 _ _ _ rfl)
   have b3c0 := blk_cell b3e 0 (.bool false) rfl
   have b3c1 := blk_cell b3e 1 (.slice none 0 0) rfl
   have b3c2 := blk_cell b3e 2 (.slice none 0 0) rfl
   have b3f0 := blk_frozen b3e 0
   have b3f1 := blk_frozen b3e 1
   have b3f2 := blk_frozen b3e 2
   have b3l := blk_lt b3e
   clear b3e
   have bn5_3 := HS.out.ne 0 2 rfl rfl (by decide)
   go_wp2_with fail
   clear b5c0 b5c1 b5c2 b5f0 b5f1 b5f2 b5l b3c0 b3c1 b3c2 b3f0 b3f1 b3f2 b3l bn5_3
   generalize hW46 : (((W44).setCell _ _).setCell _ _).setCell _ _ = W46 at *
   replace HS := Lib.hid (((HS.out).st_R 2 r30 z34q17q18 rfl).to hW46 (by (try simp only [nb5, nb6]); rfl))
   clear hW46
   obtain ⟨b3c0, b3c1, b3c2, _⟩ := fac3 (x := z34q17q18) (HS.out.at 2 _ _ _ rfl)
   refine bodyPost_ret (v := .tuple #[z34q17q18.val, .int .i64 0]) (by simp [results, Tryz.results14, go_sem, b3c0, b3c1, b3c2]) rfl ⟨_, rfl, (HS.out.q 0 _ _ rfl), HS.out.bel⟩
set_option maxRecDepth 100000 in
set_option maxHeartbeats 8000000 in
theorem narrow_any (a b c : Pt) (m : Int) (w : World) (ha : ptOk a = true) (hb : ptOk b = true) (hc : ptOk c = true) (h0 : 0 ≤ m) (h1 : m ≤ 1073741824) : Calls Tryz.prog 49 #[.agg #[.int .i64 a.1, .int .i64 a.2], .agg #[.int .i64 b.1, .int .i64 b.2], .agg #[.int .i64 c.1, .int .i64 c.2], .int .i64 m] w (RetBool (narB m a b c) w) := by
 have HS := Lib.hid (Sx.init w)
 have HRAD := Lib.hid (fun W => rradius_any a b c W ha hb hc)
 have ZR := Lib.hid (rad_sz ha hb hc)
 have HNm : Hid (∀ W, Calls Tryz.prog 30 #[.int .i64 m] W (RetR ((m : Int) : Rat) W)) := fun W => rnum_any m W (by omega) (by omega)
 have Zm := Lib.hid (i64_szR m (by omega) (by omega) 1 (by omega))
 have HD := Lib.hid (dot_cast a b c)
 by_cases hz : crossI a b c = 0
 ·
  have HR : Hid (narB m a b c = decide (sgnI (decide (((dotI b a c : Int) : Rat).num < 0)) ((dotI b a c : Int) : Rat).num.natAbs > 0)) := by show _ = _; unfold narB; rw [if_pos hz, sgnI_int, decide_eq_decide]; unfold sgI; split <;> rename_i h <;> (try split) <;> omega
  have hre : radE a b c = 5 := by unfold radE; rw [if_pos hz]
  rw [hre] at HRAD
  rw [← HD.out] at HR
  generalize narB m a b c = res at *
  generalize ((dotI b a c : Int) : Rat) = qd at *
  generalize radQ a b c = qr at *
  clear hz hre
  obtain ⟨⟨ra1, ra2⟩, ra3, ra4⟩ := ptOk_range ha
  unfold far at ra1 ra2 ra3 ra4
  obtain ⟨au, av⟩ := a
  try dsimp only at *
  have HNau : Hid (∀ W, Calls Tryz.prog 30 #[.int .i64 au] W (RetR ((au : Int) : Rat) W)) := fun W => rnum_any au W (by omega) (by omega)
  have Zau := Lib.hid (i64_szR au (by omega) (by omega) 1 (by omega))
  have HNav : Hid (∀ W, Calls Tryz.prog 30 #[.int .i64 av] W (RetR ((av : Int) : Rat) W)) := fun W => rnum_any av W (by omega) (by omega)
  have Zav := Lib.hid (i64_szR av (by omega) (by omega) 1 (by omega))
  obtain ⟨⟨rb1, rb2⟩, rb3, rb4⟩ := ptOk_range hb
  unfold far at rb1 rb2 rb3 rb4
  obtain ⟨bu, bv⟩ := b
  try dsimp only at *
  have HNbu : Hid (∀ W, Calls Tryz.prog 30 #[.int .i64 bu] W (RetR ((bu : Int) : Rat) W)) := fun W => rnum_any bu W (by omega) (by omega)
  have Zbu := Lib.hid (i64_szR bu (by omega) (by omega) 1 (by omega))
  have HNbv : Hid (∀ W, Calls Tryz.prog 30 #[.int .i64 bv] W (RetR ((bv : Int) : Rat) W)) := fun W => rnum_any bv W (by omega) (by omega)
  have Zbv := Lib.hid (i64_szR bv (by omega) (by omega) 1 (by omega))
  obtain ⟨⟨rc1, rc2⟩, rc3, rc4⟩ := ptOk_range hc
  unfold far at rc1 rc2 rc3 rc4
  obtain ⟨cu, cv⟩ := c
  try dsimp only at *
  have HNcu : Hid (∀ W, Calls Tryz.prog 30 #[.int .i64 cu] W (RetR ((cu : Int) : Rat) W)) := fun W => rnum_any cu W (by omega) (by omega)
  have Zcu := Lib.hid (i64_szR cu (by omega) (by omega) 1 (by omega))
  have HNcv : Hid (∀ W, Calls Tryz.prog 30 #[.int .i64 cv] W (RetR ((cv : Int) : Rat) W)) := fun W => rnum_any cv W (by omega) (by omega)
  have Zcv := Lib.hid (i64_szR cv (by omega) (by omega) 1 (by omega))
  clear ha ra1 ra2 ra3 ra4 hb rb1 rb2 rb3 rb4 hc rc1 rc2 rc3 rc4 h0 h1
  generalize ((au : Int) : Rat) = qau at *
  generalize ((av : Int) : Rat) = qav at *
  generalize ((bu : Int) : Rat) = qbu at *
  generalize ((bv : Int) : Rat) = qbv at *
  generalize ((cu : Int) : Rat) = qcu at *
  generalize ((cv : Int) : Rat) = qcv at *
  generalize ((m : Int) : Rat) = qm at *
  try dsimp only at *
  go_enter Tryz.func49, Tryz.ntmps49
  go_wp2_with fail
  generalize hW1 : (((w).alloc (.cells _ _)).alloc (.cells _ _)).alloc (.cells _ _) = W1 at *
  replace HS := Lib.hid (((((HS.out).alloc (B := w.heap.size) rfl (by rfl)).alloc (B := w.heap.size + 1) (by simp) (by rfl)).alloc (B := w.heap.size + 2) (by simp) (by rfl)).to hW1 (by (try simp only [nb5, nb6]); rfl))
  clear hW1
  refine (HRAD.out _).mono ?_
  rintro e w2 ⟨v2, rfl, hv2, hb2⟩
  obtain ⟨z2, rfl⟩ := hv2.open3
  replace HS := Lib.hid (HS.out.below hb2)
  clear hb2
  replace HS := Lib.hid (HS.out.addQ hv2)
  clear hv2
  go_wp2_with fail
  generalize hW3 : (w2).alloc (.cells _ _) = W3 at *
  replace HS := Lib.hid (((HS.out).alloc (B := w2.heap.size) rfl (by rfl)).to hW3 (by (try simp only [nb5, nb6]); rfl))
  clear hW3
  refine wp_region_held_drew (S := (fun w' => Sx w w' [(w2.heap.size, z2.arr, 37), (w.heap.size + 2, #[.int .i64 cu, .int .i64 cv], 25), (w.heap.size + 1, #[.int .i64 bu, .int .i64 bv], 25), (w.heap.size, #[.int .i64 au, .int .i64 av], 25)] [])) (by kernel_rfl) ((HS.out.drew).bare) (fun hh => ?_)
  replace HS := Lib.hid HS.out.drew
  have HSW := Lib.hid HS.out.bel.size
  refine tkB (i := 0) (v := ?vk5) rfl ?hk5 ?rk5
  case hk5 => intro u hSu; go_simp <;> with_reducible rfl
  try simp only [nbs, Act.put]
  refine tkB (i := 1) (v := ?vk6) rfl ?hk6 ?rk6
  case hk6 => intro u hSu; (try dsimp only at hSu); have qb0e := (hSu.at 3 _ _ _ rfl); have qb0c0 := blk_cell qb0e 0 (.int .i64 au) rfl; have qb0c1 := blk_cell qb0e 1 (.int .i64 av) rfl; clear qb0e; clear hSu; go_simp <;> with_reducible rfl
  try simp only [nbs, Act.put]
  refine tkB (i := 3) (v := ?vk7) rfl ?hk7 ?rk7
  case hk7 => intro u hSu; go_simp <;> with_reducible rfl
  try simp only [nbs, Act.put]
  refine tkB (i := 4) (v := ?vk8) rfl ?hk8 ?rk8
  case hk8 => intro u hSu; (try dsimp only at hSu); have qb1e := (hSu.at 2 _ _ _ rfl); have qb1c0 := blk_cell qb1e 0 (.int .i64 bu) rfl; have qb1c1 := blk_cell qb1e 1 (.int .i64 bv) rfl; clear qb1e; clear hSu; go_simp <;> with_reducible rfl
  try simp only [nbs, Act.put]
  refine tkB (i := 7) (v := ?vk9) rfl ?hk9 ?rk9
  case hk9 => intro u hSu; go_simp <;> with_reducible rfl
  try simp only [nbs, Act.put]
  refine tkB (i := 8) (v := ?vk10) rfl ?hk10 ?rk10
  case hk10 => intro u hSu; (try dsimp only at hSu); have qb2e := (hSu.at 1 _ _ _ rfl); have qb2c0 := blk_cell qb2e 0 (.int .i64 cu) rfl; have qb2c1 := blk_cell qb2e 1 (.int .i64 cv) rfl; clear qb2e; clear hSu; go_simp <;> with_reducible rfl
  try simp only [nbs, Act.put]
  refine tkB (i := 10) (v := ?vk11) rfl ?hk11 ?rk11
  case hk11 => intro u hSu; go_simp <;> with_reducible rfl
  try simp only [nbs, Act.put]
  refine tkB (i := 11) (v := ?vk12) rfl ?hk12 ?rk12
  case hk12 => intro u hSu; (try dsimp only at hSu); have qb1e := (hSu.at 2 _ _ _ rfl); have qb1c0 := blk_cell qb1e 0 (.int .i64 bu) rfl; have qb1c1 := blk_cell qb1e 1 (.int .i64 bv) rfl; clear qb1e; clear hSu; go_simp <;> with_reducible rfl
  try simp only [nbs, Act.put]
  refine wpAnyH_modular [2, 5, 6, 9, 12, 13, 14, 15] [2, 5, 6, 9, 12, 13, 14, 15] [] [32, 35, 36, 39, 42, 43, 44, 11] #[true, true, true, true, true, true, true, true, true, true, true, true, true, true, true, true, false] 1 [(2, 32), (5, 35), (6, 36), (9, 39), (12, 42), (13, 43), (14, 44), (15, 11)] [(2, []), (5, [2]), (6, [2, 5]), (9, [6]), (12, [9]), (13, [9, 12]), (14, [6, 13]), (15, [])] [15] [(2, fun v w => ∃ z13 : R3, v = z13.val ∧ Fr false w z13.val qau), (5, fun v w => ∃ z14 : R3, v = z14.val ∧ Fr false w z14.val qbu), (6, fun v w => ∃ z15 : R3, v = z15.val ∧ Fr false w z15.val (qau - qbu)), (9, fun v w => ∃ z16 : R3, v = z16.val ∧ Fr false w z16.val qcu), (12, fun v w => ∃ z17 : R3, v = z17.val ∧ Fr false w z17.val qbu), (13, fun v w => ∃ z18 : R3, v = z18.val ∧ Fr false w z18.val (qcu - qbu)), (14, fun v w => ∃ z19 : R3, v = z19.val ∧ Fr false w z19.val ((qau - qbu) * (qcu - qbu))), (15, fun v w => ∃ Br4_15 : Nat, v = .pointer (some ⟨Br4_15, 0, none⟩) ∧ W3.drew.heap.size ≤ Br4_15 ∧ w.heap[Br4_15]? = some (.cells #[.bool false, .slice none 0 0, .slice none 0 0] 37 (0, 0)))]
   rfl (by kernel_rfl) (by decide) rfl ⟨(fun v w w' hb ⟨z0, e, h0⟩ => ⟨z0, e, Fr.below h0 hb⟩), ⟨(fun v w w' hb ⟨z0, e, h0⟩ => ⟨z0, e, Fr.below h0 hb⟩), ⟨(fun v w w' hb ⟨z0, e, h0⟩ => ⟨z0, e, Fr.below h0 hb⟩), ⟨(fun v w w' hb ⟨z0, e, h0⟩ => ⟨z0, e, Fr.below h0 hb⟩), ⟨(fun v w w' hb ⟨z0, e, h0⟩ => ⟨z0, e, Fr.below h0 hb⟩), ⟨(fun v w w' hb ⟨z0, e, h0⟩ => ⟨z0, e, Fr.below h0 hb⟩), ⟨(fun v w w' hb ⟨z0, e, h0⟩ => ⟨z0, e, Fr.below h0 hb⟩), ⟨(fun v w w' hb ⟨B, e, g, k⟩ => ⟨B, e, g, blk_keep k hb (blk_lt k)⟩), trivial⟩⟩⟩⟩⟩⟩⟩⟩ ⟨fun v w ⟨B, e, g, k⟩ => ⟨B, e, blk_lt k⟩, trivial⟩ (fun w' hb => Sx.below hh hb) ⟨?_, ?_, ?_, ?_, ?_, ?_, ?_, ?_, trivial⟩ trivial (by decide) ?_
  ·
   refine StepM.of rfl (fun f w' hb hp K hK => ?_)
   have HSB := HS
   replace HS := Lib.hid (HS.out.below hb)
   simp only [fillA, fillT, List.foldl_cons, List.foldl_nil, Act.put, nb4, nb5, nb6]
   go_simp
   go_wp2_with (go_at_call 30; (with_reducible refine (HNau.out _).mono ?_); rintro e w13 ⟨v13, rfl, hv13, hb13⟩; obtain ⟨z13, rfl⟩ := hv13.open3)
   exact hK.out _ _ (z13.val) (by simp only [fillA, fillT, List.foldl_cons, List.foldl_nil, Act.put, nb4, nb5, nb6, nb1, nb2, nb3]) ⟨z13, rfl, hv13⟩ (fun h => absurd h (by decide)) hb13
  ·
   refine StepM.of rfl (fun f w' hb hp K hK => ?_)
   have HSB := HS
   replace HS := Lib.hid (HS.out.below hb)
   simp only [fillA, fillT, List.foldl_cons, List.foldl_nil, Act.put, nb4, nb5, nb6]
   go_simp
   go_wp2_with (go_at_call 30; (with_reducible refine (HNbu.out _).mono ?_); rintro e w14 ⟨v14, rfl, hv14, hb14⟩; obtain ⟨z14, rfl⟩ := hv14.open3)
   exact hK.out _ _ (z14.val) (by simp only [fillA, fillT, List.foldl_cons, List.foldl_nil, Act.put, nb4, nb5, nb6, nb1, nb2, nb3]) ⟨z14, rfl, hv14⟩ (fun h => absurd h (by decide)) hb14
  ·
   refine StepM.of rfl (fun f w' hb hp K hK => ?_)
   obtain ⟨z13, e2, h2_0⟩ : ∃ z13 : R3, f 32 = z13.val ∧ Fr false w' z13.val qau := hp 2 (by decide)
   obtain ⟨z14, e5, h5_0⟩ : ∃ z14 : R3, f 35 = z14.val ∧ Fr false w' z14.val qbu := hp 5 (by decide)
   have HSB := HS
   replace HS := Lib.hid (HS.out.below hb)
   replace HS := Lib.hid (HS.out.addQ h2_0)
   replace HS := Lib.hid (HS.out.addQ h5_0)
   simp only [fillA, fillT, List.foldl_cons, List.foldl_nil, Act.put, nb4, nb5, nb6, e2, e5]
   have a20 := HS.out.q 1 _ _ rfl
   have a21 := HS.out.q 0 _ _ rfl
   go_simp
   go_wp2_with (go_at_call 72; (with_reducible refine (qsub_any qau qbu _ _ _ a20 a21 (szQ_mono (szQ_of Zau.out) (by omega)) (szQ_mono (szQ_of Zbu.out) (by omega))).mono ?_); rintro e w15 ⟨v15, rfl, hv15, hb15⟩; obtain ⟨z15, rfl⟩ := hv15.open3)
   exact hK.out _ _ (z15.val) (by simp only [fillA, fillT, List.foldl_cons, List.foldl_nil, Act.put, nb4, nb5, nb6, nb1, nb2, nb3, e2, e5]) ⟨z15, rfl, hv15⟩ (fun h => absurd h (by decide)) hb15
  ·
   refine StepM.of rfl (fun f w' hb hp K hK => ?_)
   have HSB := HS
   replace HS := Lib.hid (HS.out.below hb)
   simp only [fillA, fillT, List.foldl_cons, List.foldl_nil, Act.put, nb4, nb5, nb6]
   go_simp
   go_wp2_with (go_at_call 30; (with_reducible refine (HNcu.out _).mono ?_); rintro e w16 ⟨v16, rfl, hv16, hb16⟩; obtain ⟨z16, rfl⟩ := hv16.open3)
   exact hK.out _ _ (z16.val) (by simp only [fillA, fillT, List.foldl_cons, List.foldl_nil, Act.put, nb4, nb5, nb6, nb1, nb2, nb3]) ⟨z16, rfl, hv16⟩ (fun h => absurd h (by decide)) hb16
  ·
   refine StepM.of rfl (fun f w' hb hp K hK => ?_)
   have HSB := HS
   replace HS := Lib.hid (HS.out.below hb)
   simp only [fillA, fillT, List.foldl_cons, List.foldl_nil, Act.put, nb4, nb5, nb6]
   go_simp
   go_wp2_with (go_at_call 30; (with_reducible refine (HNbu.out _).mono ?_); rintro e w17 ⟨v17, rfl, hv17, hb17⟩; obtain ⟨z17, rfl⟩ := hv17.open3)
   exact hK.out _ _ (z17.val) (by simp only [fillA, fillT, List.foldl_cons, List.foldl_nil, Act.put, nb4, nb5, nb6, nb1, nb2, nb3]) ⟨z17, rfl, hv17⟩ (fun h => absurd h (by decide)) hb17
  ·
   refine StepM.of rfl (fun f w' hb hp K hK => ?_)
   obtain ⟨z16, e9, h9_0⟩ : ∃ z16 : R3, f 39 = z16.val ∧ Fr false w' z16.val qcu := hp 9 (by decide)
   obtain ⟨z17, e12, h12_0⟩ : ∃ z17 : R3, f 42 = z17.val ∧ Fr false w' z17.val qbu := hp 12 (by decide)
   have HSB := HS
   replace HS := Lib.hid (HS.out.below hb)
   replace HS := Lib.hid (HS.out.addQ h9_0)
   replace HS := Lib.hid (HS.out.addQ h12_0)
   simp only [fillA, fillT, List.foldl_cons, List.foldl_nil, Act.put, nb4, nb5, nb6, e9, e12]
   have a22 := HS.out.q 1 _ _ rfl
   have a23 := HS.out.q 0 _ _ rfl
   go_simp
   go_wp2_with (go_at_call 72; (with_reducible refine (qsub_any qcu qbu _ _ _ a22 a23 (szQ_mono (szQ_of Zcu.out) (by omega)) (szQ_mono (szQ_of Zbu.out) (by omega))).mono ?_); rintro e w18 ⟨v18, rfl, hv18, hb18⟩; obtain ⟨z18, rfl⟩ := hv18.open3)
   exact hK.out _ _ (z18.val) (by simp only [fillA, fillT, List.foldl_cons, List.foldl_nil, Act.put, nb4, nb5, nb6, nb1, nb2, nb3, e9, e12]) ⟨z18, rfl, hv18⟩ (fun h => absurd h (by decide)) hb18
  ·
   refine StepM.of rfl (fun f w' hb hp K hK => ?_)
   obtain ⟨z15, e6, h6_0⟩ : ∃ z15 : R3, f 36 = z15.val ∧ Fr false w' z15.val (qau - qbu) := hp 6 (by decide)
   obtain ⟨z18, e13, h13_0⟩ : ∃ z18 : R3, f 43 = z18.val ∧ Fr false w' z18.val (qcu - qbu) := hp 13 (by decide)
   have HSB := HS
   replace HS := Lib.hid (HS.out.below hb)
   replace HS := Lib.hid (HS.out.addQ h6_0)
   replace HS := Lib.hid (HS.out.addQ h13_0)
   simp only [fillA, fillT, List.foldl_cons, List.foldl_nil, Act.put, nb4, nb5, nb6, e6, e13]
   have a24 := HS.out.q 1 _ _ rfl
   have a25 := HS.out.q 0 _ _ rfl
   go_simp
   go_wp2_with (go_at_call 44; (with_reducible refine (qmul_any (qau - qbu) (qcu - qbu) _ _ _ a24 a25 (szQ_mono (szQ_of (szR_sub Zau.out Zbu.out)) (by omega)) (szQ_mono (szQ_of (szR_sub Zcu.out Zbu.out)) (by omega))).mono ?_); rintro e w19 ⟨v19, rfl, hv19, hb19⟩; obtain ⟨z19, rfl⟩ := hv19.open3)
   exact hK.out _ _ (z19.val) (by simp only [fillA, fillT, List.foldl_cons, List.foldl_nil, Act.put, nb4, nb5, nb6, nb1, nb2, nb3, e6, e13]) ⟨z19, rfl, hv19⟩ (fun h => absurd h (by decide)) hb19
  ·
   refine StepM.of rfl (fun f w' hb hp K hK => ?_)
   have HSB := HS
   replace HS := Lib.hid (HS.out.below hb)
   simp only [fillA, fillT, List.foldl_cons, List.foldl_nil, Act.put, nb4, nb5, nb6]
   go_simp
   exact hK.out _ _ (.pointer (some ⟨w'.heap.size, 0, none⟩)) (by simp only [fillA, fillT, List.foldl_cons, List.foldl_nil, Act.put, nb4, nb5, nb6, nb1, nb2, nb3]) ⟨_, rfl, hb.size, blk_new _ _ _⟩ (fun _ => rfl) (below1 w' _)
  ·
   intro f wr4 hb hp hd
   obtain ⟨z13, e2, h2_0⟩ : ∃ z13 : R3, f 32 = z13.val ∧ Fr false wr4 z13.val qau := hp 2 (by decide)
   obtain ⟨z14, e5, h5_0⟩ : ∃ z14 : R3, f 35 = z14.val ∧ Fr false wr4 z14.val qbu := hp 5 (by decide)
   obtain ⟨z15, e6, h6_0⟩ : ∃ z15 : R3, f 36 = z15.val ∧ Fr false wr4 z15.val (qau - qbu) := hp 6 (by decide)
   obtain ⟨z16, e9, h9_0⟩ : ∃ z16 : R3, f 39 = z16.val ∧ Fr false wr4 z16.val qcu := hp 9 (by decide)
   obtain ⟨z17, e12, h12_0⟩ : ∃ z17 : R3, f 42 = z17.val ∧ Fr false wr4 z17.val qbu := hp 12 (by decide)
   obtain ⟨z18, e13, h13_0⟩ : ∃ z18 : R3, f 43 = z18.val ∧ Fr false wr4 z18.val (qcu - qbu) := hp 13 (by decide)
   obtain ⟨z19, e14, h14_0⟩ : ∃ z19 : R3, f 44 = z19.val ∧ Fr false wr4 z19.val ((qau - qbu) * (qcu - qbu)) := hp 14 (by decide)
   obtain ⟨Br4_15, e15, g15, k15⟩ : ∃ Br4_15 : Nat, f 11 = .pointer (some ⟨Br4_15, 0, none⟩) ∧ W3.drew.heap.size ≤ Br4_15 ∧ wr4.heap[Br4_15]? = some (.cells #[.bool false, .slice none 0 0, .slice none 0 0] 37 (0, 0)) := hp 15 (by decide)
   replace hh := Sx.below hh hb
   have hlt := HS.out.lt
   replace HS := Lib.hid (HS.out.below hb)
   replace HS := Lib.hid (HS.out.addQ h2_0)
   replace HS := Lib.hid (HS.out.addQ h5_0)
   replace HS := Lib.hid (HS.out.addQ h6_0)
   replace HS := Lib.hid (HS.out.addQ h9_0)
   replace HS := Lib.hid (HS.out.addQ h12_0)
   replace HS := Lib.hid (HS.out.addQ h13_0)
   replace HS := Lib.hid (HS.out.addQ h14_0)
   have hge15 : w.heap.size ≤ Br4_15 := Nat.le_trans HSW.out g15
   have hne15 : ∀ b, b ∈ ([(w2.heap.size, z2.arr, 37), (w.heap.size + 2, #[.int .i64 cu, .int .i64 cv], 25), (w.heap.size + 1, #[.int .i64 bu, .int .i64 bv], 25), (w.heap.size, #[.int .i64 au, .int .i64 av], 25)] : List Bx) → b.1 ≠ Br4_15 := by
    intro b hb
    simp only [List.mem_cons, List.not_mem_nil, or_false] at hb
    rcases hb with rfl | rfl | rfl | rfl
    ·
     have := hlt _ (List.mem_iff_getElem?.2 ⟨0, rfl⟩); dsimp only at this ⊢; omega
    ·
     have := hlt _ (List.mem_iff_getElem?.2 ⟨1, rfl⟩); dsimp only at this ⊢; omega
    ·
     have := hlt _ (List.mem_iff_getElem?.2 ⟨2, rfl⟩); dsimp only at this ⊢; omega
    ·
     have := hlt _ (List.mem_iff_getElem?.2 ⟨3, rfl⟩); dsimp only at this ⊢; omega
   replace HS := Lib.hid (HS.out.addBox k15 hge15 (by rfl) hne15)
   simp only [fillA, fillT, List.foldl_cons, List.foldl_nil, Act.put, nb4, nb5, nb6, e2, e5, e6, e9, e12, e13, e14, e15]
   clear hp hd hb hlt e2 e5 e6 e9 e12 e13 e14 e15
   refine rdA (i := 16) rfl (fun K hK => ?_)
   have b4e := (HS.out.at 0 _ _ _ rfl)
   have b4c0 := blk_cell b4e 0 (.bool false) rfl
   have b4c1 := blk_cell b4e 1 (.slice none 0 0) rfl
   have b4c2 := blk_cell b4e 2 (.slice none 0 0) rfl
   have b4f0 := blk_frozen b4e 0
   have b4f1 := blk_frozen b4e 1
   have b4f2 := blk_frozen b4e 2
   have b4l := blk_lt b4e
   clear b4e
   go_simp
   refine hK.out _ _ ((((HS.out).st_R 0 r30 z19 rfl)).erase 0) (fun hh => ?_)
   clear hK K b4c0 b4c1 b4c2 b4f0 b4f1 b4f2 b4l
   try simp only [nbs, Act.put]
   generalize hW26 : (((wr4).setCell _ _).setCell _ _).setCell _ _ = W26 at *
   replace HS := Lib.hid (((HS.out).st_R 0 r30 z19 rfl).to hW26 (by (try simp only [nb5, nb6]); rfl))
   clear hW26
   refine wpAnyH_done (by kernel_rfl) ?_ _
   go_wp2_with fail
   refine wp_region_held_drew (S := (fun w' => Sx w w' [(Br4_15, z19.arr, 37), (w2.heap.size, z2.arr, 37), (w.heap.size + 2, #[.int .i64 cu, .int .i64 cv], 25), (w.heap.size + 1, #[.int .i64 bu, .int .i64 bv], 25), (w.heap.size, #[.int .i64 au, .int .i64 av], 25)] [])) (by kernel_rfl) ((HS.out.drew).bare) (fun hh => ?_)
   replace HS := Lib.hid HS.out.drew
   have HSW := Lib.hid HS.out.bel.size
   refine tkB (i := 0) (v := ?vk28) rfl ?hk28 ?rk28
   case hk28 => intro u hSu; go_simp <;> with_reducible rfl
   try simp only [nbs, Act.put]
   refine tkB (i := 1) (v := ?vk29) rfl ?hk29 ?rk29
   case hk29 => intro u hSu; (try dsimp only at hSu); have qb0e := (hSu.at 4 _ _ _ rfl); have qb0c0 := blk_cell qb0e 0 (.int .i64 au) rfl; have qb0c1 := blk_cell qb0e 1 (.int .i64 av) rfl; clear qb0e; clear hSu; go_simp <;> with_reducible rfl
   try simp only [nbs, Act.put]
   refine tkB (i := 3) (v := ?vk30) rfl ?hk30 ?rk30
   case hk30 => intro u hSu; go_simp <;> with_reducible rfl
   try simp only [nbs, Act.put]
   refine tkB (i := 4) (v := ?vk31) rfl ?hk31 ?rk31
   case hk31 => intro u hSu; (try dsimp only at hSu); have qb1e := (hSu.at 3 _ _ _ rfl); have qb1c0 := blk_cell qb1e 0 (.int .i64 bu) rfl; have qb1c1 := blk_cell qb1e 1 (.int .i64 bv) rfl; clear qb1e; clear hSu; go_simp <;> with_reducible rfl
   try simp only [nbs, Act.put]
   refine tkB (i := 7) (v := ?vk32) rfl ?hk32 ?rk32
   case hk32 => intro u hSu; go_simp <;> with_reducible rfl
   try simp only [nbs, Act.put]
   refine tkB (i := 8) (v := ?vk33) rfl ?hk33 ?rk33
   case hk33 => intro u hSu; (try dsimp only at hSu); have qb2e := (hSu.at 2 _ _ _ rfl); have qb2c0 := blk_cell qb2e 0 (.int .i64 cu) rfl; have qb2c1 := blk_cell qb2e 1 (.int .i64 cv) rfl; clear qb2e; clear hSu; go_simp <;> with_reducible rfl
   try simp only [nbs, Act.put]
   refine tkB (i := 10) (v := ?vk34) rfl ?hk34 ?rk34
   case hk34 => intro u hSu; go_simp <;> with_reducible rfl
   try simp only [nbs, Act.put]
   refine tkB (i := 11) (v := ?vk35) rfl ?hk35 ?rk35
   case hk35 => intro u hSu; (try dsimp only at hSu); have qb1e := (hSu.at 3 _ _ _ rfl); have qb1c0 := blk_cell qb1e 0 (.int .i64 bu) rfl; have qb1c1 := blk_cell qb1e 1 (.int .i64 bv) rfl; clear qb1e; clear hSu; go_simp <;> with_reducible rfl
   try simp only [nbs, Act.put]
   refine wpAnyH_modular [2, 5, 6, 9, 12, 13, 14, 15] [2, 5, 6, 9, 12, 13, 14, 15] [] [47, 50, 51, 54, 57, 58, 59, 12] #[true, true, true, true, true, true, true, true, true, true, true, true, true, true, true, true, false] 1 [(2, 47), (5, 50), (6, 51), (9, 54), (12, 57), (13, 58), (14, 59), (15, 12)] [(2, []), (5, [2]), (6, [2, 5]), (9, [6]), (12, [9]), (13, [9, 12]), (14, [6, 13]), (15, [])] [15] [(2, fun v w => ∃ z36 : R3, v = z36.val ∧ Fr false w z36.val qav), (5, fun v w => ∃ z37 : R3, v = z37.val ∧ Fr false w z37.val qbv), (6, fun v w => ∃ z38 : R3, v = z38.val ∧ Fr false w z38.val (qav - qbv)), (9, fun v w => ∃ z39 : R3, v = z39.val ∧ Fr false w z39.val qcv), (12, fun v w => ∃ z40 : R3, v = z40.val ∧ Fr false w z40.val qbv), (13, fun v w => ∃ z41 : R3, v = z41.val ∧ Fr false w z41.val (qcv - qbv)), (14, fun v w => ∃ z42 : R3, v = z42.val ∧ Fr false w z42.val ((qav - qbv) * (qcv - qbv))), (15, fun v w => ∃ Br27_15 : Nat, v = .pointer (some ⟨Br27_15, 0, none⟩) ∧ W26.drew.heap.size ≤ Br27_15 ∧ w.heap[Br27_15]? = some (.cells #[.bool false, .slice none 0 0, .slice none 0 0] 37 (0, 0)))]
    rfl (by kernel_rfl) (by decide) rfl ⟨(fun v w w' hb ⟨z0, e, h0⟩ => ⟨z0, e, Fr.below h0 hb⟩), ⟨(fun v w w' hb ⟨z0, e, h0⟩ => ⟨z0, e, Fr.below h0 hb⟩), ⟨(fun v w w' hb ⟨z0, e, h0⟩ => ⟨z0, e, Fr.below h0 hb⟩), ⟨(fun v w w' hb ⟨z0, e, h0⟩ => ⟨z0, e, Fr.below h0 hb⟩), ⟨(fun v w w' hb ⟨z0, e, h0⟩ => ⟨z0, e, Fr.below h0 hb⟩), ⟨(fun v w w' hb ⟨z0, e, h0⟩ => ⟨z0, e, Fr.below h0 hb⟩), ⟨(fun v w w' hb ⟨z0, e, h0⟩ => ⟨z0, e, Fr.below h0 hb⟩), ⟨(fun v w w' hb ⟨B, e, g, k⟩ => ⟨B, e, g, blk_keep k hb (blk_lt k)⟩), trivial⟩⟩⟩⟩⟩⟩⟩⟩ ⟨fun v w ⟨B, e, g, k⟩ => ⟨B, e, blk_lt k⟩, trivial⟩ (fun w' hb => Sx.below hh hb) ⟨?_, ?_, ?_, ?_, ?_, ?_, ?_, ?_, trivial⟩ trivial (by decide) ?_
   ·
    refine StepM.of rfl (fun f w' hb hp K hK => ?_)
    have HSB := HS
    replace HS := Lib.hid (HS.out.below hb)
    simp only [fillA, fillT, List.foldl_cons, List.foldl_nil, Act.put, nb4, nb5, nb6]
    go_simp
    go_wp2_with (go_at_call 30; (with_reducible refine (HNav.out _).mono ?_); rintro e w36 ⟨v36, rfl, hv36, hb36⟩; obtain ⟨z36, rfl⟩ := hv36.open3)
    exact hK.out _ _ (z36.val) (by simp only [fillA, fillT, List.foldl_cons, List.foldl_nil, Act.put, nb4, nb5, nb6, nb1, nb2, nb3]) ⟨z36, rfl, hv36⟩ (fun h => absurd h (by decide)) hb36
   ·
    refine StepM.of rfl (fun f w' hb hp K hK => ?_)
    have HSB := HS
    replace HS := Lib.hid (HS.out.below hb)
    simp only [fillA, fillT, List.foldl_cons, List.foldl_nil, Act.put, nb4, nb5, nb6]
    go_simp
    go_wp2_with (go_at_call 30; (with_reducible refine (HNbv.out _).mono ?_); rintro e w37 ⟨v37, rfl, hv37, hb37⟩; obtain ⟨z37, rfl⟩ := hv37.open3)
    exact hK.out _ _ (z37.val) (by simp only [fillA, fillT, List.foldl_cons, List.foldl_nil, Act.put, nb4, nb5, nb6, nb1, nb2, nb3]) ⟨z37, rfl, hv37⟩ (fun h => absurd h (by decide)) hb37
   ·
    refine StepM.of rfl (fun f w' hb hp K hK => ?_)
    obtain ⟨z36, e2, h2_0⟩ : ∃ z36 : R3, f 47 = z36.val ∧ Fr false w' z36.val qav := hp 2 (by decide)
    obtain ⟨z37, e5, h5_0⟩ : ∃ z37 : R3, f 50 = z37.val ∧ Fr false w' z37.val qbv := hp 5 (by decide)
    have HSB := HS
    replace HS := Lib.hid (HS.out.below hb)
    replace HS := Lib.hid (HS.out.addQ h2_0)
    replace HS := Lib.hid (HS.out.addQ h5_0)
    simp only [fillA, fillT, List.foldl_cons, List.foldl_nil, Act.put, nb4, nb5, nb6, e2, e5]
    have a43 := HS.out.q 1 _ _ rfl
    have a44 := HS.out.q 0 _ _ rfl
    go_simp
    go_wp2_with (go_at_call 72; (with_reducible refine (qsub_any qav qbv _ _ _ a43 a44 (szQ_mono (szQ_of Zav.out) (by omega)) (szQ_mono (szQ_of Zbv.out) (by omega))).mono ?_); rintro e w38 ⟨v38, rfl, hv38, hb38⟩; obtain ⟨z38, rfl⟩ := hv38.open3)
    exact hK.out _ _ (z38.val) (by simp only [fillA, fillT, List.foldl_cons, List.foldl_nil, Act.put, nb4, nb5, nb6, nb1, nb2, nb3, e2, e5]) ⟨z38, rfl, hv38⟩ (fun h => absurd h (by decide)) hb38
   ·
    refine StepM.of rfl (fun f w' hb hp K hK => ?_)
    have HSB := HS
    replace HS := Lib.hid (HS.out.below hb)
    simp only [fillA, fillT, List.foldl_cons, List.foldl_nil, Act.put, nb4, nb5, nb6]
    go_simp
    go_wp2_with (go_at_call 30; (with_reducible refine (HNcv.out _).mono ?_); rintro e w39 ⟨v39, rfl, hv39, hb39⟩; obtain ⟨z39, rfl⟩ := hv39.open3)
    exact hK.out _ _ (z39.val) (by simp only [fillA, fillT, List.foldl_cons, List.foldl_nil, Act.put, nb4, nb5, nb6, nb1, nb2, nb3]) ⟨z39, rfl, hv39⟩ (fun h => absurd h (by decide)) hb39
   ·
    refine StepM.of rfl (fun f w' hb hp K hK => ?_)
    have HSB := HS
    replace HS := Lib.hid (HS.out.below hb)
    simp only [fillA, fillT, List.foldl_cons, List.foldl_nil, Act.put, nb4, nb5, nb6]
    go_simp
    go_wp2_with (go_at_call 30; (with_reducible refine (HNbv.out _).mono ?_); rintro e w40 ⟨v40, rfl, hv40, hb40⟩; obtain ⟨z40, rfl⟩ := hv40.open3)
    exact hK.out _ _ (z40.val) (by simp only [fillA, fillT, List.foldl_cons, List.foldl_nil, Act.put, nb4, nb5, nb6, nb1, nb2, nb3]) ⟨z40, rfl, hv40⟩ (fun h => absurd h (by decide)) hb40
   ·
    refine StepM.of rfl (fun f w' hb hp K hK => ?_)
    obtain ⟨z39, e9, h9_0⟩ : ∃ z39 : R3, f 54 = z39.val ∧ Fr false w' z39.val qcv := hp 9 (by decide)
    obtain ⟨z40, e12, h12_0⟩ : ∃ z40 : R3, f 57 = z40.val ∧ Fr false w' z40.val qbv := hp 12 (by decide)
    have HSB := HS
    replace HS := Lib.hid (HS.out.below hb)
    replace HS := Lib.hid (HS.out.addQ h9_0)
    replace HS := Lib.hid (HS.out.addQ h12_0)
    simp only [fillA, fillT, List.foldl_cons, List.foldl_nil, Act.put, nb4, nb5, nb6, e9, e12]
    have a45 := HS.out.q 1 _ _ rfl
    have a46 := HS.out.q 0 _ _ rfl
    go_simp
    go_wp2_with (go_at_call 72; (with_reducible refine (qsub_any qcv qbv _ _ _ a45 a46 (szQ_mono (szQ_of Zcv.out) (by omega)) (szQ_mono (szQ_of Zbv.out) (by omega))).mono ?_); rintro e w41 ⟨v41, rfl, hv41, hb41⟩; obtain ⟨z41, rfl⟩ := hv41.open3)
    exact hK.out _ _ (z41.val) (by simp only [fillA, fillT, List.foldl_cons, List.foldl_nil, Act.put, nb4, nb5, nb6, nb1, nb2, nb3, e9, e12]) ⟨z41, rfl, hv41⟩ (fun h => absurd h (by decide)) hb41
   ·
    refine StepM.of rfl (fun f w' hb hp K hK => ?_)
    obtain ⟨z38, e6, h6_0⟩ : ∃ z38 : R3, f 51 = z38.val ∧ Fr false w' z38.val (qav - qbv) := hp 6 (by decide)
    obtain ⟨z41, e13, h13_0⟩ : ∃ z41 : R3, f 58 = z41.val ∧ Fr false w' z41.val (qcv - qbv) := hp 13 (by decide)
    have HSB := HS
    replace HS := Lib.hid (HS.out.below hb)
    replace HS := Lib.hid (HS.out.addQ h6_0)
    replace HS := Lib.hid (HS.out.addQ h13_0)
    simp only [fillA, fillT, List.foldl_cons, List.foldl_nil, Act.put, nb4, nb5, nb6, e6, e13]
    have a47 := HS.out.q 1 _ _ rfl
    have a48 := HS.out.q 0 _ _ rfl
    go_simp
    go_wp2_with (go_at_call 44; (with_reducible refine (qmul_any (qav - qbv) (qcv - qbv) _ _ _ a47 a48 (szQ_mono (szQ_of (szR_sub Zav.out Zbv.out)) (by omega)) (szQ_mono (szQ_of (szR_sub Zcv.out Zbv.out)) (by omega))).mono ?_); rintro e w42 ⟨v42, rfl, hv42, hb42⟩; obtain ⟨z42, rfl⟩ := hv42.open3)
    exact hK.out _ _ (z42.val) (by simp only [fillA, fillT, List.foldl_cons, List.foldl_nil, Act.put, nb4, nb5, nb6, nb1, nb2, nb3, e6, e13]) ⟨z42, rfl, hv42⟩ (fun h => absurd h (by decide)) hb42
   ·
    refine StepM.of rfl (fun f w' hb hp K hK => ?_)
    have HSB := HS
    replace HS := Lib.hid (HS.out.below hb)
    simp only [fillA, fillT, List.foldl_cons, List.foldl_nil, Act.put, nb4, nb5, nb6]
    go_simp
    exact hK.out _ _ (.pointer (some ⟨w'.heap.size, 0, none⟩)) (by simp only [fillA, fillT, List.foldl_cons, List.foldl_nil, Act.put, nb4, nb5, nb6, nb1, nb2, nb3]) ⟨_, rfl, hb.size, blk_new _ _ _⟩ (fun _ => rfl) (below1 w' _)
   ·
    intro f wr27 hb hp hd
    obtain ⟨z36, e2, h2_0⟩ : ∃ z36 : R3, f 47 = z36.val ∧ Fr false wr27 z36.val qav := hp 2 (by decide)
    obtain ⟨z37, e5, h5_0⟩ : ∃ z37 : R3, f 50 = z37.val ∧ Fr false wr27 z37.val qbv := hp 5 (by decide)
    obtain ⟨z38, e6, h6_0⟩ : ∃ z38 : R3, f 51 = z38.val ∧ Fr false wr27 z38.val (qav - qbv) := hp 6 (by decide)
    obtain ⟨z39, e9, h9_0⟩ : ∃ z39 : R3, f 54 = z39.val ∧ Fr false wr27 z39.val qcv := hp 9 (by decide)
    obtain ⟨z40, e12, h12_0⟩ : ∃ z40 : R3, f 57 = z40.val ∧ Fr false wr27 z40.val qbv := hp 12 (by decide)
    obtain ⟨z41, e13, h13_0⟩ : ∃ z41 : R3, f 58 = z41.val ∧ Fr false wr27 z41.val (qcv - qbv) := hp 13 (by decide)
    obtain ⟨z42, e14, h14_0⟩ : ∃ z42 : R3, f 59 = z42.val ∧ Fr false wr27 z42.val ((qav - qbv) * (qcv - qbv)) := hp 14 (by decide)
    obtain ⟨Br27_15, e15, g15, k15⟩ : ∃ Br27_15 : Nat, f 12 = .pointer (some ⟨Br27_15, 0, none⟩) ∧ W26.drew.heap.size ≤ Br27_15 ∧ wr27.heap[Br27_15]? = some (.cells #[.bool false, .slice none 0 0, .slice none 0 0] 37 (0, 0)) := hp 15 (by decide)
    replace hh := Sx.below hh hb
    have hlt := HS.out.lt
    replace HS := Lib.hid (HS.out.below hb)
    replace HS := Lib.hid (HS.out.addQ h2_0)
    replace HS := Lib.hid (HS.out.addQ h5_0)
    replace HS := Lib.hid (HS.out.addQ h6_0)
    replace HS := Lib.hid (HS.out.addQ h9_0)
    replace HS := Lib.hid (HS.out.addQ h12_0)
    replace HS := Lib.hid (HS.out.addQ h13_0)
    replace HS := Lib.hid (HS.out.addQ h14_0)
    have hge15 : w.heap.size ≤ Br27_15 := Nat.le_trans HSW.out g15
    have hne15 : ∀ b, b ∈ ([(Br4_15, z19.arr, 37), (w2.heap.size, z2.arr, 37), (w.heap.size + 2, #[.int .i64 cu, .int .i64 cv], 25), (w.heap.size + 1, #[.int .i64 bu, .int .i64 bv], 25), (w.heap.size, #[.int .i64 au, .int .i64 av], 25)] : List Bx) → b.1 ≠ Br27_15 := by
     intro b hb
     simp only [List.mem_cons, List.not_mem_nil, or_false] at hb
     rcases hb with rfl | rfl | rfl | rfl | rfl
     ·
      have := hlt _ (List.mem_iff_getElem?.2 ⟨0, rfl⟩); dsimp only at this ⊢; omega
     ·
      have := hlt _ (List.mem_iff_getElem?.2 ⟨1, rfl⟩); dsimp only at this ⊢; omega
     ·
      have := hlt _ (List.mem_iff_getElem?.2 ⟨2, rfl⟩); dsimp only at this ⊢; omega
     ·
      have := hlt _ (List.mem_iff_getElem?.2 ⟨3, rfl⟩); dsimp only at this ⊢; omega
     ·
      have := hlt _ (List.mem_iff_getElem?.2 ⟨4, rfl⟩); dsimp only at this ⊢; omega
    replace HS := Lib.hid (HS.out.addBox k15 hge15 (by rfl) hne15)
    simp only [fillA, fillT, List.foldl_cons, List.foldl_nil, Act.put, nb4, nb5, nb6, e2, e5, e6, e9, e12, e13, e14, e15]
    clear hp hd hb hlt e2 e5 e6 e9 e12 e13 e14 e15
    refine rdA (i := 16) rfl (fun K hK => ?_)
    have b5e := (HS.out.at 0 _ _ _ rfl)
    have b5c0 := blk_cell b5e 0 (.bool false) rfl
    have b5c1 := blk_cell b5e 1 (.slice none 0 0) rfl
    have b5c2 := blk_cell b5e 2 (.slice none 0 0) rfl
    have b5f0 := blk_frozen b5e 0
    have b5f1 := blk_frozen b5e 1
    have b5f2 := blk_frozen b5e 2
    have b5l := blk_lt b5e
    clear b5e
    go_simp
    refine hK.out _ _ ((((HS.out).st_R 0 r30 z42 rfl)).erase 0) (fun hh => ?_)
    clear hK K b5c0 b5c1 b5c2 b5f0 b5f1 b5f2 b5l
    try simp only [nbs, Act.put]
    generalize hW49 : (((wr27).setCell _ _).setCell _ _).setCell _ _ = W49 at *
    replace HS := Lib.hid (((HS.out).st_R 0 r30 z42 rfl).to hW49 (by (try simp only [nb5, nb6]); rfl))
    clear hW49
    refine wpAnyH_done (by kernel_rfl) ?_ _
    obtain ⟨b4c0, b4c1, b4c2, b4f0, b4f1, b4f2⟩ := fac3 (x := z19) (HS.out.at 1 _ _ _ rfl)
    have b4l := blk_lt (HS.out.at 1 _ _ _ rfl)
    obtain ⟨b5c0, b5c1, b5c2, b5f0, b5f1, b5f2⟩ := fac3 (x := z42) (HS.out.at 0 _ _ _ rfl)
    have b5l := blk_lt (HS.out.at 0 _ _ _ rfl)
    have bn4_5 := HS.out.ne 1 0 rfl rfl (by decide)
    go_wp2_with fail
    clear b4c0 b4c1 b4c2 b4f0 b4f1 b4f2 b4l b5c0 b5c1 b5c2 b5f0 b5f1 b5f2 b5l bn4_5
    refine (qadd_any ((qau - qbu) * (qcu - qbu)) ((qav - qbv) * (qcv - qbv)) _ _ _ (HS.out.q 7 _ _ rfl) (HS.out.q 0 _ _ rfl) (szQ_mono (szQ_of (szR_mul (szR_sub Zau.out Zbu.out) (szR_sub Zcu.out Zbu.out))) (by omega)) (szQ_mono (szQ_of (szR_mul (szR_sub Zav.out Zbv.out) (szR_sub Zcv.out Zbv.out))) (by omega))).mono ?_
    rintro e w50 ⟨v50, rfl, hv50, hb50⟩
    obtain ⟨z50, rfl⟩ := hv50.open3
    replace HS := Lib.hid (HS.out.below hb50)
    clear hb50
    replace HS := Lib.hid (HS.out.addQ hv50)
    clear hv50
    go_wp2_with fail
    obtain ⟨c51, hc51⟩ : ∃ κ, κ = sgnI (decide ((((qau - qbu) * (qcu - qbu)) + ((qav - qbv) * (qcv - qbv))).num < 0)) (((qau - qbu) * (qcu - qbu)) + ((qav - qbv) * (qcv - qbv))).num.natAbs := ⟨_, rfl⟩
    have HC51 := Lib.hid hc51
    clear hc51
    refine (qsignR_any (((qau - qbu) * (qcu - qbu)) + ((qav - qbv) * (qcv - qbv))) _ _ (HS.out.q 0 _ _ rfl)).mono ?_
    rw [← HC51.out]
    rintro e w51 ⟨rfl, hb51⟩
    replace HS := Lib.hid (HS.out.below hb51)
    clear hb51
    go_wp2_with fail
    go_ret
    exact ⟨by rw [HR.out, HC51.out] <;> rfl, HS.out.bel⟩
 ·
  have HR : Hid (narB m a b c = decide (cmpR (radQ a b c) (((m : Int) : Rat) * ((m : Int) : Rat)) < 0)) := by show _ = _; unfold narB; rw [if_neg hz, Rat.intCast_mul, decide_eq_decide]; exact cmp_neg.symm
  have hre : radE a b c = 0 := by unfold radE; rw [if_neg hz]
  rw [hre] at HRAD
  generalize narB m a b c = res at *
  generalize ((dotI b a c : Int) : Rat) = qd at *
  generalize radQ a b c = qr at *
  clear hz hre
  obtain ⟨⟨ra1, ra2⟩, ra3, ra4⟩ := ptOk_range ha
  unfold far at ra1 ra2 ra3 ra4
  obtain ⟨au, av⟩ := a
  try dsimp only at *
  have HNau : Hid (∀ W, Calls Tryz.prog 30 #[.int .i64 au] W (RetR ((au : Int) : Rat) W)) := fun W => rnum_any au W (by omega) (by omega)
  have Zau := Lib.hid (i64_szR au (by omega) (by omega) 1 (by omega))
  have HNav : Hid (∀ W, Calls Tryz.prog 30 #[.int .i64 av] W (RetR ((av : Int) : Rat) W)) := fun W => rnum_any av W (by omega) (by omega)
  have Zav := Lib.hid (i64_szR av (by omega) (by omega) 1 (by omega))
  obtain ⟨⟨rb1, rb2⟩, rb3, rb4⟩ := ptOk_range hb
  unfold far at rb1 rb2 rb3 rb4
  obtain ⟨bu, bv⟩ := b
  try dsimp only at *
  have HNbu : Hid (∀ W, Calls Tryz.prog 30 #[.int .i64 bu] W (RetR ((bu : Int) : Rat) W)) := fun W => rnum_any bu W (by omega) (by omega)
  have Zbu := Lib.hid (i64_szR bu (by omega) (by omega) 1 (by omega))
  have HNbv : Hid (∀ W, Calls Tryz.prog 30 #[.int .i64 bv] W (RetR ((bv : Int) : Rat) W)) := fun W => rnum_any bv W (by omega) (by omega)
  have Zbv := Lib.hid (i64_szR bv (by omega) (by omega) 1 (by omega))
  obtain ⟨⟨rc1, rc2⟩, rc3, rc4⟩ := ptOk_range hc
  unfold far at rc1 rc2 rc3 rc4
  obtain ⟨cu, cv⟩ := c
  try dsimp only at *
  have HNcu : Hid (∀ W, Calls Tryz.prog 30 #[.int .i64 cu] W (RetR ((cu : Int) : Rat) W)) := fun W => rnum_any cu W (by omega) (by omega)
  have Zcu := Lib.hid (i64_szR cu (by omega) (by omega) 1 (by omega))
  have HNcv : Hid (∀ W, Calls Tryz.prog 30 #[.int .i64 cv] W (RetR ((cv : Int) : Rat) W)) := fun W => rnum_any cv W (by omega) (by omega)
  have Zcv := Lib.hid (i64_szR cv (by omega) (by omega) 1 (by omega))
  clear ha ra1 ra2 ra3 ra4 hb rb1 rb2 rb3 rb4 hc rc1 rc2 rc3 rc4 h0 h1
  generalize ((au : Int) : Rat) = qau at *
  generalize ((av : Int) : Rat) = qav at *
  generalize ((bu : Int) : Rat) = qbu at *
  generalize ((bv : Int) : Rat) = qbv at *
  generalize ((cu : Int) : Rat) = qcu at *
  generalize ((cv : Int) : Rat) = qcv at *
  generalize ((m : Int) : Rat) = qm at *
  try dsimp only at *
  go_enter Tryz.func49, Tryz.ntmps49
  go_wp2_with fail
  generalize hW52 : (((w).alloc (.cells _ _)).alloc (.cells _ _)).alloc (.cells _ _) = W52 at *
  replace HS := Lib.hid (((((HS.out).alloc (B := w.heap.size) rfl (by rfl)).alloc (B := w.heap.size + 1) (by simp) (by rfl)).alloc (B := w.heap.size + 2) (by simp) (by rfl)).to hW52 (by (try simp only [nb5, nb6]); rfl))
  clear hW52
  refine (HRAD.out _).mono ?_
  rintro e w53 ⟨v53, rfl, hv53, hb53⟩
  obtain ⟨z53, rfl⟩ := hv53.open3
  replace HS := Lib.hid (HS.out.below hb53)
  clear hb53
  replace HS := Lib.hid (HS.out.addQ hv53)
  clear hv53
  go_wp2_with fail
  generalize hW54 : (w53).alloc (.cells _ _) = W54 at *
  replace HS := Lib.hid (((HS.out).alloc (B := w53.heap.size) rfl (by rfl)).to hW54 (by (try simp only [nb5, nb6]); rfl))
  clear hW54
  refine wp_region_held_drew (S := (fun w' => Sx w w' [(w53.heap.size, z53.arr, 37), (w.heap.size + 2, #[.int .i64 cu, .int .i64 cv], 25), (w.heap.size + 1, #[.int .i64 bu, .int .i64 bv], 25), (w.heap.size, #[.int .i64 au, .int .i64 av], 25)] [])) (by kernel_rfl) ((HS.out.drew).bare) (fun hh => ?_)
  replace HS := Lib.hid HS.out.drew
  refine tkB (i := 0) (v := ?vk56) rfl ?hk56 ?rk56
  case hk56 => intro u hSu; (try dsimp only at hSu); obtain ⟨qb3c0, qb3c1, qb3c2, _⟩ := fac3 (x := z53) (hSu.at 0 _ _ _ rfl); clear hSu; go_simp <;> with_reducible rfl
  try simp only [nbs, Act.put]
  refine tkB (i := 1) (v := ?vk57) rfl ?hk57 ?rk57
  case hk57 => intro u hSu; go_simp <;> with_reducible rfl
  try simp only [nbs, Act.put]
  refine tkB (i := 3) (v := ?vk58) rfl ?hk58 ?rk58
  case hk58 => intro u hSu; go_simp <;> with_reducible rfl
  try simp only [nbs, Act.put]
  refine rdA (i := 2) rfl (fun K hK => ?_)
  go_simp
  go_wp2_with (go_at_call 30; (with_reducible refine (HNm.out _).mono ?_); rintro e w59 ⟨v59, rfl, hv59, hb59⟩; obtain ⟨z59, rfl⟩ := hv59.open3)
  refine hK.out _ _ (Sx.below hh hb59) (fun hh => ?_)
  clear hK K
  try simp only [nbs, Act.put]
  replace HS := Lib.hid (HS.out.below hb59)
  clear hb59
  replace HS := Lib.hid (HS.out.addQ hv59)
  clear hv59
  refine rdA (i := 4) rfl (fun K hK => ?_)
  go_simp
  go_wp2_with (go_at_call 30; (with_reducible refine (HNm.out _).mono ?_); rintro e w60 ⟨v60, rfl, hv60, hb60⟩; obtain ⟨z60, rfl⟩ := hv60.open3)
  refine hK.out _ _ (Sx.below hh hb60) (fun hh => ?_)
  clear hK K
  try simp only [nbs, Act.put]
  replace HS := Lib.hid (HS.out.below hb60)
  clear hb60
  replace HS := Lib.hid (HS.out.addQ hv60)
  clear hv60
  refine rdA (i := 5) rfl (fun K hK => ?_)
  go_simp
  have a62 := HS.out.q 1 _ _ rfl
  have a63 := HS.out.q 0 _ _ rfl
  go_wp2_with (go_at_call 44; (with_reducible refine (qmul_any qm qm _ _ _ a62 a63 (szQ_mono (szQ_of Zm.out) (by omega)) (szQ_mono (szQ_of Zm.out) (by omega))).mono ?_); rintro e w61 ⟨v61, rfl, hv61, hb61⟩; obtain ⟨z61, rfl⟩ := hv61.open3)
  refine hK.out _ _ (Sx.below hh hb61) (fun hh => ?_)
  clear hK K
  try simp only [nbs, Act.put]
  replace HS := Lib.hid (HS.out.below hb61)
  clear hb61 a62 a63
  replace HS := Lib.hid (HS.out.addQ hv61)
  clear hv61
  refine rdA (i := 6) rfl (fun K hK => ?_)
  go_simp
  obtain ⟨c64, hc64⟩ : ∃ κ, κ = cmpR qr (qm * qm) := ⟨_, rfl⟩
  have HC64 := Lib.hid hc64
  clear hc64
  have a65 := HS.out.q 3 _ _ rfl
  have a66 := HS.out.q 0 _ _ rfl
  go_wp2_with (go_at_call 75; (with_reducible refine (qcmp_any qr (qm * qm) _ _ _ a65 a66 (szQ_mono (szQ_of ZR.out) (by omega)) (szQ_mono (szQ_of (szR_mul Zm.out Zm.out)) (by omega))).mono ?_); rw [← HC64.out]; rintro e w64 ⟨rfl, hb64⟩)
  refine hK.out _ _ (Sx.below hh hb64) (fun hh => ?_)
  clear hK K
  try simp only [nbs, Act.put]
  replace HS := Lib.hid (HS.out.below hb64)
  clear hb64 a65 a66
  by_cases t67p : c64 < 0
  ·
   have t67 : decide (c64 < 0) = true := decide_eq_true t67p
   have T67 := Lib.hid t67p
   clear t67p
   refine tkB (i := 7) (v := ?vk68) rfl ?hk68 ?rk68
   case hk68 => intro u hSu; go_simp <;> with_reducible rfl
   try simp only [nbs, Act.put]
   refine tkB (i := 8) (v := ?vk69) rfl ?hk69 ?rk69
   case hk69 => intro u hSu; go_simp <;> with_reducible rfl
   try simp only [nbs, Act.put]
   refine wpAnyH_done (by kernel_rfl) ?_ _
   go_wp2_with fail
   go_ret
   exact ⟨by rw [HR.out, ← HC64.out, t67] <;> rfl, HS.out.bel⟩
  ·
   have t67 : decide (c64 < 0) = false := decide_eq_false t67p
   have T67 := Lib.hid t67p
   clear t67p
   refine tkB (i := 7) (v := ?vk70) rfl ?hk70 ?rk70
   case hk70 => intro u hSu; go_simp <;> with_reducible rfl
   try simp only [nbs, Act.put]
   refine tkB (i := 8) (v := ?vk71) rfl ?hk71 ?rk71
   case hk71 => intro u hSu; go_simp <;> with_reducible rfl
   try simp only [nbs, Act.put]
   refine wpAnyH_done (by kernel_rfl) ?_ _
   go_wp2_with fail
   go_ret
   exact ⟨by rw [HR.out, ← HC64.out, t67] <;> rfl, HS.out.bel⟩
end Go.Proofs.YtemkhgdhoingiaaGreat

namespace Go.Proofs.YtemkhgdhoingiaaGreat
open Go.RowKit

theorem pathErr_1 {l : List Pt} {i : Nat} (h1 : 2 ≤ l.length) (h2 : l.length ≤ 32) (hi : i < l.length) (h : ptOk (ptAt l i) = false) : pathErr l = 1 := by
 unfold pathErr
 have e : ptsOk l = false := by
  cases h2 : ptsOk l with
  | false => rfl
  | true => rw [ptsOk_get h2 i hi] at h; cases h
 rw [if_neg (by omega), if_pos e]
theorem pathErr_8 {l : List Pt} {i : Nat} (h1 : 2 ≤ l.length) (h2 : l.length ≤ 32) (h3 : ptsOk l = true) (hi : i < l.length) (h : twB l i = true) : pathErr l = 8 := by
 unfold pathErr
 rw [if_neg (by omega), if_neg (by rw [h3]; decide), if_pos (anyTo_at hi h)]
theorem pathErr_0 {l : List Pt} (h1 : 2 ≤ l.length) (h2 : l.length ≤ 32) (h3 : ptsOk l = true) (h4 : anyTo (twB l) l.length = false) : pathErr l = 0 := by
 unfold pathErr
 rw [if_neg (by omega), if_neg (by rw [h3]; decide), if_neg (by rw [h4]; decide)]
theorem pathErr_ok {l : List Pt} (h : pathErr l = 0) : 2 ≤ l.length ∧ l.length ≤ 32 ∧ ptsOk l = true ∧ anyTo (twB l) l.length = false := by
 unfold pathErr at h
 by_cases h1 : l.length < 2 ∨ 32 < l.length
 ·
  rw [if_pos h1] at h; omega
 ·
  rw [if_neg h1] at h
  by_cases h2 : ptsOk l = false
  ·
   rw [if_pos h2] at h; omega
  ·
   rw [if_neg h2] at h
   by_cases h3 : anyTo (twB l) l.length = true
   ·
    rw [if_pos h3] at h; omega
   ·
    exact ⟨by omega, by omega, by simpa using h2, by simpa using h3⟩
theorem stErr_path {l : List Pt} {m e : Int} (h : pathErr l = e) (h0 : e ≠ 0) : stErr l m = e ∧ stVal l m = 0 := by
 have : stErr l m = e := by unfold stErr; rw [if_pos (by rw [h]; exact h0), h]
 exact ⟨this, by unfold stVal; rw [this, if_neg h0]⟩
theorem stErr_m {l : List Pt} {m : Int} (h : pathErr l = 0) (hm : m < 0 ∨ 1073741824 < m) : stErr l m = 1 ∧ stVal l m = 0 := by
 have : stErr l m = 1 := by unfold stErr; rw [if_neg (by rw [h]; decide), if_pos hm]
 exact ⟨this, by unfold stVal; rw [this]; rfl⟩
theorem st_ok {l : List Pt} {m : Int} (h : pathErr l = 0) (hm : ¬ (m < 0 ∨ 1073741824 < m)) : stErr l m = 0 ∧ stVal l m = firstTo (narP l m) l.length := by
 have : stErr l m = 0 := by unfold stErr; rw [if_neg (by rw [h]; decide), if_neg hm]
 exact ⟨this, by unfold stVal; rw [this, if_pos rfl]⟩
theorem st_at {l : List Pt} {m : Int} {i : Nat} (h : pathErr l = 0) (hm : ¬ (m < 0 ∨ 1073741824 < m)) (ha : anyTo (narP l m) i = false) (hp : narP l m i = true) (hi : i < l.length) : stErr l m = 0 ∧ stVal l m = (i : Int) := by
 obtain ⟨h1, h2⟩ := st_ok h hm
 exact ⟨h1, by rw [h2, firstTo_at ha hp hi]⟩
theorem st_end {l : List Pt} {m : Int} {n : Nat} (h : pathErr l = 0) (hm : ¬ (m < 0 ∨ 1073741824 < m)) (ha : anyTo (narP l m) n = false) (hn : l.length = n + 1) : stErr l m = 0 ∧ stVal l m = -1 := by
 obtain ⟨h1, h2⟩ := st_ok h hm
 have : anyTo (narP l m) (n + 1) = false := anyTo_up ha (narP_out (by omega))
 exact ⟨h1, by rw [h2, hn, firstTo_none this]⟩
def RetII (a b : Int) (w : World) (e : Ending) (w' : World) : Prop := e = .returned (.tuple #[.int .i64 a, .int .i64 b]) ∧ Below w.heap.size w w'
set_option maxRecDepth 100000 in
set_option maxHeartbeats 8000000 in
theorem qpath_any (l : List Pt) (v : Value) (w : World) (h : PairsOf w v l) : Calls Tryz.prog 48 #[v] w (RetInt (pathErr l) w) := by
 have HS := Lib.hid (Sx.init w)
 obtain ⟨ao, cap, rfl, hE⟩ := h
 have HE := Lib.hid hE
 clear hE
 by_cases hl1 : l.length < 2
 ·
  have HR : Hid (pathErr l = 4) := by show _ = _; unfold pathErr; rw [if_pos (by omega)]
  have t1 : decide ((l.length : Int) < 2) = true := decide_eq_true (by omega)
  have t1b : decide (l.length < 2) = true := decide_eq_true (by omega)
  go_enter Tryz.func48, Tryz.ntmps48
  go_wp2_with fail
  go_ret
  exact ⟨by rw [HR.out] <;> rfl, HS.out.bel⟩
 by_cases hl2 : 32 < l.length
 ·
  have HR : Hid (pathErr l = 4) := by show _ = _; unfold pathErr; rw [if_pos (by omega)]
  have t1 : decide ((l.length : Int) < 2) = false := decide_eq_false (by omega)
  have t1b : decide (l.length < 2) = false := decide_eq_false (by omega)
  have t2 : decide ((l.length : Int) > 32) = true := decide_eq_true (by omega)
  have t2b : decide (32 < l.length) = true := decide_eq_true (by omega)
  go_enter Tryz.func48, Tryz.ntmps48
  go_wp2_with fail
  go_ret
  exact ⟨by rw [HR.out] <;> rfl, HS.out.bel⟩
 ·
  have HL2 : Hid (2 ≤ l.length) := by show _ ≤ _; omega
  have HL32 : Hid (l.length ≤ 32) := by show _ ≤ _; omega
  have t1 : decide ((l.length : Int) < 2) = false := decide_eq_false (by omega)
  have t1b : decide (l.length < 2) = false := decide_eq_false (by omega)
  have t2 : decide ((l.length : Int) > 32) = false := decide_eq_false (by omega)
  have t2b : decide (32 < l.length) = false := decide_eq_false (by omega)
  go_enter Tryz.func48, Tryz.ntmps48
  go_wp2_with fail
  go_loopw [3] (fun u3 wr => ∃ (i : Nat), i ≤ l.length ∧ u3 = .int .i64 i ∧ Hid (ptsOk (l.take i) = true) ∧ Hid (Sx w wr [] []))
   (fun u _ => l.length - (intOf u).toNat)
  case atStart => exact ⟨0, Nat.zero_le _, rfl, Lib.hid rfl, Lib.hid (HS.out.bare)⟩
  case round =>
   obtain ⟨wr1, hwr1⟩ : ∃ z, z = wr := ⟨_, rfl⟩
   subst hwr1
   clear HS
   obtain ⟨i, hi, rfl, HOK, HS⟩ := hrel
   by_cases hlt : i < l.length
   ·
    have hlt' : (i : Int) < l.length := by omega
    have hge' : (0 : Int) ≤ i := by omega
    have HLT := Lib.hid hlt
    have h2L := HL2.out
    have h32 := HL32.out
    obtain ⟨b, off, rfl, hbl, hLL⟩ := HE.out (by omega)
    have HBL := Lib.hid hbl
    clear hbl
    obtain ⟨Gg0, Gg1⟩ := hLL i hlt
    have G0 := Lib.hid Gg0
    have G1 := Lib.hid Gg1
    clear Gg0 Gg1
    have HTK := Lib.hid (ptsOk_take l i hlt)
    have HNOT : Hid (ptOk (ptAt l i) = false → pathErr l = 1) := pathErr_1 h2L h32 hlt
    have HRI : Hid (∀ W, Calls Tryz.prog 28 #[.agg #[.int .i64 (l.getD i (0, 0)).1, .int .i64 (l.getD i (0, 0)).2]] W (RetBool (ptOk (ptAt l i)) W)) := fun W => rright_any (ptAt l i) W
    clear hLL hlt
    generalize ptOk (ptAt l i) = ok at *
    generalize (l.getD i (0, 0)).1 = xi at *
    generalize (l.getD i (0, 0)).2 = yi at *
    have Gc0 := (HS.out.bel.cell (p := ⟨b, off + i * 2, none⟩) HBL.out).trans G0.out
    have Gc1 := (HS.out.bel.cell (p := ⟨b, off + i * 2 + 1, none⟩) HBL.out).trans G1.out
    go_wp2_with fail
    clear Gc0 Gc1
    refine (HRI.out _).mono ?_
    rintro e w2 ⟨rfl, hb2⟩
    replace HS := Lib.hid (HS.out.below hb2)
    clear hb2
    cases t3 : ok with
    | true =>
     go_wp2_with fail
     exact ⟨⟨i + 1, by have := HLT.out; omega, by go_num, Lib.hid (by rw [HTK.out, HOK.out, t3] <;> rfl), Lib.hid (HS.out.bare)⟩, meas_up HLT.out⟩
    | false =>
     go_wp2_with fail
     go_ret
     exact ⟨by rw [HNOT.out t3] <;> rfl, HS.out.bel⟩
   ·
    obtain rfl : i = l.length := by omega
    rw [List.take_length] at HOK
    go_wp2_with fail
    go_loopw [4] (fun u4 wr => ∃ (i : Nat), i ≤ l.length ∧ u4 = .int .i64 i ∧ 1 ≤ i ∧ Hid (anyTo (twB l) i = false) ∧ Hid (Sx w wr [] []))
     (fun u _ => l.length - (intOf u).toNat)
    case atStart => exact ⟨1, (by have := HL2.out; omega), rfl, Nat.le_refl 1, Lib.hid rfl, Lib.hid (HS.out.bare)⟩
    case round =>
     obtain ⟨wr4, hwr4⟩ : ∃ z, z = wr := ⟨_, rfl⟩
     subst hwr4
     clear HS
     obtain ⟨i, hi, rfl, hi1, HTO, HS⟩ := hrel
     by_cases hlt : i < l.length
     ·
      have hlt' : (i : Int) < l.length := by omega
      have hge' : (0 : Int) ≤ i := by omega
      have HLT := Lib.hid hlt
      have h2L := HL2.out
      have h32 := HL32.out
      obtain ⟨b, off, rfl, hbl, hLL⟩ := HE.out (by omega)
      have HBL := Lib.hid hbl
      clear hbl
      obtain ⟨j, hj⟩ : ∃ j, i = j + 1 := ⟨i - 1, by omega⟩
      have hjl : j < l.length := by omega
      obtain ⟨Gg0, Gg1⟩ := hLL i hlt
      have G0 := Lib.hid Gg0
      have G1 := Lib.hid Gg1
      clear Gg0 Gg1
      obtain ⟨Dg0, Dg1⟩ := hLL j hjl
      have D0 := Lib.hid Dg0
      have D1 := Lib.hid Dg1
      clear Dg0 Dg1
      have HTW := Lib.hid (twB_in (l := l) hj)
      have HEQ : ∀ W, (binOp .eql 25 (.agg #[.int .i64 (l.getD i (0, 0)).1, .int .i64 (l.getD i (0, 0)).2]) (.agg #[.int .i64 (l.getD j (0, 0)).1, .int .i64 (l.getD j (0, 0)).2])).run Tryz.prog W = .ok (.bool (twB l i)) W := fun W => by rw [HTW.out]; exact eql_pt _ _ _ _ W
      have HNOT : Hid (twB l i = true → pathErr l = 8) := pathErr_8 h2L h32 HOK.out hlt
      have HUP : Hid (twB l i = false → anyTo (twB l) (i + 1) = false) := anyTo_up HTO.out
      have hw : IntKind.i64.wrap ((i : Int) - 1) = (j : Int) := (IntWalk.i64_in _ (by omega)).trans (by omega)
      have hj1 : (0 : Int) ≤ j := by omega
      have hj2 : (j : Int) < l.length := by omega
      clear hLL hlt hjl hj HTW
      generalize twB l i = tw at *
      generalize (l.getD i (0, 0)).1 = xi at *
      generalize (l.getD i (0, 0)).2 = yi at *
      generalize (l.getD j (0, 0)).1 = xj at *
      generalize (l.getD j (0, 0)).2 = yj at *
      go_wp2_with fail
      refine wp_region_held_drew (S := (fun w' => Sx w w' [] [])) (by kernel_rfl) ((HS.out.drew).bare) (fun hh => ?_)
      replace HS := Lib.hid HS.out.drew
      refine tkB (i := 0) (v := ?vk6) rfl ?hk6 ?rk6
      case hk6 => intro u hSu; go_simp <;> with_reducible rfl
      try simp only [nbs, Act.put]
      refine tkB (i := 1) (v := ?vk7) rfl ?hk7 ?rk7
      case hk7 => intro u hSu; go_simp <;> with_reducible rfl
      try simp only [nbs, Act.put]
      refine tkB (i := 2) (v := ?vk8) rfl ?hk8 ?rk8
      case hk8 => intro u hSu; go_simp <;> with_reducible rfl
      try simp only [nbs, Act.put]
      refine tkB (i := 3) (v := ?vk9) rfl ?hk9 ?rk9
      case hk9 => intro u hSu; (try dsimp only at hSu); have Gc0 := (hSu.bel.cell (p := ⟨b, off + i * 2, none⟩) HBL.out).trans G0.out; have Gc1 := (hSu.bel.cell (p := ⟨b, off + i * 2 + 1, none⟩) HBL.out).trans G1.out; clear hSu; go_simp <;> with_reducible rfl
      try simp only [nbs, Act.put]
      refine tkB (i := 4) (v := ?vk10) rfl ?hk10 ?rk10
      case hk10 => intro u hSu; go_simp <;> with_reducible rfl
      try simp only [nbs, Act.put]
      refine tkB (i := 5) (v := ?vk11) rfl ?hk11 ?rk11
      case hk11 => intro u hSu; go_simp <;> with_reducible rfl
      try simp only [nbs, Act.put]
      refine tkB (i := 6) (v := ?vk12) rfl ?hk12 ?rk12
      case hk12 => intro u hSu; go_simp <;> with_reducible rfl
      try simp only [nbs, Act.put]
      refine tkB (i := 7) (v := ?vk13) rfl ?hk13 ?rk13
      case hk13 => intro u hSu; go_simp <;> with_reducible rfl
      try simp only [nbs, Act.put]
      refine tkB (i := 8) (v := ?vk14) rfl ?hk14 ?rk14
      case hk14 => intro u hSu; (try dsimp only at hSu); have Dc0 := (hSu.bel.cell (p := ⟨b, off + j * 2, none⟩) HBL.out).trans D0.out; have Dc1 := (hSu.bel.cell (p := ⟨b, off + j * 2 + 1, none⟩) HBL.out).trans D1.out; clear hSu; go_simp <;> with_reducible rfl
      try simp only [nbs, Act.put]
      cases t15 : tw with
      | true =>
       refine tkB (i := 9) (v := ?vk16) rfl ?hk16 ?rk16
       case hk16 => intro u hSu; go_simp <;> with_reducible rfl
       try simp only [nbs, Act.put]
       refine wpAnyH_done (by kernel_rfl) ?_ _
       generalize wr4.drew = Wd17 at *
       go_wp2_with fail
       go_ret
       exact ⟨by rw [HNOT.out t15] <;> rfl, HS.out.bel⟩
      | false =>
       refine tkB (i := 9) (v := ?vk18) rfl ?hk18 ?rk18
       case hk18 => intro u hSu; go_simp <;> with_reducible rfl
       try simp only [nbs, Act.put]
       refine wpAnyH_done (by kernel_rfl) ?_ _
       generalize wr4.drew = Wd19 at *
       go_wp2_with fail
       exact ⟨⟨i + 1, by have := HLT.out; omega, by go_num, by omega, Lib.hid (HUP.out t15), Lib.hid (HS.out.bare)⟩, meas_up HLT.out⟩
     ·
      obtain rfl : i = l.length := by omega
      go_wp2_with fail
      go_ret
      exact ⟨by rw [pathErr_0 HL2.out HL32.out HOK.out HTO.out] <;> rfl, HS.out.bel⟩
set_option maxRecDepth 100000 in
set_option maxHeartbeats 8000000 in
theorem qsteered_any (l : List Pt) (m : Int) (v : Value) (w : World) (h : PairsOf w v l) : Calls Tryz.prog 16 #[v, .int .i64 m] w (RetII (stVal l m) (stErr l m) w) := by
 have HS := Lib.hid (Sx.init w)
 have HP := Lib.hid h
 obtain ⟨ao, cap, rfl, hE⟩ := h
 have HE := Lib.hid hE
 clear hE
 go_enter Tryz.func16, Tryz.ntmps16
 go_wp2_with fail
 by_cases hz1 : pathErr l = 0
 ·
  have HZ1 := Lib.hid hz1
  clear hz1
  refine (qpath_any l _ _ (HP.out.below HS.out.bel)).mono ?_
  rw [HZ1.out]
  rintro e w2 ⟨rfl, hb2⟩
  replace HS := Lib.hid (HS.out.below hb2)
  clear hb2
  by_cases t3p : m < 0
  ·
   have t3 : decide (m < 0) = true := decide_eq_true t3p
   have T3 := Lib.hid t3p
   clear t3p
   go_wp2_with fail
   go_ret2
   exact ⟨by rw [(stErr_m HZ1.out (Or.inl T3.out)).2, (stErr_m HZ1.out (Or.inl T3.out)).1] <;> rfl, HS.out.bel⟩
  ·
   have t3 : decide (m < 0) = false := decide_eq_false t3p
   have T3 := Lib.hid t3p
   clear t3p
   by_cases t4p : m > 1073741824
   ·
    have t4 : decide (m > 1073741824) = true := decide_eq_true t4p
    have T4 := Lib.hid t4p
    clear t4p
    go_wp2_with fail
    go_ret2
    exact ⟨by rw [(stErr_m HZ1.out (Or.inr T4.out)).2, (stErr_m HZ1.out (Or.inr T4.out)).1] <;> rfl, HS.out.bel⟩
   ·
    have t4 : decide (m > 1073741824) = false := decide_eq_false t4p
    have T4 := Lib.hid t4p
    clear t4p
    go_wp2_with fail
    have HPE : Hid (pathErr l = 0) := HZ1
    obtain ⟨hq1, hq2, hq3, hq4⟩ := pathErr_ok HPE.out
    have HL2 := Lib.hid hq1
    have HL32 := Lib.hid hq2
    have HPO := Lib.hid hq3
    have HM : Hid (¬ (m < 0 ∨ 1073741824 < m)) := fun h => h.elim (fun h => by have := T3.out; omega) (fun h => by have := T4.out; omega)
    obtain ⟨n1, hn1⟩ : ∃ n, l.length = n + 1 := ⟨l.length - 1, by omega⟩
    have HN1 := Lib.hid hn1
    clear hq1 hq2 hq3 hq4 hn1
    go_wp2_with fail
    go_loopw [7] (fun u7 wr => ∃ (i : Nat), i ≤ n1 ∧ u7 = .int .i64 i ∧ 1 ≤ i ∧ Hid (anyTo (narP l m) i = false) ∧ Hid (Sx w wr [] []))
     (fun u _ => n1 - (intOf u).toNat)
    case atStart => exact ⟨1, (by have := HL2.out; have := HN1.out; omega), rfl, Nat.le_refl 1, Lib.hid (anyTo_up rfl (narP_out (by omega))), Lib.hid (HS.out.bare)⟩
    case round =>
     obtain ⟨wr5, hwr5⟩ : ∃ z, z = wr := ⟨_, rfl⟩
     subst hwr5
     clear HS
     obtain ⟨i, hi, rfl, hi1, HTO, HS⟩ := hrel
     by_cases hlt : i < n1
     ·
      have hlt' : (i : Int) < n1 := by omega
      have hge' : (0 : Int) ≤ i := by omega
      have HLT := Lib.hid hlt
      have h2L := HL2.out
      have h32 := HL32.out
      obtain ⟨b, off, rfl, hbl, hLL⟩ := HE.out (by omega)
      have HBL := Lib.hid hbl
      clear hbl
      have hn1 := HN1.out
      obtain ⟨j, hj⟩ : ∃ j, i = j + 1 := ⟨i - 1, by omega⟩
      obtain ⟨k, hk⟩ : ∃ k, k = i + 1 := ⟨_, rfl⟩
      have hjl : j < l.length := by omega
      have hil : i < l.length := by omega
      have hkl : k < l.length := by omega
      obtain ⟨Dg0, Dg1⟩ := hLL j hjl
      have D0 := Lib.hid Dg0
      have D1 := Lib.hid Dg1
      clear Dg0 Dg1
      obtain ⟨Gg0, Gg1⟩ := hLL i hil
      have G0 := Lib.hid Gg0
      have G1 := Lib.hid Gg1
      clear Gg0 Gg1
      obtain ⟨Fg0, Fg1⟩ := hLL k hkl
      have F0 := Lib.hid Fg0
      have F1 := Lib.hid Fg1
      clear Fg0 Fg1
      have hw1 : IntKind.i64.wrap ((i : Int) - 1) = (j : Int) := (IntWalk.i64_in _ (by omega)).trans (by omega)
      have hw2 : IntKind.i64.wrap ((i : Int) + 1) = (k : Int) := (IntWalk.i64_in _ (by omega)).trans (by omega)
      have hj1 : (0 : Int) ≤ j := by omega
      have hj2 : (j : Int) < l.length := by omega
      have hi2 : (i : Int) < l.length := by omega
      have hk1 : (0 : Int) ≤ k := by omega
      have hk2 : (k : Int) < l.length := by omega
      have tk : decide ((k : Int) < l.length) = true := decide_eq_true hk2
      have tkb : decide (k < l.length) = true := decide_eq_true hkl
      have HNI := Lib.hid (narP_in (m := m) hj hk hkl)
      have HAT : Hid (narP l m i = true → stErr l m = 0 ∧ stVal l m = (i : Int)) := fun h => st_at HPE.out HM.out HTO.out h hil
      have HUP : Hid (narP l m i = false → anyTo (narP l m) (i + 1) = false) := anyTo_up HTO.out
      have oj := ptsOk_get HPO.out j hjl
      have oi := ptsOk_get HPO.out i hil
      have ok := ptsOk_get HPO.out k hkl
      have HK := Lib.hid hk
      clear hn1
      have HNA : Hid (∀ W, Calls Tryz.prog 49 #[.agg #[.int .i64 (l.getD j (0, 0)).1, .int .i64 (l.getD j (0, 0)).2], .agg #[.int .i64 (l.getD i (0, 0)).1, .int .i64 (l.getD i (0, 0)).2], .agg #[.int .i64 (l.getD k (0, 0)).1, .int .i64 (l.getD k (0, 0)).2], .int .i64 m] W (RetBool (narP l m i) W)) := fun W => by rw [HNI.out]; exact narrow_any (ptAt l j) (ptAt l i) (ptAt l k) m W oj oi ok (by have := HM.out; omega) (by have := HM.out; omega)
      clear hLL hlt hjl hil hkl hj hk oj oi ok HNI
      generalize narP l m i = nb at *
      generalize (l.getD i (0, 0)).1 = xi at *
      generalize (l.getD i (0, 0)).2 = yi at *
      generalize (l.getD j (0, 0)).1 = xj at *
      generalize (l.getD j (0, 0)).2 = yj at *
      generalize (l.getD k (0, 0)).1 = xk at *
      generalize (l.getD k (0, 0)).2 = yk at *
      go_wp2_with fail
      refine wp_region_held_drew (S := (fun w' => Sx w w' [] [])) (by kernel_rfl) ((HS.out.drew).bare) (fun hh => ?_)
      replace HS := Lib.hid HS.out.drew
      refine tkB (i := 0) (v := ?vk7) rfl ?hk7 ?rk7
      case hk7 => intro u hSu; go_simp <;> with_reducible rfl
      try simp only [nbs, Act.put]
      refine tkB (i := 1) (v := ?vk8) rfl ?hk8 ?rk8
      case hk8 => intro u hSu; go_simp <;> with_reducible rfl
      try simp only [nbs, Act.put]
      refine tkB (i := 2) (v := ?vk9) rfl ?hk9 ?rk9
      case hk9 => intro u hSu; go_simp <;> with_reducible rfl
      try simp only [nbs, Act.put]
      refine tkB (i := 3) (v := ?vk10) rfl ?hk10 ?rk10
      case hk10 => intro u hSu; go_simp <;> with_reducible rfl
      try simp only [nbs, Act.put]
      refine tkB (i := 4) (v := ?vk11) rfl ?hk11 ?rk11
      case hk11 => intro u hSu; (try dsimp only at hSu); have Dc0 := (hSu.bel.cell (p := ⟨b, off + j * 2, none⟩) HBL.out).trans D0.out; have Dc1 := (hSu.bel.cell (p := ⟨b, off + j * 2 + 1, none⟩) HBL.out).trans D1.out; clear hSu; go_simp <;> with_reducible rfl
      try simp only [nbs, Act.put]
      refine tkB (i := 5) (v := ?vk12) rfl ?hk12 ?rk12
      case hk12 => intro u hSu; go_simp <;> with_reducible rfl
      try simp only [nbs, Act.put]
      refine tkB (i := 6) (v := ?vk13) rfl ?hk13 ?rk13
      case hk13 => intro u hSu; go_simp <;> with_reducible rfl
      try simp only [nbs, Act.put]
      refine tkB (i := 7) (v := ?vk14) rfl ?hk14 ?rk14
      case hk14 => intro u hSu; go_simp <;> with_reducible rfl
      try simp only [nbs, Act.put]
      refine tkB (i := 8) (v := ?vk15) rfl ?hk15 ?rk15
      case hk15 => intro u hSu; (try dsimp only at hSu); have Gc0 := (hSu.bel.cell (p := ⟨b, off + i * 2, none⟩) HBL.out).trans G0.out; have Gc1 := (hSu.bel.cell (p := ⟨b, off + i * 2 + 1, none⟩) HBL.out).trans G1.out; clear hSu; go_simp <;> with_reducible rfl
      try simp only [nbs, Act.put]
      refine tkB (i := 9) (v := ?vk16) rfl ?hk16 ?rk16
      case hk16 => intro u hSu; go_simp <;> with_reducible rfl
      try simp only [nbs, Act.put]
      refine tkB (i := 10) (v := ?vk17) rfl ?hk17 ?rk17
      case hk17 => intro u hSu; go_simp <;> with_reducible rfl
      try simp only [nbs, Act.put]
      refine tkB (i := 11) (v := ?vk18) rfl ?hk18 ?rk18
      case hk18 => intro u hSu; go_simp <;> with_reducible rfl
      try simp only [nbs, Act.put]
      refine tkB (i := 12) (v := ?vk19) rfl ?hk19 ?rk19
      case hk19 => intro u hSu; go_simp <;> with_reducible rfl
      try simp only [nbs, Act.put]
      refine tkB (i := 13) (v := ?vk20) rfl ?hk20 ?rk20
      case hk20 => intro u hSu; (try dsimp only at hSu); have Fc0 := (hSu.bel.cell (p := ⟨b, off + k * 2, none⟩) HBL.out).trans F0.out; have Fc1 := (hSu.bel.cell (p := ⟨b, off + k * 2 + 1, none⟩) HBL.out).trans F1.out; clear hSu; go_simp <;> with_reducible rfl
      try simp only [nbs, Act.put]
      refine tkB (i := 14) (v := ?vk21) rfl ?hk21 ?rk21
      case hk21 => intro u hSu; go_simp <;> with_reducible rfl
      try simp only [nbs, Act.put]
      refine rdA (i := 15) rfl (fun K hK => ?_)
      go_simp
      go_wp2_with (go_at_call 49; (with_reducible refine (HNA.out _).mono ?_); rintro e w22 ⟨rfl, hb22⟩)
      refine hK.out _ _ (Sx.below hh hb22) (fun hh => ?_)
      clear hK K
      try simp only [nbs, Act.put]
      replace HS := Lib.hid (HS.out.below hb22)
      clear hb22
      refine wpAnyH_done (by kernel_rfl) ?_ _
      cases t23 : nb with
      | true =>
       go_wp2_with fail
       go_ret2
       exact ⟨by rw [(HAT.out t23).2, (HAT.out t23).1] <;> rfl, HS.out.bel⟩
      | false =>
       go_wp2_with fail
       have hk := HK.out
       subst hk
       exact ⟨⟨i + 1, by have := HLT.out; omega, by go_num, by omega, Lib.hid (HUP.out t23), Lib.hid (HS.out.bare)⟩, meas_up HLT.out⟩
     ·
      obtain rfl : n1 = i := by omega
      obtain ⟨k, hk⟩ : ∃ k, k = n1 + 1 := ⟨_, rfl⟩
      have hn1 := HN1.out
      have hnl := HL32.out
      have hw2 : IntKind.i64.wrap ((n1 : Int) + 1) = (k : Int) := (IntWalk.i64_in _ (by omega)).trans (by omega)
      have tk : decide ((k : Int) < l.length) = false := decide_eq_false (by omega)
      have tkb : decide (k < l.length) = false := decide_eq_false (by omega)
      have HEND := Lib.hid (st_end HPE.out HM.out HTO.out hn1)
      clear hn1 hk
      go_wp2_with fail
      go_ret2
      exact ⟨by rw [HEND.out.2, HEND.out.1] <;> rfl, HS.out.bel⟩
 ·
  obtain ⟨er1, her1⟩ : ∃ c, c = pathErr l := ⟨_, rfl⟩
  have HER1 := Lib.hid her1
  rw [← her1] at hz1
  have en1 : (er1 == 0) = false := beq_eq_false_iff_ne.2 hz1
  have eo1 : (er1 != 0) = true := bne_iff_ne.2 hz1
  have ep1 : decide (er1 = 0) = false := decide_eq_false hz1
  have HNZ1 := Lib.hid hz1
  clear her1 hz1
  refine (qpath_any l _ _ (HP.out.below HS.out.bel)).mono ?_
  rw [← HER1.out]
  rintro e w24 ⟨rfl, hb24⟩
  replace HS := Lib.hid (HS.out.below hb24)
  clear hb24
  go_wp2_with fail
  go_ret2
  exact ⟨by rw [(stErr_path HER1.out.symm HNZ1.out).2, (stErr_path (m := m) HER1.out.symm HNZ1.out).1] <;> rfl, HS.out.bel⟩
end Go.Proofs.YtemkhgdhoingiaaGreat
