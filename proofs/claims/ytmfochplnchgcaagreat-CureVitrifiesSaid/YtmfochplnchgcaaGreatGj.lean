/- Part j of the lemmas and walks. -/
import Derived.Laws.StructEq
import Derived.ProofKit
import Derived.OpenShut
import Derived.ChangeOld
import Derived.Deep.Slices
import Derived.Test.YtmfochplnchgcaaGreatGd
import Derived.Test.YtmfochplnchgcaaGreatGe
import Derived.Test.YtmfochplnchgcaaGreatGi

/- THE WALK OF CureVitrifies; printed by wip/tools/gen_zf.py. -/
namespace Go.Proofs.YtmfochplnchgcaaGreat
open Go.RowKit

theorem eqIntS (x y : Int) (w : World) : (Op.equalIn 9999 3 (.int .i64 x) (.int .i64 y)).run Tryz.prog w = .ok (x == y) w := by rw [run_equalIn_int w 9998 3 .i64 .i64 x y Tryz.underlying3]
theorem span_fields : (Tryz.prog.fieldsOf 33).toList = [{ name := "From", type := 3, offset := 0, embedded := false, tag := "", pkgPath := "", byteOffset := 0 }, { name := "To", type := 3, offset := 1, embedded := false, tag := "", pkgPath := "", byteOffset := 8 }] := by kernel_rfl
theorem span_part0 (a0 a1 : Int) (w : World) : (part 3 #[Value.int .i64 a0, Value.int .i64 a1] 0).run Tryz.prog w = .ok (.int .i64 a0) w := by kernel_rfl
theorem span_part1 (a0 a1 : Int) (w : World) : (part 3 #[Value.int .i64 a0, Value.int .i64 a1] 1).run Tryz.prog w = .ok (.int .i64 a1) w := by kernel_rfl
set_option maxRecDepth 100000 in
theorem eql_span (a0 a1 : Int) (w : World) : (binOp .eql 33 (.agg #[Value.int .i64 a0, Value.int .i64 a1]) (.agg #[Value.int .i64 a0, Value.int .i64 a1])).run Tryz.prog w = .ok (.bool true) w := by
  rw [run_eql_struct, run_equalIn_struct w 9999 33 _ _ (by kernel_rfl) (by kernel_rfl), span_fields]
  unfold Op.eqFields
  rw [if_pos (show ("From" ≠ "_") by decide)]
  simp only [Sem.run_bind, span_part0, eqIntS, Result.andThen_ok, Sem.run_ite, beq_self_eq_true]
  unfold Op.eqFields
  rw [if_pos (show ("To" ≠ "_") by decide)]
  simp only [Sem.run_bind, span_part1, eqIntS, Result.andThen_ok, Sem.run_ite, beq_self_eq_true]
  unfold Op.eqFields
  simp
theorem pairs1 (w : World) (n d : Int) (t : TypeId) : PairsOf (w.alloc (.cells #[.int .i64 n, .int .i64 d] t)) (.slice (some ⟨w.heap.size, 0, none⟩) 1 1) [(n, d)] := by
  have hB := blk_new w #[.int .i64 n, .int .i64 d] t
  refine ⟨_, 1, rfl, fun _ => ⟨w.heap.size, 0, rfl, blk_lt hB, fun i hi => ?_⟩⟩
  obtain rfl : i = 0 := by simp at hi; exact hi
  exact ⟨blk_cell hB 0 _ rfl, blk_cell hB 1 _ rfl⟩
theorem fracsQ_sz (fs : List (Int × Int)) (hr : ∀ i, i < fs.length → i64P (fs.getD i (0, 0))) (i : Nat) : szR ((fracsQ fs).getD i 0) 1 := by
  rcases Nat.lt_or_ge i fs.length with h | h
  · have e : (fracsQ fs).getD i 0 = fracQ (fs.getD i (0, 0)).1 (fs.getD i (0, 0)).2 := by simp [fracsQ, List.getD, h]
    have := hr i h
    rw [e]
    exact fracQ_szR _ _ this.1.1 this.1.2 this.2.1 this.2.2
  · have e : (fracsQ fs).getD i 0 = 0 := by simp [fracsQ, List.getD, h]
    rw [e]
    exact szR_int (n := 0) (k := 1) (by unfold b64; decide) (by omega)
set_option maxRecDepth 100000 in
set_option maxHeartbeats 4000000 in
theorem cureVitrifies_any (ts : List Int) (fs : List (Int × Int)) (n d : Int) (vt vl : Value) (w : World) (ht : IntsOf w vt ts) (hl : PairsOf w vl fs) (hr : ∀ i, i < fs.length → i64P (fs.getD i (0, 0))) (hn : i64P (n, d)) :
    Calls Tryz.prog 3 #[vt, vl, .agg #[.int .i64 n, .int .i64 d]] w (RetBool true w) := by
  have HT := Lib.hid ht
  have HL := Lib.hid hl
  have HR := Lib.hid hr
  have HN := Lib.hid hn
  obtain ⟨at_, ct, rfl, _⟩ := ht
  clear hl hr hn
  go_enter Tryz.func3, Tryz.ntmps3
  go_wp2_with fail
  have hal := below1 w (.cells #[.int .i64 n, .int .i64 d] 25)
  have hB := blk_new w #[.int .i64 n, .int .i64 d] 25
  generalize (w.alloc (.cells #[.int .i64 n, .int .i64 d] 25)) = W at *
  have HAL := Lib.hid hal
  have HB : Hid (boxF n d w.heap.size W) := hB
  clear hal hB
  by_cases h1 : 300 < fs.length
  · refine (list_long fs _ _ (HL.out.below HAL.out) h1).mono ?_
    rintro e w1 ⟨rfl, hb⟩
    have HB1 := Lib.hid (bt HAL.out hb)
    clear hb h1
    go_wp2_with fail
    refine (awake05_any _).mono ?_
    rintro e w2 ⟨rfl, hb⟩
    have HB2 := Lib.hid (bt HB1.out hb)
    clear hb
    go_wp2_with fail
    go_ret
    exact ⟨rfl, HB2.out⟩
  have hfl : fs.length ≤ 300 := by omega
  clear h1
  cases hlu : lightUp fs fs.length with
  | false =>
    refine (list_heavy fs _ _ (HL.out.below HAL.out) hfl hlu).mono ?_
    rintro e w1 ⟨rfl, hb⟩
    have HB1 := Lib.hid (bt HAL.out hb)
    clear hb hlu hfl
    go_wp2_with fail
    refine (awake05_any _).mono ?_
    rintro e w2 ⟨rfl, hb⟩
    have HB2 := Lib.hid (bt HB1.out hb)
    clear hb
    go_wp2_with fail
    go_ret
    exact ⟨rfl, HB2.out⟩
  | true =>
    refine (list_any fs _ _ (HL.out.below HAL.out) hfl HR.out hlu).mono ?_
    rintro e w1 ⟨va, vb, rfl, hva, hvb, hb⟩
    have HB1 := Lib.hid (bt HAL.out hb)
    have HX1 : Hid (boxF n d w.heap.size w1) := blk_keep HB.out hb (blk_lt HB.out)
    have HVA := Lib.hid hva
    have HVB := Lib.hid hvb
    obtain ⟨_, c0, c1⟩ := HX1.out.all
    clear hb hlu hfl hva hvb
    by_cases h2 : 300 < ts.length
    · have t2 : decide ((ts.length : Int) > 300) = true := by simp; omega
      clear h2
      go_wp2_with fail
      refine (awake05_any _).mono ?_
      rintro e w2 ⟨rfl, hb⟩
      have HB2 := Lib.hid (bt HB1.out hb)
      clear hb
      go_wp2_with fail
      go_ret
      exact ⟨rfl, HB2.out⟩
    have t2 : decide ((ts.length : Int) > 300) = false := by simp; omega
    clear h2
    go_wp2_with fail
    have hp := pairs1 w1 n d 25
    have hal2 := below1 w1 (.cells #[.int .i64 n, .int .i64 d] 25)
    refine (light_any [(n, d)] _ _ hp (by simp)).mono ?_
    rintro e w2 ⟨rfl, hb⟩
    have hb2 := bt hal2 hb
    have HB2 := Lib.hid (bt HB1.out hb2)
    have HX2 : Hid (boxF n d w.heap.size w2) := blk_keep HX1.out hb2 (blk_lt HX1.out)
    have HVA2 := Lib.hid (HVA.out.below (fun _ _ _ _ h hb => h.below hb) hb2)
    have HVB2 := Lib.hid (HVB.out.below (fun _ _ _ _ h hb => h.below hb) hb2)
    clear HVA HVB HX1 hp hal2 hb hb2 c0 c1
    obtain ⟨_, c0, c1⟩ := HX2.out.all
    generalize lightUp [(n, d)] [(n, d)].length = lu at *
    cases lu with
    | false =>
      go_wp2_with fail
      refine (awake05_any _).mono ?_
      rintro e w3 ⟨rfl, hb⟩
      have HB3 := Lib.hid (bt HB2.out hb)
      clear hb
      go_wp2_with fail
      go_ret
      exact ⟨rfl, HB3.out⟩
    | true =>
      go_wp2_with fail
      refine (of_any n d _ HN.out.1.1 HN.out.1.2 HN.out.2.1 HN.out.2.2).mono ?_
      rintro e w3 ⟨vs, rfl, hvs, hb⟩
      have HB3 := Lib.hid (bt HB2.out hb)
      have HX3 : Hid (boxF n d w.heap.size w3) := blk_keep HX2.out hb (blk_lt HX2.out)
      have HVA3 := Lib.hid (HVA2.out.below (fun _ _ _ _ h hb => h.below hb) hb)
      have HVB3 := Lib.hid (HVB2.out.below (fun _ _ _ _ h hb => h.below hb) hb)
      have HS := Lib.hid hvs
      clear HVA2 HVB2 HX2 hb c0 c1 hvs
      go_wp2_with fail
      have hsz := fracQ_szR n d HN.out.1.1 HN.out.1.2 HN.out.2.1 HN.out.2.2
      refine (vit_any ts (fracsQ fs) (fracQ n d) _ _ _ _ (HT.out.below HB3.out) HVA3.out HS.out (fracsQ_sz fs HR.out) hsz).mono ?_
      rintro e w4 ⟨rfl, hb⟩
      have HSZ := Lib.hid hsz
      clear hsz
      obtain ⟨res, hres⟩ : ∃ res, res = vitOf ts (fracsQ fs) (fracQ n d) := ⟨_, rfl⟩
      rw [← hres]
      have HRES := Lib.hid hres
      obtain ⟨ra, rb, re⟩ := res
      have hb4 := bt hb (below1 _ (.cells #[.int .i64 ra, .int .i64 rb] 33))
      have HB4 := Lib.hid (bt HB3.out hb4)
      have HX4 : Hid (boxF n d w.heap.size (w4.alloc (.cells #[.int .i64 ra, .int .i64 rb] 33))) := blk_keep HX3.out hb4 (blk_lt HX3.out)
      have HVB4 := Lib.hid (HVB3.out.below (fun _ _ _ _ h hb => h.below hb) hb4)
      have HY4 : Hid (boxS ra rb w4.heap.size (w4.alloc (.cells #[.int .i64 ra, .int .i64 rb] 33))) := blk_new w4 _ _
      obtain ⟨_, c0, c1⟩ := HX4.out.all
      clear hres HVA3 HVB3 HX3 hb hb4
      go_wp2_with fail
      refine (qof_any n d _ HN.out.1.1 HN.out.1.2 HN.out.2.1 HN.out.2.2).mono ?_
      rintro e w5 ⟨vs2, rfl, hvs, hb⟩
      have HB5 := Lib.hid (bt HB4.out hb)
      have HVB5 := Lib.hid (HVB4.out.below (fun _ _ _ _ h hb => h.below hb) hb)
      have HS2 := Lib.hid hvs
      have HY5 : Hid (boxS ra rb w4.heap.size w5) := blk_keep HY4.out hb (blk_lt HY4.out)
      clear HVB4 HX4 HY4 hb c0 c1 hvs
      go_wp2_with fail
      refine (qvit_any ts (fracsQ fs) (fracQ n d) _ _ _ _ (HT.out.below HB5.out) HVB5.out HS2.out (fracsQ_sz fs HR.out) HSZ.out).mono ?_
      rintro e w6 ⟨rfl, hb⟩
      rw [← HRES.out]
      have hb6 := bt hb (below1 _ (.cells #[.int .i64 ra, .int .i64 rb] 33))
      have HB6 := Lib.hid (bt HB5.out hb6)
      have HY6 : Hid (boxS ra rb w4.heap.size (w6.alloc (.cells #[.int .i64 ra, .int .i64 rb] 33))) := blk_keep HY5.out hb6 (blk_lt HY5.out)
      have HZ6 : Hid (boxS ra rb w6.heap.size (w6.alloc (.cells #[.int .i64 ra, .int .i64 rb] 33))) := blk_new w6 _ _
      obtain ⟨y0, y1, _⟩ := facS HY6.out
      obtain ⟨z0, z1, _⟩ := facS HZ6.out
      have heq := eql_span ra rb
      clear HVB5 HY5 HY6 HZ6 hb hb6
      go_wp2_with fail
      refine (awake05_any _).mono ?_
      rintro e w7 ⟨rfl, hb⟩
      have HB7 := Lib.hid (bt HB6.out hb)
      clear hb
      go_wp2_with fail
      go_ret
      exact ⟨rfl, HB7.out⟩
end Go.Proofs.YtmfochplnchgcaaGreat

/- HOW THE ARGUMENTS OF A ROW ARE OPENED: slices of structs, read as lists. -/
namespace Go.Proofs.YtmfochplnchgcaaGreat
open Go.ChangeShapes Go.WideShapes Go.ChangeAt Go.RowKit

section
variable {H : Type} {enc : TypeId × Value → H} {P : Program} {w : World} {base : Nat} {spare : Nat → Bool} {held : Bool}
theorem trod_float {t : TypeId} {fuel : Nat} {cs : List Value} {x : DataW H × List MemPlace} {k : FloatKind} (ht : P.underlying t = some (.float k)) (h : DataW.trod enc P w base spare held fuel t cs = some x) :
    ∃ n, cs = [.float k n] ∧ x = (.lit (.float k n), []) ∧ (Lit.float k n).wf = true := by
  cases fuel with
  | zero => simp [DataW.trod] at h
  | succ n =>
    unfold DataW.trod at h
    rw [ht] at h
    split at h <;> simp_all

/-- A slice of structs of k cells each, opened: each element's cells, of which the element's own law holds. -/
theorem open_rows {r : Reach} {b0 : Nat} {t e : TypeId} {k : Nat} {v : Value} {d : DataW H} {p : List MemPlace} (ht : P.underlying t = some (.slice e)) (hk : P.cellsOf e = k) (hk0 : 0 < k) (Law : List Value → Prop)
    (hlaw : ∀ n cs y, DataW.trod enc P w 0 (fun _ => true) true n e cs = some y → Law cs) (hv : Value.okWide P w r b0 t v) (h : DataW.Trod enc P w 0 (fun _ => true) true t v d p) :
    ∃ ao len cap, v = .slice ao len cap ∧ len ≤ cap ∧ cap ≤ maxLen ∧ (0 < len → ∃ b off, ao = some ⟨b, off, none⟩ ∧ b < w.heap.size ∧ ∀ i, i < len → ∃ cs : List Value, cs.length = k ∧ Law cs ∧ ∀ j, j < k → w.cell? ⟨b, off + i * k + j, none⟩ = cs[j]?) := by
  obtain ⟨ao, len, cap, rfl⟩ := okWide_slice ht hv
  refine ⟨ao, len, cap, rfl, ?_⟩
  obtain ⟨fuel, hf⟩ := h
  rcases Deep.open_slice ht hf with ⟨hcs, _⟩ | ⟨a, len', cap', m, n, D, Pl, hcs, _, hl, hm, hmm, _, hi⟩
  · simp [Value.cells] at hcs
    obtain ⟨rfl, rfl, rfl⟩ := hcs
    exact ⟨Nat.le_refl _, by unfold maxLen; omega, fun h => absurd h (by omega)⟩
  · simp [Value.cells] at hcs
    obtain ⟨rfl, rfl, rfl⟩ := hcs
    refine ⟨hl, hm, fun hlen => ?_⟩
    simp only [if_true] at hmm
    subst hmm
    have key : ∀ i, i < len → ∃ cs : List Value, cs.length = k ∧ Law cs ∧ ∀ j, j < k → w.cell? (a.add (i * k + j)) = cs[j]? := by
      intro i hlt
      obtain ⟨cs', hc, hT⟩ := hi i (by omega)
      rw [hk] at hc
      obtain ⟨_, hcl, hat⟩ := World.cells?_some hc
      exact ⟨cs', hcl, hlaw _ _ _ hT, fun j hj => by rw [← hat j hj, Deep.add_add]⟩
    obtain ⟨b, off, spot⟩ := a
    have hsp : spot = none := by
      obtain ⟨cs, hcl, _, hat⟩ := key 0 hlen
      have h0 := hat 0 hk0
      rw [List.getElem?_eq_getElem (by omega)] at h0
      have := World.cell?_spot h0
      simpa [Addr.add] using this
    subst hsp
    have ea : ∀ j, (⟨b, off, none⟩ : Addr).add j = ⟨b, off + j, none⟩ := fun j => by unfold Addr.add; split <;> simp_all
    refine ⟨b, off, rfl, ?_, fun i hlt => ?_⟩
    · obtain ⟨cs, hcl, _, hat⟩ := key 0 hlen
      have h0 := hat 0 hk0
      rw [List.getElem?_eq_getElem (by omega), ea] at h0
      exact World.block_lt_of_cell? (h := h0)
    · obtain ⟨cs, hcl, hL, hat⟩ := key i hlt
      exact ⟨cs, hcl, hL, fun j hj => by rw [← hat j hj, ea, Nat.add_assoc]⟩
end

/-- A list whose elements are chosen one by one. -/
theorem choose_list {α : Type} (n : Nat) (d : α) (p : Nat → α → Prop) (h : ∀ i, i < n → ∃ x, p i x) : ∃ l : List α, l.length = n ∧ ∀ i, i < n → p i (l.getD i d) := by
  have h2 : ∀ i, ∃ x, i < n → p i x := fun i => by
    by_cases hi : i < n
    · obtain ⟨x, hx⟩ := h i hi
      exact ⟨x, fun _ => hx⟩
    · exact ⟨d, fun h => absurd h hi⟩
  refine ⟨(List.range n).map fun i => Classical.choose (h2 i), by simp, fun i hi => ?_⟩
  have e : ((List.range n).map fun i => Classical.choose (h2 i)).getD i d = Classical.choose (h2 i) := by simp [hi]
  rw [e]
  exact Classical.choose_spec (h2 i) hi

theorem i64R_of {n : Int} (h : (Lit.int .i64 n).wf = true) : i64R n := bounds_i64 h

section
variable {H : Type} {enc : TypeId × Value → H} {w : World}
theorem cells_i64 : Tryz.prog.cellsOf 2 = 1 := by kernel_rfl
theorem cells_int : Tryz.prog.cellsOf 3 = 1 := by kernel_rfl
theorem cells_frac : Tryz.prog.cellsOf 25 = 2 := by kernel_rfl
set_option maxRecDepth 100000 in
theorem law_frac (n : Nat) (cs : List Value) (y : DataW H × List MemPlace) (h : DataW.trod enc Tryz.prog w 0 (fun _ => true) true n 25 cs = some y) : ∃ a b, cs = [.int .i64 a, .int .i64 b] ∧ i64R a ∧ i64R b := by
  obtain ⟨xs, m, _, _, hcl, hxl, hf⟩ := DataW.trod_struct Tryz.underlying25 h
  rw [cells_frac] at hcl
  have f0 : DataW.trod enc Tryz.prog w 0 (fun _ => true) true m 2 ((cs.drop 0).take (Tryz.prog.cellsOf 2)) = xs[0]? := hf 0 _ rfl
  have f1 : DataW.trod enc Tryz.prog w 0 (fun _ => true) true m 2 ((cs.drop 1).take (Tryz.prog.cellsOf 2)) = xs[1]? := hf 1 _ rfl
  match cs, hcl, xs, hxl with
  | [c0, c1], _, [x0, x1], _ =>
    simp only [cells_i64, List.drop_zero, List.take_succ_cons, List.take_zero, List.drop_succ_cons] at f0 f1
    obtain ⟨a, e0, _, wa⟩ := DataW.trod_int Tryz.underlying2 f0
    obtain ⟨b, e1, _, wb⟩ := DataW.trod_int Tryz.underlying2 f1
    simp at e0 e1
    exact ⟨a, b, by rw [e0, e1], i64R_of wa, i64R_of wb⟩
set_option maxRecDepth 100000 in
theorem open_frac {r : Reach} {b0 : Nat} {v : Value} {d : DataW H} {p : List MemPlace} (hv : Value.okWide Tryz.prog w r b0 25 v) (h : DataW.Trod enc Tryz.prog w 0 (fun _ => true) true 25 v d p) :
    ∃ a b, v = .agg #[.int .i64 a, .int .i64 b] ∧ i64R a ∧ i64R b := by
  obtain ⟨cs, rfl, _⟩ := okWide_struct Tryz.underlying25 hv
  obtain ⟨fuel, hf⟩ := h
  obtain ⟨a, b, e, wa, wb⟩ := law_frac _ _ _ hf
  obtain ⟨l⟩ := cs
  have e2 : l = [.int .i64 a, .int .i64 b] := by simpa [Value.cells] using e
  exact ⟨a, b, by rw [e2], wa, wb⟩
end

theorem own_knob : ownKnob Tryz.prog.godebug = none := by kernel_rfl
theorem laid_out : laidOutB Tryz.prog = true := by kernel_rfl

end Go.Proofs.YtmfochplnchgcaaGreat

/- ARGUMENTS OF FLAT TYPES (structs and arrays of numbers, floats, Booleans, strings), opened all alike. -/
namespace Go.Proofs.YtmfochplnchgcaaGreat
open Go.ChangeShapes Go.WideShapes Go.ChangeAt Go.RowKit

inductive Leaf where
  | int (k : IntKind) | float (k : FloatKind) | bool | string
def leafOk : Leaf → Value → Prop
  | .int k, v => ∃ n, v = .int k n ∧ (Lit.int k n).wf = true
  | .float k, v => ∃ n, v = .float k n ∧ (Lit.float k n).wf = true
  | .bool, v => ∃ b, v = .bool b
  | .string, v => ∃ s : ByteArray, v = .string s ∧ s.size ≤ maxLen
def allLeaf : List Leaf → List Value → Prop
  | [], [] => True
  | l :: ls, v :: vs => leafOk l v ∧ allLeaf ls vs
  | _, _ => False
theorem allLeaf_append : ∀ {ls : List Leaf} {vs : List Value} {ls' : List Leaf} {vs' : List Value}, allLeaf ls vs → allLeaf ls' vs' → allLeaf (ls ++ ls') (vs ++ vs')
  | [], [], _, _, _, h => h
  | _ :: _, _ :: _, _, _, ⟨h1, h2⟩, h => ⟨h1, allLeaf_append h2 h⟩
theorem allLeaf_length : ∀ {ls : List Leaf} {vs : List Value}, allLeaf ls vs → vs.length = ls.length
  | [], [], _ => rfl
  | _ :: _, _ :: _, ⟨_, h⟩ => by simp [allLeaf_length h]

section
variable (P : Program)
def flatFs (fl : TypeId → Option (List Leaf)) : List Field → Nat → Option (List Leaf)
  | [], _ => some []
  | f :: fs, o => if f.offset = o then (fl f.type).bind fun l => if P.cellsOf f.type = l.length then (flatFs fl fs (o + l.length)).map (l ++ ·) else none else none
def flatN (l : List Leaf) : Nat → List Leaf
  | 0 => []
  | n + 1 => flatN l n ++ l
/-- The leaves of a flat type. -/
def flat : Nat → TypeId → Option (List Leaf)
  | 0, _ => none
  | n + 1, t => match P.underlying t with
    | some .bool => some [.bool]
    | some (.int k) => some [.int k]
    | some (.float k) => some [.float k]
    | some .string => some [.string]
    | some (.struct fs) => (flatFs P (flat n) fs.toList 0).bind fun l => if P.cellsOf t = l.length then some l else none
    | some (.array m e) => (flat n e).bind fun l => if P.cellsOf e = l.length ∧ P.cellsOf t = m * l.length then some (flatN l m) else none
    | _ => none
end
theorem flatN_length (l : List Leaf) (n : Nat) : (flatN l n).length = n * l.length := by
  induction n with
  | zero => simp [flatN]
  | succ n ih => simp [flatN, ih, Nat.succ_mul]

section
variable {H : Type} {enc : TypeId × Value → H} {P : Program} {w : World}
theorem flatFs_law (fl : TypeId → Option (List Leaf)) (n : Nat) (cs : List Value) (ih : ∀ t l cs y, fl t = some l → DataW.trod enc P w 0 (fun _ => true) true n t cs = some y → allLeaf l cs) :
    ∀ (fs : List Field) (o : Nat) (ls : List Leaf), flatFs P fl fs o = some ls → (∀ f ∈ fs, ∃ y, DataW.trod enc P w 0 (fun _ => true) true n f.type ((cs.drop f.offset).take (P.cellsOf f.type)) = some y) →
      allLeaf ls ((cs.drop o).take ls.length)
  | [], o, ls, h, _ => by
    simp [flatFs] at h
    subst h
    simp [allLeaf]
  | f :: fs, o, ls, h, hf => by
    unfold flatFs at h
    split at h
    · rename_i ho
      subst ho
      rw [Option.bind_eq_some_iff] at h
      obtain ⟨l, h1, h2⟩ := h
      split at h2
      · rename_i hc
        rw [Option.map_eq_some_iff] at h2
        obtain ⟨l2, h3, rfl⟩ := h2
        obtain ⟨y, hy⟩ := hf f (by simp)
        have a1 := ih _ _ _ _ h1 hy
        rw [hc] at a1
        have a2 := flatFs_law fl n cs ih fs _ _ h3 (fun g hg => hf g (by simp [hg]))
        rw [List.length_append, List.take_add, List.drop_drop]
        exact allLeaf_append a1 a2
      · cases h2
    · cases h
theorem trod_array {t e : TypeId} {fuel m : Nat} {cs : List Value} {x : DataW H × List MemPlace} (ht : P.underlying t = some (.array m e)) (h : DataW.trod enc P w 0 (fun _ => true) true fuel t cs = some x) :
    ∃ n, fuel = n + 1 ∧ cs.length = P.cellsOf t ∧ ∀ i, i < m → ∃ y, DataW.trod enc P w 0 (fun _ => true) true n e ((cs.drop (i * P.cellsOf e)).take (P.cellsOf e)) = some y := by
  cases fuel with
  | zero => simp [DataW.trod] at h
  | succ n =>
    unfold DataW.trod at h
    rw [ht] at h
    split at h <;> simp_all
    obtain ⟨hl, xs, hp, hd⟩ := h
    intro i hi
    have hlen := mapM_some_length hp
    have := mapM_some_get hp i i (by simp [hi])
    rw [this]
    simp at hlen
    exact ⟨xs[i].1, xs[i].2, by simp [hlen, hi]⟩
theorem flat_law : ∀ (k : Nat) (t : TypeId) (ls : List Leaf) (n : Nat) (cs : List Value) (y : DataW H × List MemPlace), flat P k t = some ls → DataW.trod enc P w 0 (fun _ => true) true n t cs = some y → allLeaf ls cs := by
  intro k
  induction k with
  | zero => intro t ls n cs y h; simp [flat] at h
  | succ k ih =>
    intro t ls n cs y h ht
    unfold flat at h
    split at h
    · rename_i hu
      obtain ⟨b, rfl, _⟩ := DataW.trod_bool hu ht
      obtain rfl : [Leaf.bool] = ls := by simpa using h
      exact ⟨⟨b, rfl⟩, trivial⟩
    · rename_i kk hu
      obtain ⟨b, rfl, _, hw⟩ := DataW.trod_int hu ht
      obtain rfl : [Leaf.int kk] = ls := by simpa using h
      exact ⟨⟨b, rfl, hw⟩, trivial⟩
    · rename_i kk hu
      obtain ⟨b, rfl, _, hw⟩ := trod_float hu ht
      obtain rfl : [Leaf.float kk] = ls := by simpa using h
      exact ⟨⟨b, rfl, hw⟩, trivial⟩
    · rename_i hu
      obtain ⟨s, rfl, _, hw⟩ := DataW.trod_string hu ht
      obtain rfl : [Leaf.string] = ls := by simpa using h
      exact ⟨⟨s, rfl, hw⟩, trivial⟩
    · rename_i fs hu
      rw [Option.bind_eq_some_iff] at h
      obtain ⟨l, h1, h2⟩ := h
      split at h2
      · rename_i hc
        obtain rfl : l = ls := by simpa using h2
        obtain ⟨xs, m, _, _, hcl, hxl, hf⟩ := DataW.trod_struct hu ht
        have := flatFs_law (enc := enc) (w := w) (flat P k) m cs (fun t l cs y a b => ih t l m cs y a b) fs.toList 0 l h1 (fun f hf' => by
          obtain ⟨i, hi, rfl⟩ := List.getElem_of_mem hf'
          simp at hi
          have e := hf i fs[i] (by simp [hi])
          exact ⟨xs[i], by simp at e ⊢; rw [e]; simp [hxl, hi]⟩)
        rw [List.drop_zero, List.take_of_length_le (by rw [hcl, hc]; exact Nat.le_refl _)] at this
        exact this
      · cases h2
    · rename_i m e hu
      rw [Option.bind_eq_some_iff] at h
      obtain ⟨l, h1, h2⟩ := h
      split at h2
      · rename_i hc
        obtain ⟨hc1, hc2⟩ := hc
        obtain rfl : flatN l m = ls := by simpa using h2
        obtain ⟨n', _, hcl, hE⟩ := trod_array hu ht
        have key : ∀ j, j ≤ m → allLeaf (flatN l j) (cs.take (j * l.length)) := by
          intro j hj
          induction j with
          | zero => simp [flatN, allLeaf]
          | succ j ihj =>
            obtain ⟨y, hy⟩ := hE j (by omega)
            have a1 := ih _ _ _ _ _ h1 hy
            rw [hc1] at a1
            rw [Nat.succ_mul, List.take_add]
            exact allLeaf_append (ihj (by omega)) a1
        have := key m (Nat.le_refl _)
        rw [List.take_of_length_le (by rw [hcl, hc2]; exact Nat.le_refl _)] at this
        exact this
      · cases h2
    · cases h

/-- An argument that is a slice of flat elements. -/
theorem open_flats {r : Reach} {b0 : Nat} {t e : TypeId} {k : Nat} {ls : List Leaf} {v : Value} {d : DataW H} {p : List MemPlace} (ht : P.underlying t = some (.slice e)) (hk : P.cellsOf e = k) (hk0 : 0 < k) (hfl : flat P 8 e = some ls)
    (hv : Value.okWide P w r b0 t v) (h : DataW.Trod enc P w 0 (fun _ => true) true t v d p) :
    ∃ ao len cap, v = .slice ao len cap ∧ len ≤ cap ∧ cap ≤ maxLen ∧ (0 < len → ∃ b off, ao = some ⟨b, off, none⟩ ∧ b < w.heap.size ∧ ∀ i, i < len → ∃ cs : List Value, cs.length = k ∧ allLeaf ls cs ∧ ∀ j, j < k → w.cell? ⟨b, off + i * k + j, none⟩ = cs[j]?) :=
  open_rows ht hk hk0 (allLeaf ls) (fun n cs y hy => flat_law 8 e ls n cs y hfl hy) hv h
/-- An argument that is a struct or an array of flat parts. -/
theorem open_flat {t : TypeId} {ls : List Leaf} {v : Value} {d : DataW H} {p : List MemPlace} (hfl : flat P 8 t = some ls) (h : DataW.Trod enc P w 0 (fun _ => true) true t v d p) : allLeaf ls v.cells.toList := by
  obtain ⟨fuel, hf⟩ := h
  exact flat_law 8 t ls fuel _ _ hfl hf
end

end Go.Proofs.YtmfochplnchgcaaGreat
