/- Part c of the lemmas and walks. -/
import Derived.Laws.OwnMore
import Derived.Deep.LoopGhost
import Derived.Deep.RegionHeld3
import Derived.Test.YtmfochplnchgcaaGreatGa
import Derived.Test.YtmfochplnchgcaaGreatGb

/- THE WALKS OF ratio's NATURAL NUMBERS: plus, minus. -/
namespace Go.Proofs.YtmfochplnchgcaaGreat
open Go.RowKit

/-- make([]T, n, c): n zero elements are owned, and there is room for c. -/
theorem wpList_make_room {P : Program} (w : World) {ops : Array Oper} {rest : List Oper} {o : Oper} {a : Act} {Q : Exit → Act → World → Prop}
    (hg : o.guard = none) (l c : Operand) (t : TypeId) (hop : o.op = Op.makeSlice t l c)
    (base : Nat) (e : TypeId) (i : TypeInfo) (z : Value) (size : Nat) (h1 : P.underlying t = some (.slice e)) (h2 : P.info? e = some i) (h3 : i.zero = some z) (h4 : i.size = size)
    (kl kc : IntKind) (L C : Int) (n m : Nat) (hl : a.eval l = .int kl L) (hc : a.eval c = .int kc C) (hL : L = (n : Int)) (hC : C = (m : Int)) (hnm : n ≤ m) (b2 : i.bytes * m ≤ 281474976710656) (b3 : m ≤ maxLen) (_b4 : base ≤ w.heap.size)
    (hK : ∀ w', w'.heap[w.heap.size]? = some (.cells (madeCells z.cells (m * size)) e (0, 0)) → w.grownBy w' none → wpList P ops Q rest (a.put o.dst (.slice (some ⟨w.heap.size, 0, none⟩) n m)) w') :
    wpList P ops Q (o :: rest) a w := by
  subst h4
  subst hL
  subst hC
  refine wpList_plain hg fun K hK' => ?_
  have b3' : (m : Int) ≤ 9223372036854775807 := by
    have h := b3
    simp [maxLen] at h
    omega
  have hb' : (i.bytes : Int) * (m : Int) ≤ 281474976710656 := by
    have h : ((i.bytes * m : Nat) : Int) ≤ 281474976710656 := by omega
    rwa [Int.natCast_mul] at h
  have hr := run_make (P := P) w t e i z h1 h2 h3 kl kc n m (by omega) (by omega) hb' b3'
  simp only [Int.toNat_natCast] at hr
  unfold Oper.wp
  simp [execOp, hop, hl, hc, hr, Result.andThen]
  exact hK' _ _ (hK _ (heap_alloc_new w _) (World.grownBy_alloc w _ none))

/-- Digits added, one by one. -/
structure PlIn (a b : List Nat) (n i : Nat) (o : List Nat) (c : Nat) : Prop where
  len : o.length = n
  dgs : Dgs b64 o
  car : c ≤ 1
  val : lv b64 o + b64 ^ i * c = lv b64 (a.take i) + lv b64 (b.take i)
  top : ∀ j, i ≤ j → o.getD j 0 = 0
theorem take_step64 (a : List Nat) (i : Nat) : lv b64 (a.take (i + 1)) = lv b64 (a.take i) + b64 ^ i * a.getD i 0 := by
  by_cases h : i < a.length
  · exact lv_take_succ b64 a i h
  · rw [List.take_of_length_le (by omega), List.take_of_length_le (by omega)]
    simp [List.getElem?_eq_none (Nat.le_of_not_lt h)]
theorem PlIn.start (a b : List Nat) (n : Nat) : PlIn a b n 0 (List.replicate n 0) 0 :=
  ⟨by simp, Dgs.replicate b64_pos _, by omega, by simp [lv_replicate, lv], fun j _ => by simp [List.getElem?_replicate]; split <;> rfl⟩
theorem PlIn.step {a b : List Nat} {n i : Nat} {o : List Nat} {c : Nat} (h : PlIn a b n i o c) (ha : Dgs b64 a) (hb : Dgs b64 b) (hi : i < n) (x y : Nat) (hx : x = a.getD i 0) (hy : y = b.getD i 0) :
    PlIn a b n (i + 1) (o.set i (addLo x y c)) (addHi x y c) := by
  have hxl := ha.getD b64_pos i
  have hyl := hb.getD b64_pos i
  rw [← hx] at hxl
  rw [← hy] at hyl
  refine ⟨by simpa using h.len, h.dgs.set _ _ (addLo_lt _ _ _), addHi_le _ _ _ hxl hyl h.car, ?_, fun j hj => ?_⟩
  · have h1 := lv_set b64 o i (addLo x y c) (by rw [h.len]; exact hi)
    rw [h.top i (Nat.le_refl _)] at h1
    have h2 := h.val
    rw [take_step64, take_step64, Nat.pow_succ, ← hx, ← hy]
    have e4 := add_eq x y c
    have e5 : b64 ^ i * (addLo x y c + b64 * addHi x y c) = b64 ^ i * (x + y + c) := by rw [e4]
    rw [Nat.mul_assoc]
    simp only [Nat.mul_add] at e5
    omega
  · have := h.top j (by omega)
    rw [List.getD_eq_getElem?_getD] at *
    rw [List.getElem?_set_ne (by omega)]
    exact this
theorem PlIn.done {a b : List Nat} {o : List Nat} {c : Nat} (h : PlIn a b a.length a.length o c) (hl : b.length ≤ a.length) : lv b64 o + b64 ^ a.length * c = lv b64 a + lv b64 b := by
  have hv := h.val
  rw [List.take_of_length_le (Nat.le_refl _), List.take_of_length_le hl] at hv
  exact hv
/-- The digits of a sum, by the carry. -/
theorem plus_dig {a b o : List Nat} {c : Nat} (h : PlIn a b a.length a.length o c) (hl : b.length ≤ a.length) (hla : ∀ h : a ≠ [], a.getLast h ≠ 0) :
    (c = 0 → dig b64 (lv b64 a + lv b64 b) = o) ∧ (0 < c → dig b64 (lv b64 a + lv b64 b) = o ++ [c]) := by
  have hd := h.done hl
  constructor
  · intro h0
    subst h0
    rw [← hd, Nat.mul_zero, Nat.add_zero]
    refine dig_of b64_two o h.dgs fun hne => ?_
    -- the greatest digit of o is not 0: o is at least a
    have hpos : 0 < a.length := by
      rcases Nat.eq_zero_or_pos a.length with h1 | h1
      · exact absurd (List.eq_nil_of_length_eq_zero (h.len.trans h1)) hne
      · exact h1
    have hane : a ≠ [] := fun e => by rw [e] at hpos; simp at hpos
    intro hz
    have h2 : lv b64 o < b64 ^ (a.length - 1) := by
      have e1 : o = o.take (o.length - 1) ++ [0] := by
        conv => lhs; rw [← List.dropLast_concat_getLast hne, hz, List.dropLast_eq_take]
      have e2 : Dgs b64 (o.take (o.length - 1)) := h.dgs.take _
      rw [e1, dig_lv_snoc_zero]
      have := lv_lt e2
      rw [List.length_take, Nat.min_eq_left (by omega)] at this
      rw [h.len] at this ⊢
      exact this
    have h3 : b64 ^ (a.length - 1) ≤ lv b64 a := by
      have e1 : a = a.dropLast ++ [a.getLast hane] := (List.dropLast_concat_getLast hane).symm
      have h4 := hla hane
      generalize a.getLast hane = q at *
      rw [e1, lv_append]
      have : a.dropLast.length = a.length - 1 := by simp
      rw [this]
      have e3 : lv b64 [q] = q := by simp [lv]
      rw [e3]
      have := Nat.le_mul_of_pos_right (b64 ^ (a.length - 1)) (show 0 < q by omega)
      simp only [List.length_append, List.length_dropLast, List.length_cons, List.length_nil]
      have e4 : a.length - 1 + (0 + 1) - 1 = a.length - 1 := by omega
      rw [e4]
      omega
    omega
  · intro h0
    have hc : c = 1 := by have := h.car; omega
    subst hc
    have e : lv b64 a + lv b64 b = lv b64 (o ++ [1]) := by rw [lv_append, h.len, ← hd]; simp [lv]
    rw [e]
    exact dig_of b64_two _ (h.dgs.append (by intro d hd; simp at hd; rw [hd]; exact b64_two)) fun hne => by simp

/-- Block g is just the digits ds. -/
def OwnAll (w : World) (g : Nat) (k : IntKind) (e : TypeId) (ds : List Nat) : Prop := w.heap[g]? = some (.cells (ds.map (fun d : Nat => Value.int k (d : Int))).toArray e (0, 0))
theorem OwnAll.own {w : World} {g : Nat} {k : IntKind} {e : TypeId} {ds : List Nat} (h : OwnAll w g k e ds) : Own w g k e ds := ⟨[], by rw [List.append_nil]; exact h⟩
theorem OwnAll.frozen {w : World} {g : Nat} {k : IntKind} {e : TypeId} {ds : List Nat} (h : OwnAll w g k e ds) (j : Nat) : w.frozen? ⟨g, j, none⟩ = false := h.own.frozen j
theorem OwnAll.cell {w : World} {g : Nat} {k : IntKind} {e : TypeId} {ds : List Nat} (h : OwnAll w g k e ds) (j : Nat) (hj : j < ds.length) : ∃ q, w.cell? ⟨g, j, none⟩ = some (.int k q) := ⟨_, h.own.cell j hj⟩
theorem OwnAll.store {w : World} {g : Nat} {k : IntKind} {e : TypeId} {ds : List Nat} (h : OwnAll w g k e ds) (j x : Nat) : OwnAll (w.setCell ⟨g, j, none⟩ (.int k x)) g k e (ds.set j x) := by
  unfold OwnAll at *
  rw [heap_setCell_same w g j _ e _ h]
  simp [List.map_set]
theorem OwnAll.of_room {w : World} {g : Nat} {e : TypeId} {n : Nat} (h : w.heap[g]? = some (.cells (madeCells #[Value.int .u64 0] (n + 1)) e (0, 0))) : OwnAll w g .u64 e (List.replicate n 0 ++ [0]) := by
  unfold OwnAll
  rw [h]
  have e1 : (madeCells #[Value.int .u64 0] (n + 1)).toList = List.replicate (n + 1) (Value.int .u64 0) := toList_madeCells_one _ _
  have e2 : (List.replicate n 0 ++ [0]).map (fun d : Nat => Value.int .u64 (d : Int)) = List.replicate (n + 1) (Value.int .u64 0) := by
    rw [List.replicate_succ']
    simp
  rw [e2, ← e1]
theorem Own.init {w : World} {g : Nat} {k : IntKind} {e : TypeId} {a b : List Nat} (h : Own w g k e (a ++ b)) : Own w g k e a := by
  obtain ⟨tl, h⟩ := h
  refine ⟨b.map (fun d : Nat => Value.int k (d : Int)) ++ tl, ?_⟩
  rw [h]
  simp
theorem OwnAll.ownsRow {w : World} {g : Nat} {k : IntKind} {e : TypeId} {o : List Nat} (h : OwnAll w g k e (o ++ [0])) (n base : Nat) (hb : base ≤ g) (hn : o.length = n) (hm : n + 1 ≤ maxLen) :
    w.ownsRow base e 1 (.slice (some ⟨g, 0, none⟩) n (n + 1)) n (o.map (fun d : Nat => Value.int k (d : Int))) := by
  refine ⟨by simp [hn], .inr ⟨g, n + 1, _, rfl, hb, h, by omega, hm, by simp [hn], ?_⟩⟩
  simp [← hn]
theorem World.ownsRow.alloc' {w : World} {base : Nat} {e : TypeId} {size : Nat} {v : Value} {n : Nat} {xs : List Value} (h : w.ownsRow base e size v n xs) (o : Obj) : (w.alloc o).ownsRow base e size v n xs := h.alloc o
theorem digits_row {w : World} {base g n : Nat} {e : TypeId} {o : List Nat} {c : Nat} (hn : o.length = n) (h : w.ownsRow base e 1 (.slice (some ⟨g, 0, none⟩) (n + 1) (n + 1)) (n + 1) (o.map (fun d : Nat => Value.int .u64 (d : Int)) ++ [.int .u64 (c : Int)])) :
    IsRow .u64 w (.slice (some ⟨g, 0, none⟩) (n + 1) (n + 1)) (o ++ [c]) := by
  have hl : (o ++ [c]).length = n + 1 := by simp [hn]
  obtain ⟨ho, h1, h2, _⟩ := Own.of_ownsRow (k := .u64) (ds := o ++ [c]) hl (by simpa using h)
  have := ho.isRowCap (n + 1) (by omega) h2
  rw [hl] at this
  exact this

theorem run_Add64_y0 (x c : Nat) (hc : c ≤ 1) (w : World) :
    (callFunc 111 #[.int .u64 x, .int .u64 0, .int .u64 c]).run Tryz.prog w = .ok (.value (.tuple #[.int .u64 (addLo x 0 c : Nat), .int .u64 (addHi x 0 c : Nat)])) w :=
  run_Add64 x 0 c hc w
theorem run_Sub64_y0 (x c : Nat) (hc : c ≤ 1) (w : World) :
    (callFunc 147 #[.int .u64 x, .int .u64 0, .int .u64 c]).run Tryz.prog w = .ok (.value (.tuple #[.int .u64 (subLo x 0 c : Nat), .int .u64 (subHi x 0 c : Nat)])) w :=
  run_Sub64 x 0 c hc w

set_option maxRecDepth 100000 in
set_option maxHeartbeats 2000000 in
theorem plus_any (m n : Nat) (va vb : Value) (w : World) (ha : IsNat .u64 b64 w va m) (hb : IsNat .u64 b64 w vb n) (hla : (dig b64 m).length ≤ 1099511627776) (hlb : (dig b64 n).length ≤ 1099511627776) :
    Calls Tryz.prog 122 #[va, vb] w (RetNat .u64 b64 (m + n) w) := by
  obtain ⟨aa, ca, rfl, hA⟩ := IsRow.opened ha
  obtain ⟨ab, cb, rfl, hB⟩ := IsRow.opened hb
  have hdA := dgs_dig b64_two m
  have hdB := dgs_dig b64_two n
  have HLA := Lib.hid (dig_last b64_two m)
  have HLB := Lib.hid (dig_last b64_two n)
  have HVA : Hid (lv b64 (dig b64 m) + lv b64 (dig b64 n) = m + n) := by show _ = _; rw [lv_dig b64_two, lv_dig b64_two]
  have HVB : Hid (lv b64 (dig b64 n) + lv b64 (dig b64 m) = m + n) := by show _ = _; rw [lv_dig b64_two, lv_dig b64_two, Nat.add_comm]
  clear ha hb
  generalize dig b64 m = dA at *
  generalize dig b64 n = dB at *
  obtain ⟨i0, hi, hz0, hz1, hz2⟩ := info_parts info_u64
  by_cases hsw : dA.length < dB.length
  · have tsw : decide (dA.length < dB.length) = true := decide_eq_true hsw
    go_enter Tryz.func122, Tryz.ntmps122
    go_wp2_with (at_make; refine wpList_make_room _ rfl _ _ 38 rfl w.heap.size 141 i0 (.int .u64 0) 1 Tryz.underlying38 hi hz0 hz1 _ _ _ _ dB.length (dB.length + 1) rfl rfl (by omega) (by omega) (by omega) (by rw [hz2]; omega) (by unfold maxLen; omega) (by omega) ?_)
    intro w1 hown hgrow
    have ho := OwnAll.of_room hown
    have hbel := (Below.refl w.heap.size w).grown hgrow (Nat.le_refl _) (by simp)
    clear hown hgrow
    go_wp2_with fail
    go_loopw [6, 25] (fun cv iv wr => ∃ (i : Nat) (o : List Nat) (c : Nat), i ≤ dB.length ∧ iv = .int .i64 i ∧ cv = .int .u64 c ∧ OwnAll wr w.heap.size .u64 141 (o ++ [0]) ∧ Hid (PlIn dB dA dB.length i o c) ∧ Below w.heap.size w wr)
      (fun _ iv _ => dB.length - (intOf iv).toNat)
    case atStart => exact ⟨0, _, 0, Nat.zero_le _, rfl, rfl, ho, PlIn.start _ _ _, hbel⟩
    case round =>
      clear ho hbel
      obtain ⟨i, o, c, hil, rfl, rfl, ho, hM, hbel⟩ := hrel
      by_cases hlt : i < dB.length
      · obtain ⟨b, off, rfl, hbA, hcA⟩ := hB (by omega)
        have hca := (hbel.cell (p := ⟨b, off + i, none⟩) hbA).trans (hcA i hlt)
        have hfo := ho.frozen i
        have hlo := hM.out.len
        obtain ⟨q0, hco⟩ := ho.cell i (by rw [List.length_append]; omega)
        have hst := Lib.hid (fun x y hx hy => hM.out.step hdB hdA hlt x y hx hy)
        have hlt' : (i : Int) < dB.length := by omega
        have hge' : (0 : Int) ≤ i := by omega
        have hset : ∀ v, (o ++ [0]).set i v = o.set i v ++ [0] := fun v => by rw [List.set_append_left _ _ (by omega)]
        have HSET := Lib.hid hset
        have hcar := hM.out.car
        clear hset hlo
        by_cases hlb : i < dA.length
        · obtain ⟨b', off', rfl, hbB, hcB⟩ := hA (by omega)
          have hcb := (hbel.cell (p := ⟨b', off' + i, none⟩) hbB).trans (hcB i hlb)
          have hlb' : (i : Int) < dA.length := by omega
          have tb : decide (i < dA.length) = true := decide_eq_true hlb
          have HST := Lib.hid (hst.out _ _ rfl rfl)
          clear hst
          generalize dB.getD i 0 = x at *
          generalize dA.getD i 0 = y at *
          have hadd := run_Add64 x y c hcar
          clear hcar
          go_wp2_with fail
          exact ⟨⟨i + 1, _, _, by omega, by go_num, rfl, by rw [← HSET.out]; exact ho.store i _, HST.out, hbel.setCell (p := ⟨w.heap.size, i, none⟩) (Nat.le_refl _) _⟩, meas_up hlt⟩
        · have tb : decide (i < dA.length) = false := decide_eq_false hlb
          have HST := Lib.hid (hst.out _ 0 rfl (by simp [List.getElem?_eq_none (Nat.le_of_not_lt hlb)]))
          clear hst
          generalize dB.getD i 0 = x at *
          have hadd := run_Add64_y0 x c hcar
          clear hcar
          go_wp2_with fail
          exact ⟨⟨i + 1, _, _, by omega, by go_num, rfl, by rw [← HSET.out]; exact ho.store i _, HST.out, hbel.setCell (p := ⟨w.heap.size, i, none⟩) (Nat.le_refl _) _⟩, meas_up hlt⟩
      · obtain rfl : i = dB.length := by omega
        have hlen := Lib.hid hM.out.len
        have hpd := plus_dig hM.out (by omega) HLB.out
        have hv : lv b64 dB + lv b64 dA = m + n := HVB.out
        rw [hv] at hpd
        have HP0 := Lib.hid hpd.1
        have HP1 := Lib.hid hpd.2
        clear hpd hv
        rcases Nat.eq_zero_or_pos c with hc | hc
        · subst hc
          have HP := Lib.hid (HP0.out rfl)
          have hrow := (Own.init ho.own).isRowCap (dB.length + 1) (by rw [hlen.out]; omega) (by unfold maxLen; omega)
          rw [hlen.out] at hrow
          have HR := Lib.hid hrow
          clear hrow
          go_wp2_with fail
          go_ret
          exact ⟨_, rfl, by show IsRow _ _ _ _; rw [HP.out]; exact HR.out, hbel⟩
        · have tc : decide (0 < c) = true := decide_eq_true hc
          have HP := Lib.hid (HP1.out hc)
          have how := ho.ownsRow dB.length w.heap.size (Nat.le_refl _) hlen.out (by unfold maxLen; omega)
          have hx1 := hbel.alloc hbel.size (.cells #[.int .u64 (c : Int)] 141)
          have hcn := cell_one_new wr (.int .u64 (c : Int)) 141
          have HCN := Lib.hid hcn
          have HOW := Lib.hid (how.alloc (.cells #[.int .u64 (c : Int)] 141))
          clear how hcn hc ho
          go_wp2_with (at_builtin; refine wpList_append_fits _ rfl (.tmp 51) (.tmp 53) 38 rfl w.heap.size 141 i0 1 Tryz.underlying38 hi hz1 _ _ _ _ rfl HOW.out ⟨wr.heap.size, 0, none⟩ 1 1 [.int .u64 (c : Int)] rfl rfl HCN.out (by simp [Value.oneCell']) (by omega) ?_)
          intro w2 hown2 hgr2
          have hb2 : Below w.heap.size w w2 := hx1.grown hgr2 hx1.size (by simp)
          have HR := Lib.hid (digits_row hlen.out hown2)
          clear hown2 hgr2 hx1
          go_wp2_with fail
          go_ret
          exact ⟨_, rfl, by show IsRow _ _ _ _; rw [HP.out]; exact HR.out, hb2⟩
  · have tsw : decide (dA.length < dB.length) = false := decide_eq_false hsw
    go_enter Tryz.func122, Tryz.ntmps122
    go_wp2_with (at_make; refine wpList_make_room _ rfl _ _ 38 rfl w.heap.size 141 i0 (.int .u64 0) 1 Tryz.underlying38 hi hz0 hz1 _ _ _ _ dA.length (dA.length + 1) rfl rfl (by omega) (by omega) (by omega) (by rw [hz2]; omega) (by unfold maxLen; omega) (by omega) ?_)
    intro w1 hown hgrow
    have ho := OwnAll.of_room hown
    have hbel := (Below.refl w.heap.size w).grown hgrow (Nat.le_refl _) (by simp)
    clear hown hgrow
    go_wp2_with fail
    go_loopw [6, 25] (fun cv iv wr => ∃ (i : Nat) (o : List Nat) (c : Nat), i ≤ dA.length ∧ iv = .int .i64 i ∧ cv = .int .u64 c ∧ OwnAll wr w.heap.size .u64 141 (o ++ [0]) ∧ Hid (PlIn dA dB dA.length i o c) ∧ Below w.heap.size w wr)
      (fun _ iv _ => dA.length - (intOf iv).toNat)
    case atStart => exact ⟨0, _, 0, Nat.zero_le _, rfl, rfl, ho, PlIn.start _ _ _, hbel⟩
    case round =>
      clear ho hbel
      obtain ⟨i, o, c, hil, rfl, rfl, ho, hM, hbel⟩ := hrel
      by_cases hlt : i < dA.length
      · obtain ⟨b, off, rfl, hbA, hcA⟩ := hA (by omega)
        have hca := (hbel.cell (p := ⟨b, off + i, none⟩) hbA).trans (hcA i hlt)
        have hfo := ho.frozen i
        have hlo := hM.out.len
        obtain ⟨q0, hco⟩ := ho.cell i (by rw [List.length_append]; omega)
        have hst := Lib.hid (fun x y hx hy => hM.out.step hdA hdB hlt x y hx hy)
        have hlt' : (i : Int) < dA.length := by omega
        have hge' : (0 : Int) ≤ i := by omega
        have hset : ∀ v, (o ++ [0]).set i v = o.set i v ++ [0] := fun v => by rw [List.set_append_left _ _ (by omega)]
        have HSET := Lib.hid hset
        have hcar := hM.out.car
        clear hset hlo
        by_cases hlb : i < dB.length
        · obtain ⟨b', off', rfl, hbB, hcB⟩ := hB (by omega)
          have hcb := (hbel.cell (p := ⟨b', off' + i, none⟩) hbB).trans (hcB i hlb)
          have hlb' : (i : Int) < dB.length := by omega
          have tb : decide (i < dB.length) = true := decide_eq_true hlb
          have HST := Lib.hid (hst.out _ _ rfl rfl)
          clear hst
          generalize dA.getD i 0 = x at *
          generalize dB.getD i 0 = y at *
          have hadd := run_Add64 x y c hcar
          clear hcar
          go_wp2_with fail
          exact ⟨⟨i + 1, _, _, by omega, by go_num, rfl, by rw [← HSET.out]; exact ho.store i _, HST.out, hbel.setCell (p := ⟨w.heap.size, i, none⟩) (Nat.le_refl _) _⟩, meas_up hlt⟩
        · have tb : decide (i < dB.length) = false := decide_eq_false hlb
          have HST := Lib.hid (hst.out _ 0 rfl (by simp [List.getElem?_eq_none (Nat.le_of_not_lt hlb)]))
          clear hst
          generalize dA.getD i 0 = x at *
          have hadd := run_Add64_y0 x c hcar
          clear hcar
          go_wp2_with fail
          exact ⟨⟨i + 1, _, _, by omega, by go_num, rfl, by rw [← HSET.out]; exact ho.store i _, HST.out, hbel.setCell (p := ⟨w.heap.size, i, none⟩) (Nat.le_refl _) _⟩, meas_up hlt⟩
      · obtain rfl : i = dA.length := by omega
        have hlen := Lib.hid hM.out.len
        have hpd := plus_dig hM.out (by omega) HLA.out
        have hv : lv b64 dA + lv b64 dB = m + n := HVA.out
        rw [hv] at hpd
        have HP0 := Lib.hid hpd.1
        have HP1 := Lib.hid hpd.2
        clear hpd hv
        rcases Nat.eq_zero_or_pos c with hc | hc
        · subst hc
          have HP := Lib.hid (HP0.out rfl)
          have hrow := (Own.init ho.own).isRowCap (dA.length + 1) (by rw [hlen.out]; omega) (by unfold maxLen; omega)
          rw [hlen.out] at hrow
          have HR := Lib.hid hrow
          clear hrow
          go_wp2_with fail
          go_ret
          exact ⟨_, rfl, by show IsRow _ _ _ _; rw [HP.out]; exact HR.out, hbel⟩
        · have tc : decide (0 < c) = true := decide_eq_true hc
          have HP := Lib.hid (HP1.out hc)
          have how := ho.ownsRow dA.length w.heap.size (Nat.le_refl _) hlen.out (by unfold maxLen; omega)
          have hx1 := hbel.alloc hbel.size (.cells #[.int .u64 (c : Int)] 141)
          have hcn := cell_one_new wr (.int .u64 (c : Int)) 141
          have HCN := Lib.hid hcn
          have HOW := Lib.hid (how.alloc (.cells #[.int .u64 (c : Int)] 141))
          clear how hcn hc ho
          go_wp2_with (at_builtin; refine wpList_append_fits _ rfl (.tmp 51) (.tmp 53) 38 rfl w.heap.size 141 i0 1 Tryz.underlying38 hi hz1 _ _ _ _ rfl HOW.out ⟨wr.heap.size, 0, none⟩ 1 1 [.int .u64 (c : Int)] rfl rfl HCN.out (by simp [Value.oneCell']) (by omega) ?_)
          intro w2 hown2 hgr2
          have hb2 : Below w.heap.size w w2 := hx1.grown hgr2 hx1.size (by simp)
          have HR := Lib.hid (digits_row hlen.out hown2)
          clear hown2 hgr2 hx1
          go_wp2_with fail
          go_ret
          exact ⟨_, rfl, by show IsRow _ _ _ _; rw [HP.out]; exact HR.out, hb2⟩

/-- Digits taken off, one by one. -/
structure MiIn (a b : List Nat) (n i : Nat) (o : List Nat) (c : Nat) : Prop where
  len : o.length = n
  dgs : Dgs b64 o
  car : c ≤ 1
  val : lv b64 o + lv b64 (b.take i) = lv b64 (a.take i) + b64 ^ i * c
  top : ∀ j, i ≤ j → o.getD j 0 = 0
theorem MiIn.start (a b : List Nat) (n : Nat) : MiIn a b n 0 (List.replicate n 0) 0 :=
  ⟨by simp, Dgs.replicate b64_pos _, by omega, by simp [lv_replicate, lv], fun j _ => by simp [List.getElem?_replicate]; split <;> rfl⟩
theorem sub_eq_plus (x y c : Nat) (hx : x < b64) (hy : y < b64) (hc : c ≤ 1) : subLo x y c + y + c = x + b64 * subHi x y c := by
  unfold subLo subHi
  by_cases h : x < y + c
  · rw [if_pos h, Nat.mod_eq_of_lt (by omega)]; omega
  · rw [if_neg h]
    have e : b64 + x - y - c = (x - y - c) + b64 := by omega
    rw [e, Nat.add_mod_right, Nat.mod_eq_of_lt (by omega)]
    omega
theorem MiIn.step {a b : List Nat} {n i : Nat} {o : List Nat} {c : Nat} (h : MiIn a b n i o c) (ha : Dgs b64 a) (hb : Dgs b64 b) (hi : i < n) (x y : Nat) (hx : x = a.getD i 0) (hy : y = b.getD i 0) :
    MiIn a b n (i + 1) (o.set i (subLo x y c)) (subHi x y c) := by
  have hxl := ha.getD b64_pos i
  have hyl := hb.getD b64_pos i
  rw [← hx] at hxl
  rw [← hy] at hyl
  refine ⟨by simpa using h.len, h.dgs.set _ _ (subLo_lt _ _ _), subHi_le _ _ _, ?_, fun j hj => ?_⟩
  · have h1 := lv_set b64 o i (subLo x y c) (by rw [h.len]; exact hi)
    rw [h.top i (Nat.le_refl _)] at h1
    have h2 := h.val
    rw [take_step64, take_step64, Nat.pow_succ, ← hx, ← hy]
    have e4 := sub_eq_plus x y c hxl hyl h.car
    have e5 : b64 ^ i * (subLo x y c + y + c) = b64 ^ i * (x + b64 * subHi x y c) := by rw [e4]
    rw [Nat.mul_assoc]
    simp only [Nat.mul_add] at e5
    omega
  · have := h.top j (by omega)
    rw [List.getD_eq_getElem?_getD] at *
    rw [List.getElem?_set_ne (by omega)]
    exact this
theorem MiIn.done {a b o : List Nat} {c : Nat} (h : MiIn a b a.length a.length o c) (hl : b.length ≤ a.length) (hle : lv b64 b ≤ lv b64 a) : lv b64 o = lv b64 a - lv b64 b := by
  have hv := h.val
  rw [List.take_of_length_le (Nat.le_refl _), List.take_of_length_le hl] at hv
  rcases Nat.eq_zero_or_pos c with h0 | h0
  · subst h0; omega
  · have hc : c = 1 := by have := h.car; omega
    subst hc
    have := lv_lt h.dgs
    rw [h.len] at this
    omega

set_option maxRecDepth 100000 in
set_option maxHeartbeats 2000000 in
theorem minus_any (m n : Nat) (va vb : Value) (w : World) (ha : IsNat .u64 b64 w va m) (hb : IsNat .u64 b64 w vb n) (hle : n ≤ m) (hla : (dig b64 m).length ≤ 1099511627776) :
    Calls Tryz.prog 123 #[va, vb] w (RetNat .u64 b64 (m - n) w) := by
  obtain ⟨aa, ca, rfl, hA⟩ := IsRow.opened ha
  obtain ⟨ab, cb, rfl, hB⟩ := IsRow.opened hb
  have hdA := dgs_dig b64_two m
  have hdB := dgs_dig b64_two n
  have hlen := dig_length_mono b64_two hle
  have Hva := Lib.hid (lv_dig b64_two m)
  have Hvb := Lib.hid (lv_dig b64_two n)
  clear ha hb
  generalize dig b64 m = dA at *
  generalize dig b64 n = dB at *
  obtain ⟨i0, hi, hz0, hz1, hz2⟩ := info_parts info_u64
  go_enter Tryz.func123, Tryz.ntmps123
  go_wp2_with (at_make; refine wpList_make_full _ rfl _ _ 38 rfl w.heap.size 141 i0 (.int .u64 0) 1 Tryz.underlying38 hi hz0 hz1 _ _ _ _ dA.length rfl rfl (by omega) (by omega) (by rw [hz2]; omega) (by unfold maxLen; omega) (by omega) ?_)
  intro w1 hown hgrow
  have ho := Own.of_made hown
  have hbel := (Below.refl w.heap.size w).grown hgrow (Nat.le_refl _) (by simp)
  clear hown hgrow hi hz0 hz1 hz2
  go_wp2_with fail
  go_loopw [6, 15] (fun cv iv wr => ∃ (i : Nat) (o : List Nat) (c : Nat), i ≤ dA.length ∧ iv = .int .i64 i ∧ cv = .int .u64 c ∧ Own wr w.heap.size .u64 141 o ∧ Hid (MiIn dA dB dA.length i o c) ∧ Below w.heap.size w wr)
    (fun _ iv _ => dA.length - (intOf iv).toNat)
  case atStart => exact ⟨0, _, 0, Nat.zero_le _, rfl, rfl, ho, MiIn.start _ _ _, hbel⟩
  case round =>
    clear ho hbel
    obtain ⟨i, o, c, hil, rfl, rfl, ho, hM, hbel⟩ := hrel
    by_cases hlt : i < dA.length
    · obtain ⟨b, off, rfl, hbA, hcA⟩ := hA (by omega)
      have hca := (hbel.cell (p := ⟨b, off + i, none⟩) hbA).trans (hcA i hlt)
      have hfo := ho.frozen i
      have hco := ho.cell i (by rw [hM.out.len]; omega)
      have hst := Lib.hid (fun x y hx hy => hM.out.step hdA hdB hlt x y hx hy)
      have hlt' : (i : Int) < dA.length := by omega
      have hge' : (0 : Int) ≤ i := by omega
      have hcar := hM.out.car
      generalize o.getD i 0 = q0 at *
      by_cases hlb : i < dB.length
      · obtain ⟨b', off', rfl, hbB, hcB⟩ := hB (by omega)
        have hcb := (hbel.cell (p := ⟨b', off' + i, none⟩) hbB).trans (hcB i hlb)
        have hlb' : (i : Int) < dB.length := by omega
        have tb : decide (i < dB.length) = true := decide_eq_true hlb
        have HST := Lib.hid (hst.out _ _ rfl rfl)
        clear hst
        generalize dA.getD i 0 = x at *
        generalize dB.getD i 0 = y at *
        have hsub := run_Sub64 x y c hcar
        clear hcar
        go_wp2_with fail
        exact ⟨⟨i + 1, _, _, by omega, by go_num, rfl, ho.store i _, HST.out, hbel.setCell (p := ⟨w.heap.size, i, none⟩) (Nat.le_refl _) _⟩, meas_up hlt⟩
      · have tb : decide (i < dB.length) = false := decide_eq_false hlb
        have HST := Lib.hid (hst.out _ 0 rfl (by simp [List.getElem?_eq_none (Nat.le_of_not_lt hlb)]))
        clear hst
        generalize dA.getD i 0 = x at *
        have hsub := run_Sub64_y0 x c hcar
        clear hcar
        go_wp2_with fail
        exact ⟨⟨i + 1, _, _, by omega, by go_num, rfl, ho.store i _, HST.out, hbel.setCell (p := ⟨w.heap.size, i, none⟩) (Nat.le_refl _) _⟩, meas_up hlt⟩
    · obtain rfl : i = dA.length := by omega
      have hl := hM.out.len
      have hrow := ho.isRow (by rw [hl]; unfold maxLen; omega)
      rw [hl] at hrow
      have HR := Lib.hid hrow
      have HD := Lib.hid hM.out.dgs
      have HV := Lib.hid (hM.out.done hlen (by rw [Hva.out, Hvb.out]; exact hle))
      clear hl hrow ho
      go_wp2_with fail
      refine (cut_any o _ _ HR.out HD.out).mono ?_
      rintro e w' ⟨v, rfl, hv, rfl⟩
      go_wp2_with fail
      go_ret
      exact ⟨v, rfl, by rw [← Hva.out, ← Hvb.out, ← HV.out]; exact hv, hbel⟩

end Go.Proofs.YtmfochplnchgcaaGreat

/- THE WALKS OF ratio's greatest common divisor. -/
namespace Go.Proofs.YtmfochplnchgcaaGreat
open Go.RowKit

theorem row_short {k : IntKind} {w : World} {m : Nat} {v : Value} (h : IsNat k b64 w v m) (hl : (dig b64 m).length ≤ 1) : (m = 0 ∧ ∃ ao cap, v = .slice ao 0 cap) ∨ (m ≠ 0 ∧ m < b64 ∧ ∃ b off cap, v = .slice (some ⟨b, off, none⟩) 1 cap ∧ w.cell? ⟨b, off, none⟩ = some (.int k m)) := by
  rcases h with ⟨h0, ao, cap, rfl, _⟩ | ⟨h0, b, off, cap, rfl, _, _, _, hc⟩
  · exact .inl ⟨(dig_nil_iff b64_two m).1 h0, _, _, rfl⟩
  · obtain ⟨hd, hm0, hmb⟩ := dig_length_one b64_two m (by omega)
    have := hc 0 (by omega)
    rw [hd] at this
    rw [hd]
    exact .inr ⟨by omega, hmb, b, off, cap, rfl, by simpa using this⟩

set_option maxHeartbeats 1000000 in
theorem small_any (m n : Nat) (va vb : Value) (w : World) (ha : IsNat .u64 b64 w va m) (hb : IsNat .u64 b64 w vb n) (hla : (dig b64 m).length ≤ 1) (hlb : (dig b64 n).length ≤ 1) (hn : 0 < n) :
    Calls Tryz.prog 130 #[va, vb] w (fun e w' => e = .returned (.int .u64 (Nat.gcd m n : Nat)) ∧ Quiet w w') := by
  rcases row_short hb hlb with ⟨h0, _⟩ | ⟨_, hnb, b, off, cap, rfl, hc⟩
  · omega
  have hmb : m < b64 := by
    rcases row_short ha hla with ⟨h0, _⟩ | ⟨_, hmb, _⟩
    · rw [h0]; exact b64_pos
    · exact hmb
  clear hlb hla
  rcases row_short ha (by exact (show (dig b64 m).length ≤ 1 from dig_length_le b64_two 1 m (by simpa using hmb))) with ⟨h0, ao, cap', rfl⟩ | ⟨_, _, b', off', cap', rfl, hc'⟩
  all_goals
    clear ha hb
    go_enter Tryz.func130, Tryz.ntmps130
    go_wp2_with fail
    go_loopw [5, 6] (fun xv yv wr => ∃ x y : Nat, xv = .int .u64 x ∧ yv = .int .u64 y ∧ Hid (x < b64) ∧ Hid (y < b64) ∧ Hid (Nat.gcd x y = Nat.gcd m n) ∧ Quiet w wr) (fun _ yv _ => (intOf yv).toNat)
    case atStart => first | exact ⟨m, n, rfl, rfl, hmb, hnb, rfl, .refl _⟩ | exact ⟨0, n, rfl, rfl, b64_pos, hnb, by rw [h0]; rfl, .refl _⟩
    case round =>
      obtain ⟨x, y, rfl, rfl, hx, hy, hg, nq, rfl⟩ := hrel
      rcases Nat.eq_zero_or_pos y with rfl | hp
      · go_wp2_with fail
        go_ret
        have := hg.out
        rw [Nat.gcd_zero_right] at this
        exact ⟨by rw [← this]; rfl, _, rfl⟩
      · have c1 : (0 : Int) < y := by omega
        have c2 : ¬ y = 0 := by omega
        obtain ⟨z, hz⟩ : ∃ z, z = x % y := ⟨_, rfl⟩
        have HZ := Lib.hid hz
        have e1 : (x : Int).tmod y = (z : Int) := by rw [hz]; rfl
        have e2 : (x : Int) % y = (z : Int) := by rw [hz]; rfl
        clear hz
        go_wp2_with fail
        go_quiet (fail)
        go_wp2_with fail
        refine ⟨⟨y, z, rfl, by first | rfl | rw [e2] | rw [e1], hy, by show z < b64; rw [HZ.out]; exact Nat.lt_trans (Nat.mod_lt _ hp) hy.out, by show Nat.gcd y z = Nat.gcd m n; rw [HZ.out, ← hg.out, Nat.gcd_comm y, ← Nat.gcd_rec, Nat.gcd_comm], Quiet.step ⟨_, rfl⟩ _⟩, ?_⟩
        have := Nat.mod_lt x hp
        rw [← HZ.out] at this
        simp only [intOf, Int.toNat_natCast]
        first | omega | (rw [e2]; omega)


theorem gcd_short (m n : Nat) (h : m < b64) : (dig b64 m).length ≤ 1 := dig_length_le b64_two 1 m (by simpa using h)

set_option maxHeartbeats 1000000 in
theorem gcd_any (m n : Nat) (va vb : Value) (w : World) (ha : IsNat .u64 b64 w va m) (hb : IsNat .u64 b64 w vb n) (hla : (dig b64 m).length ≤ 274877906944) (hlb : (dig b64 n).length ≤ 274877906944) :
    Calls Tryz.prog 101 #[va, vb] w (RetNat .u64 b64 (Nat.gcd m n) w) := by
  go_enter Tryz.func101, Tryz.ntmps101
  go_wp2_with fail
  go_loopg [0, 1] n (fun k av bv wr => ∃ x : Nat, IsNat .u64 b64 wr av x ∧ IsNat .u64 b64 wr bv k ∧ Hid (Nat.gcd x k = Nat.gcd m n) ∧ (dig b64 x).length ≤ 274877906944 ∧ (dig b64 k).length ≤ 274877906944 ∧ Below w.heap.size w wr)
  case atStart => exact ⟨m, ha, hb, rfl, hla, hlb, Below.refl _ _⟩
  case round =>
    clear ha hb hla hlb
    obtain ⟨x, ha, hb, hg, hla, hlb, hbel⟩ := hrel
    rcases Nat.eq_zero_or_pos gk with h0 | hp
    · subst h0
      have hg' := hg.out
      rw [Nat.gcd_zero_right] at hg'
      rw [hg'] at ha
      have Ha := Lib.hid ha
      obtain ⟨ab, cb, rfl, _⟩ := IsRow.opened hb
      rw [dig_zero, List.length_nil]
      clear ha hb hg' 
      go_wp2_with fail
      go_ret
      exact ⟨_, rfl, Ha.out, hbel⟩
    · have hk0 : 0 < (dig b64 gk).length := by
        rcases Nat.eq_zero_or_pos (dig b64 gk).length with h0 | h0
        · have := (dig_nil_iff b64_two gk).1 (List.eq_nil_of_length_eq_zero h0); omega
        · exact h0
      have Ha := Lib.hid ha
      have Hb := Lib.hid hb
      obtain ⟨aa, ca, rfl, _⟩ := IsRow.opened ha
      obtain ⟨ab, cb, rfl, _⟩ := IsRow.opened hb
      clear ha hb
      by_cases hs : (dig b64 x).length ≤ 1 ∧ (dig b64 gk).length ≤ 1
      · obtain ⟨s1, s2⟩ := hs
        have t1 : decide (((dig b64 x).length : Int) ≤ 1) = true := by simp; omega
        have t2 : decide (((dig b64 gk).length : Int) ≤ 1) = true := by simp; omega
        have hgb : Nat.gcd x gk < b64 := by
          refine Nat.lt_of_le_of_lt (Nat.le_of_dvd hp (Nat.gcd_dvd_right x gk)) ?_
          have h1 := lt_pow_dig_length b64_two gk
          exact Nat.lt_of_lt_of_le h1 (by have := Nat.pow_le_pow_right b64_pos s2; simpa using this)
        go_wp2_with fail
        refine (small_any x gk _ _ _ Ha.out Hb.out s1 s2 hp).mono ?_
        rintro e w' ⟨rfl, nq, rfl⟩
        go_wp2_with fail
        refine (word_any (Nat.gcd x gk) _ hgb).mono ?_
        rintro e w2 ⟨v2, rfl, hv2, hb2⟩
        go_wp2_with fail
        go_ret
        rw [hg.out] at hv2
        exact ⟨_, rfl, hv2, ext_trans (below_dn hbel nq) hb2⟩
      · by_cases s1 : (dig b64 x).length ≤ 1
        · have t1 : decide (((dig b64 x).length : Int) ≤ 1) = true := by simp; omega
          have t2 : decide (((dig b64 gk).length : Int) ≤ 1) = false := by simp; omega
          clear hs
          go_wp2_with fail
          refine (divide_any x gk _ _ _ Ha.out Hb.out hp hla).mono ?_
          rintro e w2 ⟨v1, v2, rfl, _, hv2, hb2⟩
          have hb0 := Hb.out.below hb2
          go_wp2_with fail
          go_roundg (x % gk)
          case measure => exact Nat.mod_lt _ hp
          case rel => exact ⟨gk, hb0, hv2, by show Nat.gcd gk (x % gk) = Nat.gcd m n; rw [← hg.out, Nat.gcd_comm gk, ← Nat.gcd_rec, Nat.gcd_comm], hlb, Nat.le_trans (dig_length_mono b64_two (Nat.mod_le _ _)) hla, ext_trans hbel hb2⟩
        · have t1 : decide (((dig b64 x).length : Int) ≤ 1) = false := by simp; omega
          clear hs
          go_wp2_with fail
          refine (divide_any x gk _ _ _ Ha.out Hb.out hp hla).mono ?_
          rintro e w2 ⟨v1, v2, rfl, _, hv2, hb2⟩
          have hb0 := Hb.out.below hb2
          go_wp2_with fail
          go_roundg (x % gk)
          case measure => exact Nat.mod_lt _ hp
          case rel => exact ⟨gk, hb0, hv2, by show Nat.gcd gk (x % gk) = Nat.gcd m n; rw [← hg.out, Nat.gcd_comm gk, ← Nat.gcd_rec, Nat.gcd_comm], hlb, Nat.le_trans (dig_length_mono b64_two (Nat.mod_le _ _)) hla, ext_trans hbel hb2⟩

end Go.Proofs.YtmfochplnchgcaaGreat

/- THE WALKS OF ratio's FRACTIONS, part A: size, Int, reduced, New, under, Sign, Zero, Cmp. -/
namespace Go.Proofs.YtmfochplnchgcaaGreat
open Go.RowKit

set_option maxHeartbeats 1000000 in
theorem under_any (d : Nat) (v : Value) (w : World) (h : IsNat .u64 b64 w v (dn d)) (hd : 0 < d) : Calls Tryz.prog 77 #[v] w (RetNat .u64 b64 d w) := by
  by_cases h1 : d = 1
  · have hz : dn d = 0 := by simp [dn, h1]
    rw [hz] at h
    obtain ⟨ao, cap, rfl, _⟩ := IsRow.opened h
    rw [dig_zero, List.length_nil]
    have H1 := Lib.hid h1
    clear h hz h1
    go_enter Tryz.func77, Tryz.ntmps77
    go_wp2_with fail
    have hw := word_any 1 w (by unfold b64; omega)
    refine hw.mono ?_
    rintro e w' ⟨v, rfl, hv, hb⟩
    go_wp2_with fail
    go_ret
    rw [H1.out]
    exact ⟨_, rfl, hv, hb⟩
  · have hz : dn d = d := by simp [dn, h1]
    rw [hz] at h
    have H := Lib.hid h
    obtain ⟨ao, cap, rfl, _⟩ := IsRow.opened h
    have hl : ((dig b64 d).length : Int) ≠ 0 := fun h0 => by
      have := (dig_nil_iff b64_two d).1 (List.eq_nil_of_length_eq_zero (by omega)); omega
    have hb : (((dig b64 d).length : Int) == 0) = false := beq_eq_false_iff_ne.2 hl
    clear h hl
    go_enter Tryz.func77, Tryz.ntmps77
    go_wp2_with fail
    go_ret
    exact ⟨_, rfl, H.out, Below.refl _ _⟩

set_option maxHeartbeats 2000000 in
theorem reduced_any (neg : Bool) (n d : Nat) (vn vd : Value) (w : World) (hn : IsNat .u64 b64 w vn n) (hd : IsNat .u64 b64 w vd d) (hd0 : 0 < d) (hla : (dig b64 n).length ≤ 274877906944) (hlb : (dig b64 d).length ≤ 274877906944) :
    Calls Tryz.prog 68 #[.bool neg, vn, vd] w (RetRat (mkQ neg n d) w) := by
  by_cases hn0 : n = 0
  · have Hn := Lib.hid hn0
    rw [hn0] at hn
    obtain ⟨ao, cap, rfl, _⟩ := IsRow.opened hn
    rw [dig_zero, List.length_nil]
    clear hn hn0 hla
    go_enter Tryz.func68, Tryz.ntmps68
    go_wp2_with fail
    refine bodyPost_ret (v := .agg #[.bool false, .slice none 0 0, .slice none 0 0]) (by simp [results, Tryz.results68, go_sem]) rfl ⟨_, rfl, ?_, (Below.refl _ _).alloc (Nat.le_refl _) _⟩
    rw [Hn.out, mkQ_zero]
    exact IsRat.zero _
  · have hg0 : 0 < Nat.gcd n d := Nat.gcd_pos_of_pos_right n hd0
    have Hneg := Lib.hid (mkQ_neg neg n d hd0 hn0)
    have Hnum := Lib.hid (mkQ_num neg n d hd0)
    have Hden := Lib.hid (mkQ_den neg n d hd0)
    have hl : ((dig b64 n).length : Int) ≠ 0 := fun h0 => by
      have := (dig_nil_iff b64_two n).1 (List.eq_nil_of_length_eq_zero (by omega)); omega
    have hlb0 : (((dig b64 n).length : Int) == 0) = false := beq_eq_false_iff_ne.2 hl
    have Hn := Lib.hid hn
    have Hd := Lib.hid hd
    obtain ⟨ao, cap, rfl, _⟩ := IsRow.opened hn
    obtain ⟨dd, hdd⟩ : ∃ dd, dd = d / Nat.gcd n d := ⟨_, rfl⟩
    obtain ⟨nn, hnn⟩ : ∃ nn, nn = n / Nat.gcd n d := ⟨_, rfl⟩
    have hdd0 : 0 < dd := by rw [hdd]; exact Nat.div_pos (Nat.le_of_dvd hd0 (Nat.gcd_dvd_right n d)) hg0
    rw [← hnn] at Hnum
    rw [← hdd] at Hden
    have Hdd := Lib.hid hdd
    have Hnn := Lib.hid hnn
    generalize hq : mkQ neg n d = q at *
    clear hn hd hl hdd hnn hq hn0
    by_cases hg1 : Nat.gcd n d = 1
    · have t1 : decide (Nat.gcd n d = 1) = true := by simp [hg1]
      have hnn' : nn = n := by rw [Hnn.out, hg1, Nat.div_one]
      have hdd' : dd = d := by rw [Hdd.out, hg1, Nat.div_one]
      subst hnn' hdd'
      clear hg1
      have hal : Below w.heap.size w (w.alloc (.cells #[.bool false, .slice none 0 0, .slice none 0 0] 40)) := (Below.refl _ _).alloc (Nat.le_refl _) _
      have hB0 := blk_new w #[.bool false, .slice none 0 0, .slice none 0 0] 40
      obtain ⟨ad, cd, rfl, _⟩ := IsRow.opened Hd.out
      go_enter Tryz.func68, Tryz.ntmps68
      go_wp2_with fail
      refine (gcd_any nn dd _ _ _ (Hn.out.below hal) (Hd.out.below hal) hla hlb).mono ?_
      rintro e w3 ⟨vg, rfl, hvg, hb1⟩
      have hx3 := ext_trans hal hb1
      have hB3 := blk_keep hB0 hb1 (by simp)
      have hv13 := Hn.out.below hx3
      have hv3 := Hd.out.below hx3
      clear hal hB0 hb1
      have hBl := blk_lt hB3
      have c0 := blk_cell hB3 0 (.bool false) rfl
      have c1 := blk_cell hB3 1 (.slice none 0 0) rfl
      have c2 := blk_cell hB3 2 (.slice none 0 0) rfl
      have f0 := blk_frozen hB3 0
      have f1 := blk_frozen hB3 1
      have f2 := blk_frozen hB3 2
      go_wp2_with fail
      refine (isOne_any _ _ _ hvg).mono ?_
      rw [t1]
      rintro e w' ⟨rfl, rfl⟩
      go_wp2_with fail
      refine (isOne_any _ _ _ hv3).mono ?_
      have Hv13 := Lib.hid hv13
      have Hv3 := Lib.hid hv3
      have HB3 := Lib.hid hB3
      clear hv13 hv3 hB3
      by_cases hd1 : dd = 1
      · have t2 : decide (dd = 1) = true := by simp [hd1]
        have Hd1 := Lib.hid hd1
        clear hd1
        rw [t2]
        rintro e w' ⟨rfl, rfl⟩
        clear t1 t2
        go_wp2_with fail
        refine bodyPost_ret (v := .agg #[.bool neg, .slice ao (dig b64 nn).length cap, .slice none 0 0]) (by simp [results, Tryz.results68, go_sem, c0, c1, c2]) rfl ⟨_, rfl, ?_, below_store3 hx3 (Nat.le_refl _)⟩
        refine ⟨_, _, by rw [Hneg.out], ?_, ?_⟩
        · rw [Hnum.out]; exact store3 HB3.out Hv13.out
        · rw [Hden.out, Hd1.out]; exact IsNat.zero _ _ _
      · have t2 : decide (dd = 1) = false := by simp [hd1]
        have Hd1 : Hid (dn dd = dd) := by show dn dd = dd; simp [dn, hd1]
        clear hd1
        rw [t2]
        rintro e w' ⟨rfl, rfl⟩
        clear t1 t2
        go_wp2_with fail
        refine bodyPost_ret (v := .agg #[.bool neg, .slice ao (dig b64 nn).length cap, .slice ad (dig b64 dd).length cd]) (by simp [results, Tryz.results68, go_sem, c0, c1, c2]) rfl ⟨_, rfl, ?_, below_store3 hx3 (Nat.le_refl _)⟩
        refine ⟨_, _, by rw [Hneg.out], ?_, ?_⟩
        · rw [Hnum.out]; exact store3 HB3.out Hv13.out
        · rw [Hden.out, Hd1.out]; exact store3 HB3.out Hv3.out
    · have t1 : decide (Nat.gcd n d = 1) = false := by simp [hg1]
      clear hg1
      have hal : Below w.heap.size w (w.alloc (.cells #[.bool false, .slice none 0 0, .slice none 0 0] 40)) := (Below.refl _ _).alloc (Nat.le_refl _) _
      have hB0 := blk_new w #[.bool false, .slice none 0 0, .slice none 0 0] 40
      go_enter Tryz.func68, Tryz.ntmps68
      go_wp2_with fail
      refine (gcd_any n d _ _ _ (Hn.out.below hal) (Hd.out.below hal) hla hlb).mono ?_
      rintro e w1 ⟨vg, rfl, hvg, hb1⟩
      have hx1 := ext_trans hal hb1
      have hB1 := blk_keep hB0 hb1 (by simp)
      clear hal hB0
      go_wp2_with fail
      refine (isOne_any _ _ _ hvg).mono ?_
      rw [t1]
      rintro e w' ⟨rfl, rfl⟩
      go_wp2_with fail
      refine (divide_any n _ _ _ _ (Hn.out.below hx1) hvg hg0 hla).mono ?_
      rintro e w2 ⟨v1, v2, rfl, hv1, _, hb2⟩
      have hx2 := ext_trans hx1 hb2
      have hB2 := blk_keep hB1 hb2 (blk_lt hB1)
      have hvg2 := hvg.below hb2
      clear hB1 hvg
      go_wp2_with fail
      refine (divide_any d _ _ _ _ (Hd.out.below hx2) hvg2 hg0 hlb).mono ?_
      rintro e w3 ⟨v3, v4, rfl, hv3, _, hb3⟩
      have hx3 := ext_trans hx2 hb3
      have hB3 := blk_keep hB2 hb3 (blk_lt hB2)
      have hv13 := hv1.below hb3
      rw [← Hnn.out] at hv13
      rw [← Hdd.out] at hv3
      clear hB2 hvg2 hx1 hx2 hb1 hb2 hb3 hv1
      have Hv13' := Lib.hid hv13
      have Hv3' := Lib.hid hv3
      obtain ⟨a1, c1', rfl, _⟩ := IsRow.opened hv13
      obtain ⟨a3, c3', rfl, _⟩ := IsRow.opened hv3
      clear hv13 hv3
      have hv13 := Hv13'.out
      have hv3 := Hv3'.out
      clear Hv13' Hv3'
      have hBl := blk_lt hB3
      have c0 := blk_cell hB3 0 (.bool false) rfl
      have c1 := blk_cell hB3 1 (.slice none 0 0) rfl
      have c2 := blk_cell hB3 2 (.slice none 0 0) rfl
      have f0 := blk_frozen hB3 0
      have f1 := blk_frozen hB3 1
      have f2 := blk_frozen hB3 2
      go_wp2_with fail
      refine (isOne_any _ _ _ hv3).mono ?_
      have Hv13 := Lib.hid hv13
      have Hv3 := Lib.hid hv3
      have HB3 := Lib.hid hB3
      clear hv13 hv3 hB3
      by_cases hd1 : dd = 1
      · have t2 : decide (dd = 1) = true := by simp [hd1]
        have Hd1 := Lib.hid hd1
        clear hd1
        rw [t2]
        rintro e w' ⟨rfl, rfl⟩
        clear t1 t2
        go_wp2_with fail
        refine bodyPost_ret (v := .agg #[.bool neg, .slice a1 (dig b64 nn).length c1', .slice none 0 0]) (by simp [results, Tryz.results68, go_sem, c0, c1, c2]) rfl ⟨_, rfl, ?_, below_store3 hx3 (Nat.le_refl _)⟩
        refine ⟨_, _, by rw [Hneg.out], ?_, ?_⟩
        · rw [Hnum.out]; exact store3 HB3.out Hv13.out
        · rw [Hden.out, Hd1.out]; exact IsNat.zero _ _ _
      · have t2 : decide (dd = 1) = false := by simp [hd1]
        have Hd1 : Hid (dn dd = dd) := by show dn dd = dd; simp [dn, hd1]
        clear hd1
        rw [t2]
        rintro e w' ⟨rfl, rfl⟩
        clear t1 t2
        go_wp2_with fail
        refine bodyPost_ret (v := .agg #[.bool neg, .slice a1 (dig b64 nn).length c1', .slice a3 (dig b64 dd).length c3']) (by simp [results, Tryz.results68, go_sem, c0, c1, c2]) rfl ⟨_, rfl, ?_, below_store3 hx3 (Nat.le_refl _)⟩
        refine ⟨_, _, by rw [Hneg.out], ?_, ?_⟩
        · rw [Hnum.out]; exact store3 HB3.out Hv13.out
        · rw [Hden.out, Hd1.out]; exact store3 HB3.out Hv3.out

end Go.Proofs.YtmfochplnchgcaaGreat

/- THE WALKS OF ratio's FRACTIONS, part B: size, Int, New, Zero, Sign, Cmp. -/
namespace Go.Proofs.YtmfochplnchgcaaGreat
open Go.RowKit

set_option maxHeartbeats 1000000 in
theorem size_any (n : Int) (w : World) (h1 : -9223372036854775808 ≤ n) (h2 : n ≤ 9223372036854775807) : Calls Tryz.prog 69 #[.int .i64 n] w (RetNat .u64 b64 n.natAbs w) := by
  have hb : n.natAbs < b64 := by unfold b64; omega
  by_cases hn : n < 0
  · have e1 : IntKind.u64.wrap (-(IntKind.u64.wrap n)) = ((n.natAbs : Nat) : Int) := by
      rw [IntKind.wrap_u64, IntKind.wrap_u64]; omega
    go_enter Tryz.func69, Tryz.ntmps69
    go_wp2_with fail
    refine (word_any n.natAbs _ hb).mono ?_
    rintro e w' ⟨v, rfl, hv, hb'⟩
    go_wp2_with fail
    go_ret
    exact ⟨_, rfl, hv, hb'⟩
  · have e1 : IntKind.u64.wrap n = ((n.natAbs : Nat) : Int) := by
      rw [IntKind.wrap_u64]; omega
    go_enter Tryz.func69, Tryz.ntmps69
    go_wp2_with fail
    refine (word_any n.natAbs _ hb).mono ?_
    rintro e w' ⟨v, rfl, hv, hb'⟩
    go_wp2_with fail
    go_ret
    exact ⟨_, rfl, hv, hb'⟩

set_option maxHeartbeats 1000000 in
theorem zero_any (b : Bool) (a1 : Option Addr) (n c1 : Nat) (a2 : Option Addr) (l2 c2 : Nat) (w : World) :
    Calls Tryz.prog 74 #[.agg #[.bool b, .slice a1 (dig b64 n).length c1, .slice a2 l2 c2]] w (RetBool (decide (n = 0)) w) := by
  have e : ((((dig b64 n).length : Nat) : Int) == 0) = decide (n = 0) := by
    rw [Bool.eq_iff_iff]
    simp only [beq_iff_eq, decide_eq_true_eq]
    rw [← dig_nil_iff b64_two n]
    constructor
    · intro h; exact List.eq_nil_of_length_eq_zero (by omega)
    · intro h; rw [h]; rfl
  rw [← e]
  clear e
  go_enter Tryz.func74, Tryz.ntmps74
  go_wp2_with fail
  go_ret
  exact ⟨rfl, (Below.refl _ _).alloc (Nat.le_refl _) _⟩

def sgnI (b : Bool) (n : Nat) : Int := if b then -1 else if n = 0 then 0 else 1

set_option maxHeartbeats 1000000 in
theorem sign_any (b : Bool) (a1 : Option Addr) (n c1 : Nat) (a2 : Option Addr) (l2 c2 : Nat) (w : World) :
    Calls Tryz.prog 32 #[.agg #[.bool b, .slice a1 (dig b64 n).length c1, .slice a2 l2 c2]] w (RetInt (sgnI b n) w) := by
  have hal : Below w.heap.size w (w.alloc (.cells #[.bool b, .slice a1 (dig b64 n).length c1, .slice a2 l2 c2] 40)) := (Below.refl _ _).alloc (Nat.le_refl _) _
  cases b with
  | true =>
    have Hs : Hid (sgnI true n = -1) := rfl
    go_enter Tryz.func32, Tryz.ntmps32
    go_wp2_with fail
    go_ret
    exact ⟨by rw [Hs.out]; rfl, hal⟩
  | false =>
    by_cases hn : n = 0
    · have t : decide (n = 0) = true := by simp [hn]
      have Hs : Hid (sgnI false n = 0) := by show sgnI false n = 0; simp [sgnI, hn]
      clear hn
      go_enter Tryz.func32, Tryz.ntmps32
      go_wp2_with fail
      refine (zero_any _ _ n _ _ _ _ _).mono ?_
      rw [t]
      rintro e w' ⟨rfl, hb⟩
      go_wp2_with fail
      go_ret
      exact ⟨by rw [Hs.out]; rfl, ext_trans hal hb⟩
    · have t : decide (n = 0) = false := by simp [hn]
      have Hs : Hid (sgnI false n = 1) := by show sgnI false n = 1; simp [sgnI, hn]
      clear hn
      go_enter Tryz.func32, Tryz.ntmps32
      go_wp2_with fail
      refine (zero_any _ _ n _ _ _ _ _).mono ?_
      rw [t]
      rintro e w' ⟨rfl, hb⟩
      go_wp2_with fail
      go_ret
      exact ⟨by rw [Hs.out]; rfl, ext_trans hal hb⟩


theorem i64_rat (n : Int) : ((n : Rat).num < 0 ↔ n < 0) := by simp

set_option maxHeartbeats 1000000 in
theorem int_any (n : Int) (w : World) (h1 : -9223372036854775808 ≤ n) (h2 : n ≤ 9223372036854775807) : Calls Tryz.prog 36 #[.int .i64 n] w (RetRat (n : Rat) w) := by
  have hal : Below w.heap.size w (w.alloc (.cells #[.bool false, .slice none 0 0, .slice none 0 0] 40)) := (Below.refl _ _).alloc (Nat.le_refl _) _
  have hB0 := blk_new w #[.bool false, .slice none 0 0, .slice none 0 0] 40
  go_enter Tryz.func36, Tryz.ntmps36
  go_wp2_with fail
  refine (size_any n _ h1 h2).mono ?_
  rintro e w3 ⟨v, rfl, hv, hb⟩
  have hx3 := ext_trans hal hb
  have hB3 := blk_keep hB0 hb (by simp)
  have Hv := Lib.hid hv
  obtain ⟨a1, c1, rfl, _⟩ := IsRow.opened hv
  clear hv hal hB0 hb
  have hBl := blk_lt hB3
  have c0 := blk_cell hB3 0 (.bool false) rfl
  have c1 := blk_cell hB3 1 (.slice none 0 0) rfl
  have c2 := blk_cell hB3 2 (.slice none 0 0) rfl
  have f0 := blk_frozen hB3 0
  have f1 := blk_frozen hB3 1
  have f2 := blk_frozen hB3 2
  have HB3 := Lib.hid hB3
  clear hB3
  go_wp2_with fail
  refine bodyPost_ret (v := .agg #[.bool (decide (n < 0)), .slice a1 (dig b64 n.natAbs).length _, .slice none 0 0]) (by simp [results, Tryz.results36, go_sem, c0, c1, c2]; first | done | exact ⟨rfl, rfl⟩ | rfl) rfl ⟨_, rfl, ?_, below_store3 hx3 (Nat.le_refl _)⟩
  refine ⟨_, _, rfl, ?_, ?_⟩
  · exact store3 HB3.out Hv.out
  · exact IsNat.zero _ _ _

end Go.Proofs.YtmfochplnchgcaaGreat

/- THE WALKS OF ratio's FRACTIONS, part C: New, Cmp. -/
namespace Go.Proofs.YtmfochplnchgcaaGreat
open Go.RowKit

def RetRatE (q : Rat) (err : Int) (w : World) (e : Ending) (w' : World) : Prop :=
  ∃ v, e = .returned (.tuple #[v, .int .i64 err]) ∧ IsRat w' v q ∧ Below w.heap.size w w'

theorem natAbs_short (n : Int) (h1 : -9223372036854775808 ≤ n) (h2 : n ≤ 9223372036854775807) : (dig b64 n.natAbs).length ≤ 1 := dig_length_le b64_two 1 _ (by unfold b64; omega)

theorem new_plain (n d : Int) (hd : d ≠ 0) : mkQ (decide (n < 0) != decide (d < 0)) n.natAbs d.natAbs = (n : Rat) / (d : Rat) := by
  have hd' : (d : Rat) ≠ 0 := by simpa using hd
  have h1 : mkQ (decide (n < 0) != decide (d < 0)) n.natAbs d.natAbs = (sg (decide (n < 0) != decide (d < 0)) n.natAbs : Rat) / ((d.natAbs : Nat) : Rat) := by
    unfold mkQ; exact Rat.mkRat_eq_div _ _
  rw [h1]
  rcases Int.lt_or_le d 0 with hdn | hdn
  · have e1 : ((d.natAbs : Nat) : Rat) = -(d : Rat) := by
      have : ((d.natAbs : Nat) : Int) = -d := by omega
      rw [← Rat.intCast_natCast, this, Rat.intCast_neg]
    rcases Int.lt_or_le n 0 with hnn | hnn
    · have e2 : sg (decide (n < 0) != decide (d < 0)) n.natAbs = -n := by
        unfold sg; simp [hdn, hnn]; omega
      rw [e1, e2, Rat.intCast_neg]
      grind
    · have e2 : sg (decide (n < 0) != decide (d < 0)) n.natAbs = -n := by
        have : ¬ n < 0 := by omega
        unfold sg; simp [hdn, this]; omega
      rw [e1, e2, Rat.intCast_neg]
      grind
  · have e1 : ((d.natAbs : Nat) : Rat) = (d : Rat) := by
      have : ((d.natAbs : Nat) : Int) = d := by omega
      rw [← Rat.intCast_natCast, this]
    have hd2 : ¬ d < 0 := by omega
    rcases Int.lt_or_le n 0 with hnn | hnn
    · have e2 : sg (decide (n < 0) != decide (d < 0)) n.natAbs = n := by
        unfold sg; simp [hd2, hnn]; omega
      rw [e1, e2]
    · have e2 : sg (decide (n < 0) != decide (d < 0)) n.natAbs = n := by
        have : ¬ n < 0 := by omega
        unfold sg; simp [hd2, this]; omega
      rw [e1, e2]

set_option maxHeartbeats 1000000 in
theorem new_any (n d : Int) (w : World) (h1 : -9223372036854775808 ≤ n) (h2 : n ≤ 9223372036854775807) (h3 : -9223372036854775808 ≤ d) (h4 : d ≤ 9223372036854775807) (hd : d ≠ 0) :
    Calls Tryz.prog 28 #[.int .i64 n, .int .i64 d] w (RetRatE ((n : Rat) / (d : Rat)) 0 w) := by
  have hq : mkQ (!(decide (n < 0) == decide (d < 0))) n.natAbs d.natAbs = (n : Rat) / (d : Rat) := new_plain n d hd
  generalize (n : Rat) / (d : Rat) = q at *
  have t : ((d : Int) == 0) = false := beq_eq_false_iff_ne.2 hd
  have hal : Below w.heap.size w (w.alloc (.cells #[.bool false, .slice none 0 0, .slice none 0 0] 40)) := (Below.refl _ _).alloc (Nat.le_refl _) _
  have hB0 := blk_new w #[.bool false, .slice none 0 0, .slice none 0 0] 40
  have Hq := Lib.hid hq
  have hdp : 0 < d.natAbs := by omega
  clear hq
  go_enter Tryz.func28, Tryz.ntmps28
  go_wp2_with fail
  refine (size_any n _ h1 h2).mono ?_
  rintro e w1 ⟨v1, rfl, hv1, hb1⟩
  have hx1 := ext_trans hal hb1
  have hB1 := blk_keep hB0 hb1 (by simp)
  go_wp2_with fail
  refine (size_any d _ h3 h4).mono ?_
  rintro e w2 ⟨v2, rfl, hv2, hb2⟩
  have hx2 := ext_trans hx1 hb2
  have hB2 := blk_keep hB1 hb2 (blk_lt hB1)
  go_wp2_with fail
  refine (reduced_any _ n.natAbs d.natAbs _ _ _ (hv1.below hb2) hv2 hdp (by have := natAbs_short n h1 h2; omega) (by have := natAbs_short d h3 h4; omega)).mono ?_
  rintro e w3 ⟨v, rfl, hv, hb⟩
  rw [Hq.out] at hv
  have hx3 := ext_trans hx2 hb
  have hB3 := blk_keep hB2 hb (blk_lt hB2)
  obtain ⟨a1, c1, a2, c2, rfl, hn', hd'⟩ := hv.opened
  have HB3 := Lib.hid hB3
  have hBl := blk_lt hB3
  have c0 := blk_cell hB3 0 (.bool false) rfl
  have c1 := blk_cell hB3 1 (.slice none 0 0) rfl
  have c2 := blk_cell hB3 2 (.slice none 0 0) rfl
  have f0 := blk_frozen hB3 0
  have f1 := blk_frozen hB3 1
  have f2 := blk_frozen hB3 2
  clear hv1 hv2 hv hb hb1 hb2 hx1 hx2 hal hB0 hB1 hB2 hB3
  go_wp2_with fail
  refine bodyPost_ret (v := .tuple #[.agg #[.bool (decide (q.num < 0)), .slice a1 (dig b64 q.num.natAbs).length _, .slice a2 (dig b64 (dn q.den)).length _], .int .i64 0]) (by simp [results, Tryz.results28, go_sem, c0, c1, c2]; first | done | exact ⟨⟨rfl, rfl⟩, rfl⟩ | exact ⟨rfl, rfl⟩ | rfl) rfl ⟨_, rfl, ?_, below_store3 hx3 (Nat.le_refl _)⟩
  exact ⟨_, _, rfl, store3 HB3.out hn', store3 HB3.out hd'⟩

end Go.Proofs.YtmfochplnchgcaaGreat

/- THE WALKS OF THE REFERENCE's FRACTIONS: Divisor, under, made, magnitude, Int, New, Of. -/
namespace Go.Proofs.YtmfochplnchgcaaGreat
open Go.RowKit

set_option maxHeartbeats 1000000 in
theorem divisor_any (m n : Nat) (va vb : Value) (w : World) (ha : IsNat .u32 b32 w va m) (hb : IsNat .u32 b32 w vb n) (hla : (dig b32 m).length ≤ 68719476736) (hlb : (dig b32 n).length ≤ 68719476736) :
    Calls Tryz.prog 116 #[va, vb] w (RetNat .u32 b32 (Nat.gcd m n) w) := by
  go_enter Tryz.func116, Tryz.ntmps116
  go_wp2_with fail
  go_loopg [0, 1] n (fun k av bv wr => ∃ x : Nat, IsNat .u32 b32 wr av x ∧ IsNat .u32 b32 wr bv k ∧ Hid (Nat.gcd x k = Nat.gcd m n) ∧ (dig b32 x).length ≤ 68719476736 ∧ (dig b32 k).length ≤ 68719476736 ∧ Below w.heap.size w wr)
  case atStart => exact ⟨m, ha, hb, rfl, hla, hlb, Below.refl _ _⟩
  case round =>
    clear ha hb hla hlb
    obtain ⟨x, ha, hb, hg, hla, hlb, hbel⟩ := hrel
    rcases Nat.eq_zero_or_pos gk with h0 | hp
    · subst h0
      have hg' := hg.out
      rw [Nat.gcd_zero_right] at hg'
      rw [hg'] at ha
      have Ha := Lib.hid ha
      obtain ⟨ab, cb, rfl, _⟩ := IsRow.opened hb
      rw [dig_zero, List.length_nil]
      clear ha hb hg'
      go_wp2_with fail
      go_ret
      exact ⟨_, rfl, Ha.out, hbel⟩
    · have hk0 : 0 < (dig b32 gk).length := by
        rcases Nat.eq_zero_or_pos (dig b32 gk).length with h0 | h0
        · have := (dig_nil_iff b32_two gk).1 (List.eq_nil_of_length_eq_zero h0); omega
        · exact h0
      have Ha := Lib.hid ha
      have Hb := Lib.hid hb
      obtain ⟨ab, cb, rfl, _⟩ := IsRow.opened hb
      have t1 : decide (((dig b32 gk).length : Int) > 0) = true := by simp; omega
      have Hp := Lib.hid hp
      clear ha hb hp
      go_wp2_with fail
      refine (quotient_any x gk _ _ _ Ha.out Hb.out (by have := Hp.out; omega) hla hlb).mono ?_
      rintro e w2 ⟨v1, v2, rfl, _, hv2, hb2⟩
      have hb0 := Hb.out.below hb2
      go_wp2_with fail
      go_roundg (x % gk)
      case measure => exact Nat.mod_lt _ Hp.out
      case rel => exact ⟨gk, hb0, hv2, by show Nat.gcd gk (x % gk) = Nat.gcd m n; rw [← hg.out, Nat.gcd_comm gk, ← Nat.gcd_rec, Nat.gcd_comm], hlb, Nat.le_trans (dig_length_mono b32_two (Nat.le_of_lt (Nat.mod_lt _ Hp.out))) hlb, ext_trans hbel hb2⟩

/-- A denominator of the reference's: also nothing stands for 1. -/
def IsDen (d' d : Nat) : Prop := d' = d ∨ (d' = 0 ∧ d = 1)

/-- The value v reads as the reference's fraction q. -/
def IsR (w : World) (v : Value) (q : Rat) : Prop :=
  ∃ vn vd d', v = .agg #[.bool (decide (q.num < 0)), vn, vd] ∧ IsNat .u32 b32 w vn q.num.natAbs ∧ IsNat .u32 b32 w vd d' ∧ IsDen d' q.den
theorem IsR.below {w w' : World} {v : Value} {q : Rat} (h : IsR w v q) (hb : Below w.heap.size w w') : IsR w' v q := by
  obtain ⟨vn, vd, d', rfl, h1, h2, h3⟩ := h
  exact ⟨vn, vd, d', rfl, h1.below hb, h2.below hb, h3⟩
def RetR (q : Rat) (w : World) (e : Ending) (w' : World) : Prop := ∃ v, e = .returned v ∧ IsR w' v q ∧ Below w.heap.size w w'
def RetRE (q : Rat) (err : Int) (w : World) (e : Ending) (w' : World) : Prop :=
  ∃ v, e = .returned (.tuple #[v, .int .i64 err]) ∧ IsR w' v q ∧ Below w.heap.size w w'
theorem IsR.zero (w : World) : IsR w (.agg #[.bool false, .slice none 0 0, .slice none 0 0]) 0 :=
  ⟨_, _, 0, rfl, IsNat.zero _ _ _, IsNat.zero _ _ _, .inr ⟨rfl, rfl⟩⟩
theorem IsR.opened {w : World} {v : Value} {q : Rat} (h : IsR w v q) : ∃ d' a1 c1 a2 c2, v = .agg #[.bool (decide (q.num < 0)), .slice a1 (dig b32 q.num.natAbs).length c1, .slice a2 (dig b32 d').length c2] ∧
    IsNat .u32 b32 w (.slice a1 (dig b32 q.num.natAbs).length c1) q.num.natAbs ∧ IsNat .u32 b32 w (.slice a2 (dig b32 d').length c2) d' ∧ IsDen d' q.den := by
  obtain ⟨vn, vd, d', rfl, h1, h2, h3⟩ := h
  have h1' := h1
  have h2' := h2
  obtain ⟨a1, c1, rfl, _⟩ := IsRow.opened h1
  obtain ⟨a2, c2, rfl, _⟩ := IsRow.opened h2
  exact ⟨d', a1, c1, a2, c2, rfl, h1', h2', h3⟩

set_option maxHeartbeats 1000000 in
theorem qunder_any (d' d : Nat) (b : Bool) (a1 : Option Addr) (l1 c1 : Nat) (a2 : Option Addr) (c2 : Nat) (w : World) (h : IsNat .u32 b32 w (.slice a2 (dig b32 d').length c2) d') (hd : IsDen d' d) (hd0 : d ≠ 0) :
    Calls Tryz.prog 84 #[.agg #[.bool b, .slice a1 l1 c1, .slice a2 (dig b32 d').length c2]] w (RetNat .u32 b32 d w) := by
  have hal : Below w.heap.size w (w.alloc (.cells #[.bool b, .slice a1 l1 c1, .slice a2 (dig b32 d').length c2] 45)) := (Below.refl _ _).alloc (Nat.le_refl _) _
  by_cases h0 : d' = 0
  · obtain rfl : d = 1 := by rcases hd with h | h; exact absurd (h.symm.trans h0) hd0; exact h.2
    subst h0
    clear h hd hd0
    go_enter Tryz.func84, Tryz.ntmps84
    go_wp2_with fail
    refine (nat_any 1 _ (by unfold b64; omega)).mono ?_
    rintro e w' ⟨v, rfl, hv, hb⟩
    go_wp2_with fail
    go_ret
    exact ⟨_, rfl, hv, ext_trans hal hb⟩
  · obtain rfl : d' = d := by rcases hd with h | h; exact h; exact absurd h.1 h0
    have hl : ((dig b32 d').length : Int) ≠ 0 := fun h1 => h0 ((dig_nil_iff b32_two d').1 (List.eq_nil_of_length_eq_zero (by omega)))
    have hb : (((dig b32 d').length : Int) == 0) = false := beq_eq_false_iff_ne.2 hl
    have H := Lib.hid h
    clear h hd hd0 h0 hl
    go_enter Tryz.func84, Tryz.ntmps84
    go_wp2_with fail
    go_ret
    exact ⟨_, rfl, H.out.below hal, hal⟩

end Go.Proofs.YtmfochplnchgcaaGreat

/- THE WALKS OF THE REFERENCE's FRACTIONS: made, magnitude, Int, New. -/
namespace Go.Proofs.YtmfochplnchgcaaGreat
open Go.RowKit

theorem cmpN_one (g : Nat) (h : g ≤ 1) : decide (cmpN g 1 > 0) = false := cmpN_ngt (by omega)

set_option maxHeartbeats 2000000 in
theorem made_any (neg : Bool) (n d : Nat) (vn vd : Value) (w : World) (hn : IsNat .u32 b32 w vn n) (hd : IsNat .u32 b32 w vd d) (hd0 : 0 < d) (hla : (dig b32 n).length ≤ 68719476736) (hlb : (dig b32 d).length ≤ 68719476736) :
    Calls Tryz.prog 82 #[.bool neg, vn, vd] w (RetR (mkQ neg n d) w) := by
  have hal : Below w.heap.size w (w.alloc (.cells #[.bool false, .slice none 0 0, .slice none 0 0] 45)) := (Below.refl _ _).alloc (Nat.le_refl _) _
  have hB0 := blk_new w #[.bool false, .slice none 0 0, .slice none 0 0] 45
  by_cases hn0 : n = 0
  · have Hn := Lib.hid hn0
    rw [hn0] at hn
    obtain ⟨ao, cap, rfl, _⟩ := IsRow.opened hn
    rw [dig_zero, List.length_nil]
    clear hn hn0 hla
    go_enter Tryz.func82, Tryz.ntmps82
    go_wp2_with fail
    have hal2 := hal.alloc hal.size (.cells #[] 163)
    refine (nat_any 1 _ (by unfold b64; omega)).mono ?_
    rintro e w1 ⟨v, rfl, hv, hb⟩
    have hx := hal2.trans (hb.mono hal2.size)
    have hB1 : (w1.heap[w.heap.size]? = _) := (hb.block w.heap.size (by simp; omega)).trans ((heap_alloc_old _ _ (by simp)).trans hB0)
    obtain ⟨a1, c1, rfl, _⟩ := IsRow.opened hv
    have hBl := blk_lt hB1
    have c0 := blk_cell hB1 0 (.bool false) rfl
    have c1 := blk_cell hB1 1 (.slice none 0 0) rfl
    have c2 := blk_cell hB1 2 (.slice none 0 0) rfl
    have f0 := blk_frozen hB1 0
    have f1 := blk_frozen hB1 1
    have f2 := blk_frozen hB1 2
    have HB := Lib.hid hB1
    have Hv := Lib.hid hv
    clear hB1 hv hb hal hal2 hB0
    go_wp2_with fail
    refine bodyPost_ret (v := .agg #[.bool false, .slice (some ⟨w.heap.size + 1, 0, none⟩) 0 0, .slice a1 (dig b32 1).length _]) (by simp [results, Tryz.results82, go_sem, c0, c1, c2]; first | done | exact ⟨rfl, rfl⟩ | rfl) rfl ⟨_, rfl, ?_, below_store3 hx (Nat.le_refl _)⟩
    rw [Hn.out, mkQ_zero]
    refine ⟨_, _, 1, rfl, ?_, store3 HB.out Hv.out, .inl rfl⟩
    exact .inl ⟨rfl, _, _, rfl, by unfold maxLen; omega, fun _ => rfl⟩
  · have hg0 : 0 < Nat.gcd n d := Nat.gcd_pos_of_pos_right n hd0
    have Hneg := Lib.hid (mkQ_neg neg n d hd0 hn0)
    have Hnum := Lib.hid (mkQ_num neg n d hd0)
    have Hden := Lib.hid (mkQ_den neg n d hd0)
    have hl : ((dig b32 n).length : Int) ≠ 0 := fun h0 => by
      have := (dig_nil_iff b32_two n).1 (List.eq_nil_of_length_eq_zero (by omega)); omega
    have hlb0 : (((dig b32 n).length : Int) == 0) = false := beq_eq_false_iff_ne.2 hl
    have Hn := Lib.hid hn
    have Hd := Lib.hid hd
    obtain ⟨ao, cap, rfl, _⟩ := IsRow.opened hn
    have Hg0 := Lib.hid hg0
    have hlg : Hid ((dig b32 (Nat.gcd n d)).length ≤ 68719476736) := Nat.le_trans (dig_length_mono b32_two (Nat.gcd_le_right n hd0)) hlb
    generalize hq : mkQ neg n d = q at *
    clear hn hd hl hq hn0 hg0 hd0
    go_enter Tryz.func82, Tryz.ntmps82
    go_wp2_with fail
    refine (divisor_any n d _ _ _ (Hn.out.below hal) (Hd.out.below hal) hla hlb).mono ?_
    rintro e w1 ⟨vg, rfl, hvg, hb1⟩
    have hx1 := ext_trans hal hb1
    have hB1 := blk_keep hB0 hb1 (by simp)
    have Hvg := Lib.hid hvg
    clear hal hB0 hb1 hvg
    go_wp2_with fail
    refine (nat_any 1 _ (by unfold b64; omega)).mono ?_
    rintro e w2 ⟨v1, rfl, hv1, hb2⟩
    have hx2 := ext_trans hx1 hb2
    have hB2 := blk_keep hB1 hb2 (blk_lt hB1)
    have Hvg2 := Lib.hid (Hvg.out.below hb2)
    have Hv1 := Lib.hid hv1
    clear hx1 hB1 hb2 hv1
    go_wp2_with fail
    refine (order_any (Nat.gcd n d) 1 _ _ w2 Hvg2.out Hv1.out).mono ?_
    rintro e w' ⟨rfl, nq, rfl⟩
    have hx2' : Below w.heap.size w (w2.drewN nq) := below_dn hx2 nq
    have hB2' : (w2.drewN nq).heap[w.heap.size]? = some (.cells #[.bool false, .slice none 0 0, .slice none 0 0] 45 (0, 0)) := hB2
    have Hvg2' : Hid (IsNat .u32 b32 (w2.drewN nq) vg (Nat.gcd n d)) := Hvg2.out
    clear hx2 hB2
    by_cases hg1 : Nat.gcd n d = 1
    · have t1 : decide (cmpN (Nat.gcd n d) 1 > 0) = false := cmpN_one _ (by omega)
      generalize cmpN (Nat.gcd n d) 1 = c at *
      have Hg1 := Lib.hid hg1
      clear hg1
      have HB := Lib.hid hB2'
      have hBl := blk_lt hB2'
      obtain ⟨ad, cd, rfl, _⟩ := IsRow.opened Hd.out
      have c0 := blk_cell hB2' 0 (.bool false) rfl
      have c1 := blk_cell hB2' 1 (.slice none 0 0) rfl
      have c2 := blk_cell hB2' 2 (.slice none 0 0) rfl
      have f0 := blk_frozen hB2' 0
      have f1 := blk_frozen hB2' 1
      have f2 := blk_frozen hB2' 2
      clear hB2'
      go_wp2_with fail
      refine bodyPost_ret (v := .agg #[.bool neg, .slice ao (dig b32 n).length cap, .slice ad (dig b32 d).length cd]) (by simp [results, Tryz.results82, go_sem, c0, c1, c2]; first | done | exact ⟨rfl, rfl⟩ | rfl) rfl ⟨_, rfl, ?_, below_store3 hx2' (Nat.le_refl _)⟩
      refine ⟨_, _, d, by rw [Hneg.out], ?_, ?_, ?_⟩
      · rw [Hnum.out, Hg1.out, Nat.div_one]; exact store3 HB.out (Hn.out.below hx2')
      · exact store3 HB.out (Hd.out.below hx2')
      · rw [Hden.out, Hg1.out, Nat.div_one]; exact .inl rfl
    · have t1 : decide (cmpN (Nat.gcd n d) 1 > 0) = true := cmpN_gt (by have := Hg0.out; omega)
      generalize cmpN (Nat.gcd n d) 1 = c at *
      clear hg1
      go_wp2_with fail
      refine (quotient_any n _ _ _ _ (Hn.out.below hx2') Hvg2'.out (by have := Hg0.out; omega) hla hlg.out).mono ?_
      rintro e w3 ⟨v3, v4, rfl, hv3, _, hb3⟩
      have hx3 := ext_trans hx2' hb3
      have hB3 := blk_keep hB2' hb3 (blk_lt hB2')
      have Hvg3 := Lib.hid (Hvg2'.out.below hb3)
      have Hv3 := Lib.hid hv3
      clear hx2' hB2' hv3 hb3
      go_wp2_with fail
      refine (quotient_any d _ _ _ _ (Hd.out.below hx3) Hvg3.out (by have := Hg0.out; omega) hlb hlg.out).mono ?_
      rintro e w4 ⟨v5, v6, rfl, hv5, _, hb4⟩
      have hx4 := ext_trans hx3 hb4
      have hB4 := blk_keep hB3 hb4 (blk_lt hB3)
      have Hv34 := Lib.hid (Hv3.out.below hb4)
      have Hv5 := Lib.hid hv5
      obtain ⟨a3, c3, rfl, _⟩ := IsRow.opened Hv34.out
      obtain ⟨a5, c5, rfl, _⟩ := IsRow.opened Hv5.out
      clear hx3 hB3 hv5 hb4
      have HB := Lib.hid hB4
      have hBl := blk_lt hB4
      have c0 := blk_cell hB4 0 (.bool false) rfl
      have c1 := blk_cell hB4 1 (.slice none 0 0) rfl
      have c2 := blk_cell hB4 2 (.slice none 0 0) rfl
      have f0 := blk_frozen hB4 0
      have f1 := blk_frozen hB4 1
      have f2 := blk_frozen hB4 2
      clear hB4
      go_wp2_with fail
      refine bodyPost_ret (v := .agg #[.bool neg, .slice a3 (dig b32 (n / Nat.gcd n d)).length c3, .slice a5 (dig b32 (d / Nat.gcd n d)).length c5]) (by simp [results, Tryz.results82, go_sem, c0, c1, c2]; first | done | exact ⟨rfl, rfl⟩ | rfl) rfl ⟨_, rfl, ?_, below_store3 hx4 (Nat.le_refl _)⟩
      refine ⟨_, _, d / Nat.gcd n d, by rw [Hneg.out], ?_, ?_, ?_⟩
      · rw [Hnum.out]; exact store3 HB.out Hv34.out
      · exact store3 HB.out Hv5.out
      · rw [Hden.out]; exact .inl rfl

set_option maxHeartbeats 1000000 in
theorem magnitude_any (n : Int) (w : World) (h1 : -9223372036854775808 ≤ n) (h2 : n ≤ 9223372036854775807) : Calls Tryz.prog 85 #[.int .i64 n] w (RetNat .u32 b32 n.natAbs w) := by
  have hb : n.natAbs < b64 := by unfold b64; omega
  by_cases hn : n < 0
  · have e1 : IntKind.u64.wrap (-(IntKind.u64.wrap n)) = ((n.natAbs : Nat) : Int) := by
      rw [IntKind.wrap_u64, IntKind.wrap_u64]; omega
    go_enter Tryz.func85, Tryz.ntmps85
    go_wp2_with fail
    refine (nat_any n.natAbs _ hb).mono ?_
    rintro e w' ⟨v, rfl, hv, hb'⟩
    go_wp2_with fail
    go_ret
    exact ⟨_, rfl, hv, hb'⟩
  · have e1 : IntKind.u64.wrap n = ((n.natAbs : Nat) : Int) := by
      rw [IntKind.wrap_u64]; omega
    go_enter Tryz.func85, Tryz.ntmps85
    go_wp2_with fail
    refine (nat_any n.natAbs _ hb).mono ?_
    rintro e w' ⟨v, rfl, hv, hb'⟩
    go_wp2_with fail
    go_ret
    exact ⟨_, rfl, hv, hb'⟩

end Go.Proofs.YtmfochplnchgcaaGreat

/- THE WALKS OF ratio's FRACTIONS, part D: Cmp. -/
namespace Go.Proofs.YtmfochplnchgcaaGreat
open Go.RowKit

def sgnQ (q : Rat) : Int := sgnI (decide (q.num < 0)) q.num.natAbs
theorem sgnQ_cases (q : Rat) : (q.num < 0 ∧ sgnQ q = -1) ∨ (q.num = 0 ∧ sgnQ q = 0) ∨ (0 < q.num ∧ sgnQ q = 1) := by
  unfold sgnQ sgnI
  rcases Int.lt_trichotomy q.num 0 with h | h | h
  · exact .inl ⟨h, by simp [h]⟩
  · exact .inr (.inl ⟨h, by simp [h]⟩)
  · exact .inr (.inr ⟨h, by have h1 : ¬ q.num < 0 := by omega
                            have h2 : q.num ≠ 0 := by omega
                            simp [h1, h2]⟩)

theorem cmpR_lt (x y : Rat) (h : sgnQ x < sgnQ y) : cmpR x y = -1 := by
  have hx := sgnQ_cases x
  have hy := sgnQ_cases y
  have dx : (0 : Int) < x.den := by have := x.den_pos; omega
  have dy : (0 : Int) < y.den := by have := y.den_pos; omega
  have hlt : x < y := by
    rw [Rat.lt_iff]
    rcases hx with ⟨h1, e1⟩ | ⟨h1, e1⟩ | ⟨h1, e1⟩ <;> rcases hy with ⟨h2, e2⟩ | ⟨h2, e2⟩ | ⟨h2, e2⟩ <;> first | omega | skip
    · have a := Int.mul_neg_of_neg_of_pos h1 dy
      rw [h2]; omega
    · have a := Int.mul_neg_of_neg_of_pos h1 dy
      have b := Int.mul_pos h2 dx
      omega
    · have b := Int.mul_pos h2 dx
      rw [h1]; omega
  unfold cmpR; rw [if_pos hlt]

theorem cmpR_swap (x y : Rat) : cmpR x y = - cmpR y x := by
  unfold cmpR
  by_cases h1 : x < y
  · have h2 : ¬ y < x := by grind
    simp [h1, h2]
  · by_cases h2 : y < x
    · simp [h1, h2]
    · simp [h1, h2]

theorem cmpR_gt (x y : Rat) (h : sgnQ y < sgnQ x) : cmpR x y = 1 := by
  rw [cmpR_swap, cmpR_lt y x h]; rfl

theorem cmpR_same (x y : Rat) (h : sgnQ x = sgnQ y) : cmpR x y = cmpN (x.num.natAbs * y.den) (y.num.natAbs * x.den) * sgnQ x := by
  have hx := sgnQ_cases x
  have hy := sgnQ_cases y
  have key : ∀ (P : Prop) [Decidable P] (R : Prop) [Decidable R] (a b : Nat), (x < y ↔ a < b) → (y < x ↔ b < a) → cmpR x y = cmpN a b := by
    intro P _ R _ a b h1 h2
    unfold cmpR cmpN
    simp only [h1, h2]
  have e1 : ∀ q : Rat, q.num < 0 → q.num = -((q.num.natAbs : Nat) : Int) := fun q h => by omega
  have e2 : ∀ q : Rat, 0 < q.num → q.num = ((q.num.natAbs : Nat) : Int) := fun q h => by omega
  rcases hx with ⟨h1, s1⟩ | ⟨h1, s1⟩ | ⟨h1, s1⟩ <;> rcases hy with ⟨h2, s2⟩ | ⟨h2, s2⟩ | ⟨h2, s2⟩ <;> first | omega | skip
  · have k := key True True (y.num.natAbs * x.den) (x.num.natAbs * y.den) (by
      rw [Rat.lt_iff]
      rw [e1 x h1, e1 y h2]
      simp only [Int.natAbs_neg, Int.natAbs_natCast, Int.neg_mul]
      rw [← Int.natCast_mul, ← Int.natCast_mul]; omega) (by
      rw [Rat.lt_iff]
      rw [e1 x h1, e1 y h2]
      simp only [Int.natAbs_neg, Int.natAbs_natCast, Int.neg_mul]
      rw [← Int.natCast_mul, ← Int.natCast_mul]; omega)
    rw [k, s1]
    generalize y.num.natAbs * x.den = A
    generalize x.num.natAbs * y.den = B
    unfold cmpN
    split <;> split <;> (try split) <;> omega
  · have hx0 : x = 0 := Rat.num_eq_zero.1 h1
    have hy0 : y = 0 := Rat.num_eq_zero.1 h2
    rw [s1, hx0, hy0]
    simp [cmpR]
  · have k := key True True (x.num.natAbs * y.den) (y.num.natAbs * x.den) (by
      rw [Rat.lt_iff]
      rw [e2 x h1, e2 y h2]
      simp only [Int.natAbs_natCast]
      rw [← Int.natCast_mul, ← Int.natCast_mul]; omega) (by
      rw [Rat.lt_iff]
      rw [e2 x h1, e2 y h2]
      simp only [Int.natAbs_natCast]
      rw [← Int.natCast_mul, ← Int.natCast_mul]; omega)
    rw [k, s1, Int.mul_one]

set_option maxHeartbeats 2000000 in
theorem cmpRat_any (x y : Rat) (vx vy : Value) (w : World) (hx : IsRat w vx x) (hy : IsRat w vy y) (hlx : szR x 274877906944) (hly : szR y 274877906944) :
    Calls Tryz.prog 34 #[vx, vy] w (RetInt (cmpR x y) w) := by
  obtain ⟨a1, c1, a2, c2, rfl, n1, n2⟩ := hx.opened
  obtain ⟨a3, c3, a4, c4, rfl, n3, n4⟩ := hy.opened
  have N1 := Lib.hid n1
  have N2 := Lib.hid n2
  have N3 := Lib.hid n3
  have N4 := Lib.hid n4
  clear hx hy n1 n2 n3 n4
  go_enter Tryz.func34, Tryz.ntmps34
  go_wp2_with fail
  have hal : Below w.heap.size w ((w.alloc (.cells #[.bool (decide (x.num < 0)), .slice a1 (dig b64 x.num.natAbs).length c1, .slice a2 (dig b64 (dn x.den)).length c2] 40)).alloc (.cells #[.bool (decide (y.num < 0)), .slice a3 (dig b64 y.num.natAbs).length c3, .slice a4 (dig b64 (dn y.den)).length c4] 40)) :=
    ((Below.refl _ _).alloc (Nat.le_refl _) _).alloc (by simp) _
  have hB1 := (blk_keep (blk_new w #[.bool (decide (x.num < 0)), .slice a1 (dig b64 x.num.natAbs).length c1, .slice a2 (dig b64 (dn x.den)).length c2] 40) ((Below.refl _ _).alloc (Nat.le_refl _) (.cells #[.bool (decide (y.num < 0)), .slice a3 (dig b64 y.num.natAbs).length c3, .slice a4 (dig b64 (dn y.den)).length c4] 40)) (by simp))
  have hB2 := blk_new (w.alloc (.cells #[.bool (decide (x.num < 0)), .slice a1 (dig b64 x.num.natAbs).length c1, .slice a2 (dig b64 (dn x.den)).length c2] 40)) #[.bool (decide (y.num < 0)), .slice a3 (dig b64 y.num.natAbs).length c3, .slice a4 (dig b64 (dn y.den)).length c4] 40
  rw [World.size_alloc] at hB2
  generalize ((w.alloc (.cells #[.bool (decide (x.num < 0)), .slice a1 (dig b64 x.num.natAbs).length c1, .slice a2 (dig b64 (dn x.den)).length c2] 40)).alloc (.cells #[.bool (decide (y.num < 0)), .slice a3 (dig b64 y.num.natAbs).length c3, .slice a4 (dig b64 (dn y.den)).length c4] 40)) = W at *
  have p0 := blk_cell hB1 0 (.bool (decide (x.num < 0))) rfl
  have p1 := blk_cell hB1 1 (.slice a1 (dig b64 x.num.natAbs).length c1) rfl
  have p2 := blk_cell hB1 2 (.slice a2 (dig b64 (dn x.den)).length c2) rfl
  have r0 := blk_cell hB2 0 (.bool (decide (y.num < 0))) rfl
  have r1 := blk_cell hB2 1 (.slice a3 (dig b64 y.num.natAbs).length c3) rfl
  have r2 := blk_cell hB2 2 (.slice a4 (dig b64 (dn y.den)).length c4) rfl
  have hl1 := blk_lt hB1
  have hl2 := blk_lt hB2
  clear hB1 hB2
  go_wp2_with fail
  go_region_held3 (fun w' => Below W.heap.size W w' ∧ w'.cell? ⟨w.heap.size, 0, none⟩ = some (.bool (decide (x.num < 0))) ∧ w'.cell? ⟨w.heap.size, 1, none⟩ = some (.slice a1 (dig b64 x.num.natAbs).length c1) ∧ w'.cell? ⟨w.heap.size, 2, none⟩ = some (.slice a2 (dig b64 (dn x.den)).length c2) ∧
      w'.cell? ⟨w.heap.size + 1, 0, none⟩ = some (.bool (decide (y.num < 0))) ∧ w'.cell? ⟨w.heap.size + 1, 1, none⟩ = some (.slice a3 (dig b64 y.num.natAbs).length c3) ∧ w'.cell? ⟨w.heap.size + 1, 2, none⟩ = some (.slice a4 (dig b64 (dn y.den)).length c4))
    (first | exact ⟨Below.refl _ _, p0, p1, p2, r0, r1, r2⟩ | exact ⟨(Below.refl _ _).drew, p0, p1, p2, r0, r1, r2⟩ | exact keep6 hl1 hl2 hb' (by assumption))
    (first | (go_at_call 32; refine (sign_any _ _ _ _ _ _ _ _).mono ?_; rintro e w' ⟨rfl, hb'⟩))
  rw [show sgnI (decide (x.num < 0)) x.num.natAbs = sgnQ x from rfl, show sgnI (decide (y.num < 0)) y.num.natAbs = sgnQ y from rfl]
  rename_i wv hS1 
  rcases Int.lt_trichotomy (sgnQ x) (sgnQ y) with hlt | heq | hgt
  · have t1 : (sgnQ x != sgnQ y) = true := by rw [bne_iff_ne]; omega
    have Hr := Lib.hid (cmpR_lt x y hlt)
    generalize sgnQ x = sx at *
    generalize sgnQ y = sy at *
    go_wp2_with fail
    go_ret
    exact ⟨by rw [Hr.out]; rfl, ext_trans hal (And.left (by assumption))⟩
  · have t1 : (sgnQ x != sgnQ y) = false := by rw [heq]; simp
    have Hr := Lib.hid (cmpR_same x y heq)
    rw [← heq]
    clear heq
    have hal2 := ext_trans hal hS1.1
    obtain ⟨hW, p0', p1', p2', r0', r1', r2'⟩ := hS1
    have hl1' : w.heap.size < w'.heap.size := Nat.lt_of_lt_of_le hl1 hW.size
    have hl2' : w.heap.size + 1 < w'.heap.size := Nat.lt_of_lt_of_le hl2 hW.size
    clear p0 p1 p2 r0 r1 r2 wv hb' hl1 hl2 hal hW
    have hM1 := dig_length_mul b64_two x.num.natAbs y.den
    have hM2 := dig_length_mul b64_two y.num.natAbs x.den
    have HLX := Lib.hid hlx
    have HLY := Lib.hid hly
    have HM1 := Lib.hid hM1
    have HM2 := Lib.hid hM2
    clear hlx hly hM1 hM2
    have Ex : sgnI (decide (x.num < 0)) x.num.natAbs = sgnQ x := rfl
    have EX := Lib.hid Ex
    clear Ex
    go_wp2_with fail
    go_region_held3 (fun w2 => Below w'.heap.size w' w2 ∧ w2.cell? ⟨w.heap.size, 0, none⟩ = some (.bool (decide (x.num < 0))) ∧ w2.cell? ⟨w.heap.size, 1, none⟩ = some (.slice a1 (dig b64 x.num.natAbs).length c1) ∧ w2.cell? ⟨w.heap.size, 2, none⟩ = some (.slice a2 (dig b64 (dn x.den)).length c2) ∧
        w2.cell? ⟨w.heap.size + 1, 0, none⟩ = some (.bool (decide (y.num < 0))) ∧ w2.cell? ⟨w.heap.size + 1, 1, none⟩ = some (.slice a3 (dig b64 y.num.natAbs).length c3) ∧ w2.cell? ⟨w.heap.size + 1, 2, none⟩ = some (.slice a4 (dig b64 (dn y.den)).length c4))
      (first | exact ⟨Below.refl _ _, p0', p1', p2', r0', r1', r2'⟩ | exact ⟨(Below.refl _ _).drew, p0', p1', p2', r0', r1', r2'⟩ | exact keep6 hl1' hl2' hbF (by assumption) | exact keep6 hl1' hl2' hbE (by assumption) | exact keep6 hl1' hl2' hbD (by assumption) | exact keep6 hl1' hl2' hbC (by assumption) | exact keep6 hl1' hl2' hbB (by assumption) | exact keep6 hl1' hl2' hbA (by assumption))
      (first
        | (go_at_call_of 77 (Value.slice a4 (dig b64 (dn y.den)).length c4); refine (under_any y.den _ _ (N4.out.below (ext_trans hal2 (And.left (by assumption)))) y.den_pos).mono ?_; rintro e wA ⟨vA, rfl, hvA, hbA⟩)
        | (go_at_call_of 76 (Value.slice a1 (dig b64 x.num.natAbs).length c1); refine (times_any x.num.natAbs y.den _ _ _ (N1.out.below (ext_trans hal2 (And.left (by assumption)))) hvA (by have := HLX.out.1; have := HLY.out.2; omega)).mono ?_; rintro e wB ⟨vB, rfl, hvB, hbB⟩)
        | (go_at_call_of 77 (Value.slice a2 (dig b64 (dn x.den)).length c2); refine (under_any x.den _ _ (N2.out.below (ext_trans hal2 (And.left (by assumption)))) x.den_pos).mono ?_; rintro e wC ⟨vC, rfl, hvC, hbC⟩)
        | (go_at_call_of 76 (Value.slice a3 (dig b64 y.num.natAbs).length c3); refine (times_any y.num.natAbs x.den _ _ _ (N3.out.below (ext_trans hal2 (And.left (by assumption)))) hvC (by have := HLX.out.2; have := HLY.out.1; omega)).mono ?_; rintro e wD ⟨vD, rfl, hvD, hbD⟩)
        | (go_at_call 78; refine (cmp_any _ _ _ _ _ (hvB.below (ext_trans hbC hbD)) hvD).mono ?_; rintro e wE ⟨rfl, hqE⟩; have hbE := hqE.below)
        | (go_at_call 32; refine (sign_any _ _ _ _ _ _ _ _).mono ?_; rintro e wF ⟨rfl, hbF⟩))
    rw [EX.out]
    have hcs : ∀ a b : Nat, cmpN a b = -1 ∨ cmpN a b = 0 ∨ cmpN a b = 1 := fun a b => by unfold cmpN; split <;> (try split) <;> omega
    have hw : IntKind.i64.wrap (cmpN (x.num.natAbs * y.den) (y.num.natAbs * x.den) * sgnQ x) = cmpN (x.num.natAbs * y.den) (y.num.natAbs * x.den) * sgnQ x := by
      apply IntWalk.i64_in
      rcases hcs (x.num.natAbs * y.den) (y.num.natAbs * x.den) with h | h | h <;> rcases sgnQ_cases x with ⟨_, h'⟩ | ⟨_, h'⟩ | ⟨_, h'⟩ <;> rw [h, h'] <;> omega
    rw [← Hr.out] at hw
    have Hw := Lib.hid hw
    clear hcs hw
    go_wp2_with fail
    go_ret
    refine ⟨?_, ext_trans hal2 (And.left (by assumption))⟩
    rw [← Hw.out, Hr.out]
    rfl
  · have t1 : (sgnQ x != sgnQ y) = true := by rw [bne_iff_ne]; omega
    have Hr := Lib.hid (cmpR_gt x y hgt)
    generalize sgnQ x = sx at *
    generalize sgnQ y = sy at *
    go_wp2_with fail
    go_ret
    exact ⟨by rw [Hr.out]; rfl, ext_trans hal (And.left (by assumption))⟩

end Go.Proofs.YtmfochplnchgcaaGreat

/- THE WALKS OF THE REFERENCE's FRACTIONS: Int, New, Zero, Sign, Neg. -/
namespace Go.Proofs.YtmfochplnchgcaaGreat
open Go.RowKit

theorem natAbs_short32 (n : Int) (h1 : -9223372036854775808 ≤ n) (h2 : n ≤ 9223372036854775807) : (dig b32 n.natAbs).length ≤ 2 := dig_length_le b32_two 2 _ (by unfold b32; omega)
theorem dig32_one : (dig b32 1).length ≤ 1 := dig_length_le b32_two 1 _ (by unfold b32; omega)
theorem mkQ_int (n : Int) : mkQ (decide (n < 0)) n.natAbs 1 = (n : Rat) := by
  have h := rat_eq (n : Rat)
  simp only [Rat.num_intCast, Rat.den_intCast] at h
  exact h.symm

set_option maxHeartbeats 1000000 in
theorem qint_any (n : Int) (w : World) (h1 : -9223372036854775808 ≤ n) (h2 : n ≤ 9223372036854775807) : Calls Tryz.prog 42 #[.int .i64 n] w (RetR (n : Rat) w) := by
  have hal : Below w.heap.size w (w.alloc (.cells #[.bool false, .slice none 0 0, .slice none 0 0] 45)) := (Below.refl _ _).alloc (Nat.le_refl _) _
  have hB0 := blk_new w #[.bool false, .slice none 0 0, .slice none 0 0] 45
  have Hq := Lib.hid (mkQ_int n)
  go_enter Tryz.func42, Tryz.ntmps42
  go_wp2_with fail
  refine (magnitude_any n _ h1 h2).mono ?_
  rintro e w1 ⟨v1, rfl, hv1, hb1⟩
  have hx1 := ext_trans hal hb1
  have hB1 := blk_keep hB0 hb1 (by simp)
  go_wp2_with fail
  refine (nat_any 1 _ (by unfold b64; omega)).mono ?_
  rintro e w2 ⟨v2, rfl, hv2, hb2⟩
  have hx2 := ext_trans hx1 hb2
  have hB2 := blk_keep hB1 hb2 (blk_lt hB1)
  go_wp2_with fail
  refine (made_any _ n.natAbs 1 _ _ _ (hv1.below hb2) hv2 (by omega) (by have := natAbs_short32 n h1 h2; omega) (by have := dig32_one; omega)).mono ?_
  rintro e w3 ⟨v, rfl, hv, hb⟩
  rw [Hq.out] at hv
  have hx3 := ext_trans hx2 hb
  have hB3 := blk_keep hB2 hb (blk_lt hB2)
  obtain ⟨d', a1, c1, a2, c2, rfl, hn', hd', hden⟩ := hv.opened
  generalize (n : Rat) = q at *
  clear hv1 hv2 hv hb hb1 hb2 hx1 hx2 hal hB0 hB1 hB2
  have hBl := blk_lt hB3
  have c0 := blk_cell hB3 0 (.bool false) rfl
  have c1 := blk_cell hB3 1 (.slice none 0 0) rfl
  have c2 := blk_cell hB3 2 (.slice none 0 0) rfl
  have f0 := blk_frozen hB3 0
  have f1 := blk_frozen hB3 1
  have f2 := blk_frozen hB3 2
  have HB := Lib.hid hB3
  clear hB3
  go_wp2_with fail
  refine bodyPost_ret (v := .agg #[.bool (decide (q.num < 0)), .slice a1 (dig b32 q.num.natAbs).length _, .slice a2 (dig b32 d').length _]) (by simp [results, Tryz.results42, go_sem, c0, c1, c2]; first | done | exact ⟨rfl, rfl⟩ | rfl) rfl ⟨_, rfl, ?_, below_store3 hx3 (Nat.le_refl _)⟩
  exact ⟨_, _, d', rfl, store3 HB.out hn', store3 HB.out hd', hden⟩

set_option maxHeartbeats 1000000 in
theorem qnew_any (n d : Int) (w : World) (h1 : -9223372036854775808 ≤ n) (h2 : n ≤ 9223372036854775807) (h3 : -9223372036854775808 ≤ d) (h4 : d ≤ 9223372036854775807) (hd : d ≠ 0) :
    Calls Tryz.prog 43 #[.int .i64 n, .int .i64 d] w (RetRE ((n : Rat) / (d : Rat)) 0 w) := by
  have hq : mkQ (!(decide (n < 0) == decide (d < 0))) n.natAbs d.natAbs = (n : Rat) / (d : Rat) := new_plain n d hd
  generalize (n : Rat) / (d : Rat) = q at *
  have t : ((d : Int) == 0) = false := beq_eq_false_iff_ne.2 hd
  have hal : Below w.heap.size w (w.alloc (.cells #[.bool false, .slice none 0 0, .slice none 0 0] 45)) := (Below.refl _ _).alloc (Nat.le_refl _) _
  have hB0 := blk_new w #[.bool false, .slice none 0 0, .slice none 0 0] 45
  have Hq := Lib.hid hq
  have hdp : 0 < d.natAbs := by omega
  clear hq
  go_enter Tryz.func43, Tryz.ntmps43
  go_wp2_with fail
  refine (magnitude_any n _ h1 h2).mono ?_
  rintro e w1 ⟨v1, rfl, hv1, hb1⟩
  have hx1 := ext_trans hal hb1
  have hB1 := blk_keep hB0 hb1 (by simp)
  go_wp2_with fail
  refine (magnitude_any d _ h3 h4).mono ?_
  rintro e w2 ⟨v2, rfl, hv2, hb2⟩
  have hx2 := ext_trans hx1 hb2
  have hB2 := blk_keep hB1 hb2 (blk_lt hB1)
  go_wp2_with fail
  refine (made_any _ n.natAbs d.natAbs _ _ _ (hv1.below hb2) hv2 hdp (by have := natAbs_short32 n h1 h2; omega) (by have := natAbs_short32 d h3 h4; omega)).mono ?_
  rintro e w3 ⟨v, rfl, hv, hb⟩
  rw [Hq.out] at hv
  have hx3 := ext_trans hx2 hb
  have hB3 := blk_keep hB2 hb (blk_lt hB2)
  obtain ⟨d', a1, c1, a2, c2, rfl, hn', hd', hden⟩ := hv.opened
  clear hv1 hv2 hv hb hb1 hb2 hx1 hx2 hal hB0 hB1 hB2
  have hBl := blk_lt hB3
  have c0 := blk_cell hB3 0 (.bool false) rfl
  have c1 := blk_cell hB3 1 (.slice none 0 0) rfl
  have c2 := blk_cell hB3 2 (.slice none 0 0) rfl
  have f0 := blk_frozen hB3 0
  have f1 := blk_frozen hB3 1
  have f2 := blk_frozen hB3 2
  have HB := Lib.hid hB3
  clear hB3
  go_wp2_with fail
  refine bodyPost_ret (v := .tuple #[.agg #[.bool (decide (q.num < 0)), .slice a1 (dig b32 q.num.natAbs).length _, .slice a2 (dig b32 d').length _], .int .i64 0]) (by simp [results, Tryz.results43, go_sem, c0, c1, c2]; first | done | exact ⟨⟨rfl, rfl⟩, rfl⟩ | exact ⟨rfl, rfl⟩ | rfl) rfl ⟨_, rfl, ?_, below_store3 hx3 (Nat.le_refl _)⟩
  exact ⟨_, _, d', rfl, store3 HB.out hn', store3 HB.out hd', hden⟩

set_option maxHeartbeats 1000000 in
theorem qzero_any (b : Bool) (a1 : Option Addr) (n c1 : Nat) (a2 : Option Addr) (l2 c2 : Nat) (w : World) :
    Calls Tryz.prog 79 #[.agg #[.bool b, .slice a1 (dig b32 n).length c1, .slice a2 l2 c2]] w (RetBool (decide (n = 0)) w) := by
  have e : ((((dig b32 n).length : Nat) : Int) == 0) = decide (n = 0) := by
    rw [Bool.eq_iff_iff]
    simp only [beq_iff_eq, decide_eq_true_eq]
    rw [← dig_nil_iff b32_two n]
    constructor
    · intro h; exact List.eq_nil_of_length_eq_zero (by omega)
    · intro h; rw [h]; rfl
  rw [← e]
  clear e
  go_enter Tryz.func79, Tryz.ntmps79
  go_wp2_with fail
  go_ret
  exact ⟨rfl, (Below.refl _ _).alloc (Nat.le_refl _) _⟩

set_option maxHeartbeats 1000000 in
theorem qsign_any (b : Bool) (a1 : Option Addr) (n c1 : Nat) (a2 : Option Addr) (l2 c2 : Nat) (w : World) (hbn : b = true → n ≠ 0) :
    Calls Tryz.prog 37 #[.agg #[.bool b, .slice a1 (dig b32 n).length c1, .slice a2 l2 c2]] w (RetInt (sgnI b n) w) := by
  have hal : Below w.heap.size w (w.alloc (.cells #[.bool b, .slice a1 (dig b32 n).length c1, .slice a2 l2 c2] 45)) := (Below.refl _ _).alloc (Nat.le_refl _) _
  by_cases hn : n = 0
  · obtain rfl : b = false := by cases b; rfl; exact absurd hn (hbn rfl)
    have t : decide (n = 0) = true := by simp [hn]
    have Hs : Hid (sgnI false n = 0) := by show sgnI false n = 0; simp [sgnI, hn]
    clear hn hbn
    go_enter Tryz.func37, Tryz.ntmps37
    go_wp2_with fail
    refine (qzero_any _ _ n _ _ _ _ _).mono ?_
    rw [t]
    rintro e w' ⟨rfl, hb⟩
    go_wp2_with fail
    go_ret
    exact ⟨by rw [Hs.out]; rfl, ext_trans hal hb⟩
  · have t : decide (n = 0) = false := by simp [hn]
    have Hs : Hid (sgnI b n = if b then -1 else 1) := by show sgnI b n = if b then -1 else 1; cases b <;> simp [sgnI, hn]
    have hB0 := blk_new w #[.bool b, .slice a1 (dig b32 n).length c1, .slice a2 l2 c2] 45
    clear hn hbn
    go_enter Tryz.func37, Tryz.ntmps37
    go_wp2_with fail
    refine (qzero_any _ _ n _ _ _ _ _).mono ?_
    rw [t]
    rintro e w' ⟨rfl, hb⟩
    have hx := ext_trans hal hb
    have hB1 := blk_keep hB0 hb (by simp)
    have c0 := blk_cell hB1 0 (.bool b) rfl
    clear hB0 hB1 hal hb
    cases b with
    | true =>
      go_wp2_with fail
      go_ret
      exact ⟨by rw [Hs.out]; rfl, hx⟩
    | false =>
      go_wp2_with fail
      go_ret
      exact ⟨by rw [Hs.out]; rfl, hx⟩

end Go.Proofs.YtmfochplnchgcaaGreat

/- THE WALKS OF THE REFERENCE's FRACTIONS: Neg. -/
namespace Go.Proofs.YtmfochplnchgcaaGreat
open Go.RowKit

theorem neg_lt_num (q : Rat) : decide ((-q).num < 0) = (!decide (q.num < 0) && !decide (q.num.natAbs = 0)) := by
  have e : (-q).num = -q.num := rfl
  rw [e]
  by_cases h : q.num < 0
  · have : ¬ 0 < q.num := by omega
    simp [h, this]
  · by_cases h0 : q.num = 0
    · simp [h0]
    · have : 0 < q.num := by omega
      simp [h, h0, this]

/-- A boxed fraction, held while calls are made that turn nothing old. -/
theorem keep3 {W a b : World} {B1 : Nat} {v0 v1 v2 : Value} (hl1 : B1 < W.heap.size) (hb : Below a.heap.size a b)
    (h : Below W.heap.size W a ∧ a.cell? ⟨B1, 0, none⟩ = some v0 ∧ a.cell? ⟨B1, 1, none⟩ = some v1 ∧ a.cell? ⟨B1, 2, none⟩ = some v2) :
    Below W.heap.size W b ∧ b.cell? ⟨B1, 0, none⟩ = some v0 ∧ b.cell? ⟨B1, 1, none⟩ = some v1 ∧ b.cell? ⟨B1, 2, none⟩ = some v2 := by
  obtain ⟨h0, h1, h2, h3⟩ := h
  have hs := h0.size
  have e : ∀ (B j : Nat), B < W.heap.size → b.cell? ⟨B, j, none⟩ = a.cell? ⟨B, j, none⟩ := fun B j hB => hb.cell (p := ⟨B, j, none⟩) (by show B < a.heap.size; omega)
  exact ⟨ext_trans h0 hb, by rw [e _ _ hl1]; exact h1, by rw [e _ _ hl1]; exact h2, by rw [e _ _ hl1]; exact h3⟩

/-- What lies at an address. -/
def cellOf (w : World) (a : Addr) : Value := (w.cell? a).getD undef
/-- Block B is a fraction's box. -/
def RB (w : World) (B : Nat) : Prop := ∃ b x i j y k l T, w.heap[B]? = some (.cells #[.bool b, .slice x i j, .slice y k l] T (0, 0))
theorem RB.lt {w : World} {B : Nat} (h : RB w B) : B < w.heap.size := by
  obtain ⟨b, x, i, j, y, k, l, T, h⟩ := h; exact blk_lt h
theorem RB.keep {a b : World} {B n : Nat} (h : RB a B) (hb : Below n a b) (hB : B < n) : RB b B := by
  obtain ⟨b, x, i, j, y, k, l, T, h⟩ := h
  exact ⟨b, x, i, j, y, k, l, T, blk_keep h hb hB⟩
theorem RB.store {w : World} {B : Nat} (h : RB w B) (neg : Bool) (x1 y1 : Option Addr) (i1 j1 k1 l1 : Nat) :
    RB (((w.setCell ⟨B, 0, none⟩ (.bool neg)).setCell ⟨B, 1, none⟩ (.slice x1 i1 j1)).setCell ⟨B, 2, none⟩ (.slice y1 k1 l1)) B := by
  obtain ⟨b, x, i, j, y, k, l, T, h⟩ := h
  exact ⟨neg, x1, i1, j1, y1, k1, l1, T, by exact blk_set (blk_set (blk_set h 0 (.bool neg)) 1 (.slice x1 i1 j1)) 2 (.slice y1 k1 l1)⟩
theorem RB.cell {w : World} {B : Nat} (h : RB w B) : w.cell? ⟨B, 0, none⟩ = some (cellOf w ⟨B, 0, none⟩) ∧ w.cell? ⟨B, 1, none⟩ = some (cellOf w ⟨B, 1, none⟩) ∧ w.cell? ⟨B, 2, none⟩ = some (cellOf w ⟨B, 2, none⟩) ∧
    w.frozen? ⟨B, 0, none⟩ = false ∧ w.frozen? ⟨B, 1, none⟩ = false ∧ w.frozen? ⟨B, 2, none⟩ = false := by
  obtain ⟨b, x, i, j, y, k, l, T, h⟩ := h
  have e : ∀ a v, w.cell? a = some v → w.cell? a = some (cellOf w a) := fun a v h => by unfold cellOf; rw [h]; rfl
  exact ⟨e _ _ (blk_cell h 0 (.bool b) rfl), e _ _ (blk_cell h 1 (.slice x i j) rfl), e _ _ (blk_cell h 2 (.slice y k l) rfl), blk_frozen h 0, blk_frozen h 1, blk_frozen h 2⟩

/-- One boxed fraction is held, and the box of the result. -/
theorem hold3 {n : Nat} {w0 a : World} {B1 B : Nat} {v0 v1 v2 : Value} (h0 : Below n w0 a) (h1 : a.cell? ⟨B1, 0, none⟩ = some v0) (h2 : a.cell? ⟨B1, 1, none⟩ = some v1) (h3 : a.cell? ⟨B1, 2, none⟩ = some v2) (hB : RB a B) :
    Below n w0 a ∧ RB a B ∧ a.cell? ⟨B1, 0, none⟩ = some v0 ∧ a.cell? ⟨B1, 1, none⟩ = some v1 ∧ a.cell? ⟨B1, 2, none⟩ = some v2 ∧
      a.cell? ⟨B, 0, none⟩ = some (cellOf a ⟨B, 0, none⟩) ∧ a.cell? ⟨B, 1, none⟩ = some (cellOf a ⟨B, 1, none⟩) ∧ a.cell? ⟨B, 2, none⟩ = some (cellOf a ⟨B, 2, none⟩) ∧
      a.frozen? ⟨B, 0, none⟩ = false ∧ a.frozen? ⟨B, 1, none⟩ = false ∧ a.frozen? ⟨B, 2, none⟩ = false := ⟨h0, hB, h1, h2, h3, hB.cell⟩
theorem hold3_call {n : Nat} {w0 a b : World} {B1 B : Nat} {v0 v1 v2 : Value} {R : Prop} (hn : n ≤ w0.heap.size) (hb : Below a.heap.size a b)
    (h : Below n w0 a ∧ RB a B ∧ a.cell? ⟨B1, 0, none⟩ = some v0 ∧ a.cell? ⟨B1, 1, none⟩ = some v1 ∧ a.cell? ⟨B1, 2, none⟩ = some v2 ∧ R) :
    Below n w0 b ∧ RB b B ∧ b.cell? ⟨B1, 0, none⟩ = some v0 ∧ b.cell? ⟨B1, 1, none⟩ = some v1 ∧ b.cell? ⟨B1, 2, none⟩ = some v2 ∧
      b.cell? ⟨B, 0, none⟩ = some (cellOf b ⟨B, 0, none⟩) ∧ b.cell? ⟨B, 1, none⟩ = some (cellOf b ⟨B, 1, none⟩) ∧ b.cell? ⟨B, 2, none⟩ = some (cellOf b ⟨B, 2, none⟩) ∧
      b.frozen? ⟨B, 0, none⟩ = false ∧ b.frozen? ⟨B, 1, none⟩ = false ∧ b.frozen? ⟨B, 2, none⟩ = false := by
  obtain ⟨h0, hB, h1, h2, h3, _⟩ := h
  have hl := World.block_lt_of_cell? (h := h1)
  have e : ∀ j, b.cell? ⟨B1, j, none⟩ = a.cell? ⟨B1, j, none⟩ := fun j => hb.cell (p := ⟨B1, j, none⟩) hl
  have hs := h0.size
  exact hold3 (h0.trans (hb.mono (by omega))) ((e _).trans h1) ((e _).trans h2) ((e _).trans h3) (hB.keep hb hB.lt)
theorem hold3_store {n : Nat} {w0 a : World} {B1 B : Nat} {v0 v1 v2 : Value} {R : Prop} (neg : Bool) (x1 y1 : Option Addr) (i1 j1 k1 l1 : Nat) (hn : n ≤ B) (hne : B1 ≠ B)
    (h : Below n w0 a ∧ RB a B ∧ a.cell? ⟨B1, 0, none⟩ = some v0 ∧ a.cell? ⟨B1, 1, none⟩ = some v1 ∧ a.cell? ⟨B1, 2, none⟩ = some v2 ∧ R) (b : World)
    (hb : b = ((a.setCell ⟨B, 0, none⟩ (.bool neg)).setCell ⟨B, 1, none⟩ (.slice x1 i1 j1)).setCell ⟨B, 2, none⟩ (.slice y1 k1 l1)) :
    Below n w0 b ∧ RB b B ∧ b.cell? ⟨B1, 0, none⟩ = some v0 ∧ b.cell? ⟨B1, 1, none⟩ = some v1 ∧ b.cell? ⟨B1, 2, none⟩ = some v2 ∧
      b.cell? ⟨B, 0, none⟩ = some (cellOf b ⟨B, 0, none⟩) ∧ b.cell? ⟨B, 1, none⟩ = some (cellOf b ⟨B, 1, none⟩) ∧ b.cell? ⟨B, 2, none⟩ = some (cellOf b ⟨B, 2, none⟩) ∧
      b.frozen? ⟨B, 0, none⟩ = false ∧ b.frozen? ⟨B, 1, none⟩ = false ∧ b.frozen? ⟨B, 2, none⟩ = false := by
  obtain ⟨h0, hB, h1, h2, h3, _⟩ := h
  subst hb
  have e : ∀ j v, a.cell? ⟨B1, j, none⟩ = some v → (((a.setCell ⟨B, 0, none⟩ (.bool neg)).setCell ⟨B, 1, none⟩ (.slice x1 i1 j1)).setCell ⟨B, 2, none⟩ (.slice y1 k1 l1)).cell? ⟨B1, j, none⟩ = some v := fun j v h => by
    rw [World.cell?_setCell_other, World.cell?_setCell_other, World.cell?_setCell_other, h]
    all_goals intro e; cases e; exact hne rfl
  exact hold3 (below_store3 h0 hn) (e _ _ h1) (e _ _ h2) (e _ _ h3) (hB.store ..)

theorem natAbs_neg_num (q : Rat) : (-q).num.natAbs = q.num.natAbs := by show (-q.num).natAbs = _; exact Int.natAbs_neg _
theorem IsR.stored {w : World} {B : Nat} {neg : Bool} {x1 y1 : Option Addr} {i1 j1 k1 l1 n d' : Nat} {q : Rat}
    (hB : RB w B) (h1 : IsNat .u32 b32 w (.slice x1 i1 j1) n) (h2 : IsNat .u32 b32 w (.slice y1 k1 l1) d') (hd : IsDen d' q.den)
    (hn : decide (q.num < 0) = neg) (hm : q.num.natAbs = n) :
    IsR (((w.setCell ⟨B, 0, none⟩ (.bool neg)).setCell ⟨B, 1, none⟩ (.slice x1 i1 j1)).setCell ⟨B, 2, none⟩ (.slice y1 k1 l1)) (.agg #[.bool neg, .slice x1 i1 j1, .slice y1 k1 l1]) q := by
  subst hn hm
  obtain ⟨b, x, i, j, y, k, l, T, hB⟩ := hB
  exact ⟨_, _, d', rfl, store3 hB h1, store3 hB h2, hd⟩

set_option maxHeartbeats 2000000 in
theorem qneg_any (x : Rat) (vx : Value) (w : World) (hx : IsR w vx x) : Calls Tryz.prog 81 #[vx] w (RetR (-x) w) := by
  obtain ⟨d', a1, c1, a2, c2, rfl, n1, n2, hden⟩ := hx.opened
  have N1 := Lib.hid n1
  have N2 := Lib.hid n2
  have He := Lib.hid (neg_lt_num x)
  clear hx n1 n2
  go_enter Tryz.func81, Tryz.ntmps81
  go_wp2_with fail
  generalize hneg : decide (x.num < 0) = neg at *
  have hal : Below w.heap.size w ((w.alloc (.cells #[.bool neg, .slice a1 (dig b32 x.num.natAbs).length c1, .slice a2 (dig b32 d').length c2] 45)).alloc (.cells #[.bool false, .slice none 0 0, .slice none 0 0] 45)) :=
    ((Below.refl _ _).alloc (Nat.le_refl _) _).alloc (by simp) _
  have hB1 := (blk_keep (blk_new w #[.bool neg, .slice a1 (dig b32 x.num.natAbs).length c1, .slice a2 (dig b32 d').length c2] 45) ((Below.refl _ _).alloc (Nat.le_refl _) (.cells #[.bool false, .slice none 0 0, .slice none 0 0] 45)) (by simp))
  have hB2 := blk_new (w.alloc (.cells #[.bool neg, .slice a1 (dig b32 x.num.natAbs).length c1, .slice a2 (dig b32 d').length c2] 45)) #[.bool false, .slice none 0 0, .slice none 0 0] 45
  rw [World.size_alloc] at hB2
  generalize ((w.alloc (.cells #[.bool neg, .slice a1 (dig b32 x.num.natAbs).length c1, .slice a2 (dig b32 d').length c2] 45)).alloc (.cells #[.bool false, .slice none 0 0, .slice none 0 0] 45)) = W at *
  have p0 := blk_cell hB1 0 (.bool neg) rfl
  have p1 := blk_cell hB1 1 (.slice a1 (dig b32 x.num.natAbs).length c1) rfl
  have p2 := blk_cell hB1 2 (.slice a2 (dig b32 d').length c2) rfl
  have hl1 := blk_lt hB1
  have hl2 := blk_lt hB2
  have e0 := blk_cell hB2 0 (.bool false) rfl
  have e1 := blk_cell hB2 1 (.slice none 0 0) rfl
  have e2 := blk_cell hB2 2 (.slice none 0 0) rfl
  have f0 := blk_frozen hB2 0
  have f1 := blk_frozen hB2 1
  have f2 := blk_frozen hB2 2
  have HB : Hid (RB W (w.heap.size + 1)) := ⟨false, none, 0, 0, none, 0, 0, _, hB2⟩
  clear hB1 hB2
  have hW : Below w.heap.size w W.drew := hal.drew
  cases neg with
  | true =>
    go_region
    go_wp2_with fail
    refine bodyPost_ret (v := .agg #[.bool false, .slice a1 (dig b32 x.num.natAbs).length _, .slice a2 (dig b32 d').length _]) (by simp [results, Tryz.results81, go_sem, e0, e1, e2]; first | done | exact ⟨rfl, rfl⟩ | rfl) rfl ⟨_, rfl, ?_, below_store3 hW (by omega)⟩
    exact IsR.stored (w := W.drew) HB.out (N1.out.below hW) (N2.out.below hW) hden He.out (natAbs_neg_num x)
  | false =>
    by_cases h0 : x.num.natAbs = 0
    · have t0 : Hid (decide (x.num.natAbs = 0) = true) := decide_eq_true h0
      clear h0
      go_region_held3 (fun w' => Below w.heap.size w w' ∧ RB w' (w.heap.size + 1) ∧ w'.cell? ⟨w.heap.size, 0, none⟩ = some (.bool false) ∧ w'.cell? ⟨w.heap.size, 1, none⟩ = some (.slice a1 (dig b32 x.num.natAbs).length c1) ∧ w'.cell? ⟨w.heap.size, 2, none⟩ = some (.slice a2 (dig b32 d').length c2) ∧
          w'.cell? ⟨w.heap.size + 1, 0, none⟩ = some (cellOf w' ⟨w.heap.size + 1, 0, none⟩) ∧ w'.cell? ⟨w.heap.size + 1, 1, none⟩ = some (cellOf w' ⟨w.heap.size + 1, 1, none⟩) ∧ w'.cell? ⟨w.heap.size + 1, 2, none⟩ = some (cellOf w' ⟨w.heap.size + 1, 2, none⟩) ∧
          w'.frozen? ⟨w.heap.size + 1, 0, none⟩ = false ∧ w'.frozen? ⟨w.heap.size + 1, 1, none⟩ = false ∧ w'.frozen? ⟨w.heap.size + 1, 2, none⟩ = false)
        (first | exact hold3 hW p0 p1 p2 HB.out | exact hold3_call (Nat.le_refl _) hb' (by assumption) | exact hold3_store _ _ _ _ _ _ _ (Nat.le_succ _) (Nat.ne_of_lt (Nat.lt_succ_self _)) (by assumption) _ rfl)
        (first | (go_at_call 79; refine (qzero_any _ _ x.num.natAbs _ _ _ _ _).mono ?_; rw [t0.out]; rintro e w' ⟨rfl, hb'⟩))
      have hRB := RB.keep (a := W.drew) HB.out hb' hl2
      obtain ⟨c0, c1, c2, f0', f1', f2'⟩ := hRB.cell
      have hx := hW.trans (hb'.mono hW.size)
      have hBl := hRB.lt
      go_wp2_with fail
      refine bodyPost_ret (v := .agg #[.bool false, .slice a1 (dig b32 x.num.natAbs).length _, .slice a2 (dig b32 d').length _]) (by simp [results, Tryz.results81, go_sem, c0, c1, c2]; first | done | exact ⟨rfl, rfl⟩ | rfl) rfl ⟨_, rfl, ?_, below_store3 hx (by omega)⟩
      exact IsR.stored hRB (N1.out.below hx) (N2.out.below hx) hden (by rw [He.out, t0.out]; rfl) (natAbs_neg_num x)
    · have t0 : Hid (decide (x.num.natAbs = 0) = false) := decide_eq_false h0
      clear h0
      go_region_held3 (fun w' => Below w.heap.size w w' ∧ RB w' (w.heap.size + 1) ∧ w'.cell? ⟨w.heap.size, 0, none⟩ = some (.bool false) ∧ w'.cell? ⟨w.heap.size, 1, none⟩ = some (.slice a1 (dig b32 x.num.natAbs).length c1) ∧ w'.cell? ⟨w.heap.size, 2, none⟩ = some (.slice a2 (dig b32 d').length c2) ∧
          w'.cell? ⟨w.heap.size + 1, 0, none⟩ = some (cellOf w' ⟨w.heap.size + 1, 0, none⟩) ∧ w'.cell? ⟨w.heap.size + 1, 1, none⟩ = some (cellOf w' ⟨w.heap.size + 1, 1, none⟩) ∧ w'.cell? ⟨w.heap.size + 1, 2, none⟩ = some (cellOf w' ⟨w.heap.size + 1, 2, none⟩) ∧
          w'.frozen? ⟨w.heap.size + 1, 0, none⟩ = false ∧ w'.frozen? ⟨w.heap.size + 1, 1, none⟩ = false ∧ w'.frozen? ⟨w.heap.size + 1, 2, none⟩ = false)
        (first | exact hold3 hW p0 p1 p2 HB.out | exact hold3_call (Nat.le_refl _) hb' (by assumption) | exact hold3_store _ _ _ _ _ _ _ (Nat.le_succ _) (Nat.ne_of_lt (Nat.lt_succ_self _)) (by assumption) _ rfl)
        (first | (go_at_call 79; refine (qzero_any _ _ x.num.natAbs _ _ _ _ _).mono ?_; rw [t0.out]; rintro e w' ⟨rfl, hb'⟩))
      have hRB := RB.keep (a := W.drew) HB.out hb' hl2
      obtain ⟨c0, c1, c2, f0', f1', f2'⟩ := hRB.cell
      have hx := hW.trans (hb'.mono hW.size)
      have hBl := hRB.lt
      go_wp2_with fail
      refine bodyPost_ret (v := .agg #[.bool true, .slice a1 (dig b32 x.num.natAbs).length _, .slice a2 (dig b32 d').length _]) (by simp [results, Tryz.results81, go_sem, c0, c1, c2]; first | done | exact ⟨rfl, rfl⟩ | rfl) rfl ⟨_, rfl, ?_, below_store3 hx (by omega)⟩
      exact IsR.stored hRB (N1.out.below hx) (N2.out.below hx) hden (by rw [He.out, t0.out]; rfl) (natAbs_neg_num x)

end Go.Proofs.YtmfochplnchgcaaGreat

/- THE WALKS OF THE REFERENCE's FRACTIONS: Mul. -/
namespace Go.Proofs.YtmfochplnchgcaaGreat
open Go.RowKit

theorem hold6 {n : Nat} {w0 a : World} {B1 B2 B : Nat} {v0 v1 v2 v3 v4 v5 : Value} (h0 : Below n w0 a) (h1 : a.cell? ⟨B1, 0, none⟩ = some v0) (h2 : a.cell? ⟨B1, 1, none⟩ = some v1) (h3 : a.cell? ⟨B1, 2, none⟩ = some v2)
    (h4 : a.cell? ⟨B2, 0, none⟩ = some v3) (h5 : a.cell? ⟨B2, 1, none⟩ = some v4) (h6 : a.cell? ⟨B2, 2, none⟩ = some v5) (hB : RB a B) :
    Below n w0 a ∧ RB a B ∧ a.cell? ⟨B1, 0, none⟩ = some v0 ∧ a.cell? ⟨B1, 1, none⟩ = some v1 ∧ a.cell? ⟨B1, 2, none⟩ = some v2 ∧
      a.cell? ⟨B2, 0, none⟩ = some v3 ∧ a.cell? ⟨B2, 1, none⟩ = some v4 ∧ a.cell? ⟨B2, 2, none⟩ = some v5 ∧
      a.cell? ⟨B, 0, none⟩ = some (cellOf a ⟨B, 0, none⟩) ∧ a.cell? ⟨B, 1, none⟩ = some (cellOf a ⟨B, 1, none⟩) ∧ a.cell? ⟨B, 2, none⟩ = some (cellOf a ⟨B, 2, none⟩) ∧
      a.frozen? ⟨B, 0, none⟩ = false ∧ a.frozen? ⟨B, 1, none⟩ = false ∧ a.frozen? ⟨B, 2, none⟩ = false := ⟨h0, hB, h1, h2, h3, h4, h5, h6, hB.cell⟩
theorem hold6_call {n : Nat} {w0 a b : World} {B1 B2 B : Nat} {v0 v1 v2 v3 v4 v5 : Value} {R : Prop} (hn : n ≤ w0.heap.size) (hb : Below a.heap.size a b)
    (h : Below n w0 a ∧ RB a B ∧ a.cell? ⟨B1, 0, none⟩ = some v0 ∧ a.cell? ⟨B1, 1, none⟩ = some v1 ∧ a.cell? ⟨B1, 2, none⟩ = some v2 ∧
      a.cell? ⟨B2, 0, none⟩ = some v3 ∧ a.cell? ⟨B2, 1, none⟩ = some v4 ∧ a.cell? ⟨B2, 2, none⟩ = some v5 ∧ R) :
    Below n w0 b ∧ RB b B ∧ b.cell? ⟨B1, 0, none⟩ = some v0 ∧ b.cell? ⟨B1, 1, none⟩ = some v1 ∧ b.cell? ⟨B1, 2, none⟩ = some v2 ∧
      b.cell? ⟨B2, 0, none⟩ = some v3 ∧ b.cell? ⟨B2, 1, none⟩ = some v4 ∧ b.cell? ⟨B2, 2, none⟩ = some v5 ∧
      b.cell? ⟨B, 0, none⟩ = some (cellOf b ⟨B, 0, none⟩) ∧ b.cell? ⟨B, 1, none⟩ = some (cellOf b ⟨B, 1, none⟩) ∧ b.cell? ⟨B, 2, none⟩ = some (cellOf b ⟨B, 2, none⟩) ∧
      b.frozen? ⟨B, 0, none⟩ = false ∧ b.frozen? ⟨B, 1, none⟩ = false ∧ b.frozen? ⟨B, 2, none⟩ = false := by
  obtain ⟨h0, hB, h1, h2, h3, h4, h5, h6, _⟩ := h
  have e : ∀ B1 j v, a.cell? ⟨B1, j, none⟩ = some v → b.cell? ⟨B1, j, none⟩ = some v := fun B1 j v h => (hb.cell (p := ⟨B1, j, none⟩) (World.block_lt_of_cell? (h := h))).trans h
  have hs := h0.size
  exact hold6 (h0.trans (hb.mono (by omega))) (e _ _ _ h1) (e _ _ _ h2) (e _ _ _ h3) (e _ _ _ h4) (e _ _ _ h5) (e _ _ _ h6) (hB.keep hb hB.lt)
theorem hold6_store {n : Nat} {w0 a : World} {B1 B2 B : Nat} {v0 v1 v2 v3 v4 v5 : Value} {R : Prop} (neg : Bool) (x1 y1 : Option Addr) (i1 j1 k1 l1 : Nat) (hn : n ≤ B) (hne : B1 ≠ B) (hne2 : B2 ≠ B)
    (h : Below n w0 a ∧ RB a B ∧ a.cell? ⟨B1, 0, none⟩ = some v0 ∧ a.cell? ⟨B1, 1, none⟩ = some v1 ∧ a.cell? ⟨B1, 2, none⟩ = some v2 ∧
      a.cell? ⟨B2, 0, none⟩ = some v3 ∧ a.cell? ⟨B2, 1, none⟩ = some v4 ∧ a.cell? ⟨B2, 2, none⟩ = some v5 ∧ R) (b : World)
    (hb : b = ((a.setCell ⟨B, 0, none⟩ (.bool neg)).setCell ⟨B, 1, none⟩ (.slice x1 i1 j1)).setCell ⟨B, 2, none⟩ (.slice y1 k1 l1)) :
    Below n w0 b ∧ RB b B ∧ b.cell? ⟨B1, 0, none⟩ = some v0 ∧ b.cell? ⟨B1, 1, none⟩ = some v1 ∧ b.cell? ⟨B1, 2, none⟩ = some v2 ∧
      b.cell? ⟨B2, 0, none⟩ = some v3 ∧ b.cell? ⟨B2, 1, none⟩ = some v4 ∧ b.cell? ⟨B2, 2, none⟩ = some v5 ∧
      b.cell? ⟨B, 0, none⟩ = some (cellOf b ⟨B, 0, none⟩) ∧ b.cell? ⟨B, 1, none⟩ = some (cellOf b ⟨B, 1, none⟩) ∧ b.cell? ⟨B, 2, none⟩ = some (cellOf b ⟨B, 2, none⟩) ∧
      b.frozen? ⟨B, 0, none⟩ = false ∧ b.frozen? ⟨B, 1, none⟩ = false ∧ b.frozen? ⟨B, 2, none⟩ = false := by
  obtain ⟨h0, hB, h1, h2, h3, h4, h5, h6, _⟩ := h
  subst hb
  have e : ∀ B1 j v, B1 ≠ B → a.cell? ⟨B1, j, none⟩ = some v → (((a.setCell ⟨B, 0, none⟩ (.bool neg)).setCell ⟨B, 1, none⟩ (.slice x1 i1 j1)).setCell ⟨B, 2, none⟩ (.slice y1 k1 l1)).cell? ⟨B1, j, none⟩ = some v := fun B1 j v hne h => by
    rw [World.cell?_setCell_other, World.cell?_setCell_other, World.cell?_setCell_other, h]
    all_goals intro e; cases e; exact hne rfl
  exact hold6 (below_store3 h0 hn) (e _ _ _ hne h1) (e _ _ _ hne h2) (e _ _ _ hne h3) (e _ _ _ hne2 h4) (e _ _ _ hne2 h5) (e _ _ _ hne2 h6) (hB.store ..)

/-- Three boxes laid one behind the other. -/
theorem boxes3 (w : World) (A1 A2 A3 : Array Value) (T : Nat) (W : World) (hW : W = ((w.alloc (.cells A1 T)).alloc (.cells A2 T)).alloc (.cells A3 T)) :
    Below w.heap.size w W ∧ W.heap[w.heap.size]? = some (.cells A1 T (0, 0)) ∧ W.heap[w.heap.size + 1]? = some (.cells A2 T (0, 0)) ∧ W.heap[w.heap.size + 2]? = some (.cells A3 T (0, 0)) := by
  subst hW
  refine ⟨(((Below.refl _ _).alloc (Nat.le_refl _) _).alloc (by simp) _).alloc (by simp; omega) _, ?_, ?_, ?_⟩
  · rw [heap_alloc_old _ _ (by simp; omega), heap_alloc_old _ _ (by simp)]; exact blk_new w A1 T
  · rw [heap_alloc_old _ _ (by simp)]; have := blk_new (w.alloc (.cells A1 T)) A2 T; rw [World.size_alloc] at this; exact this
  · have := blk_new ((w.alloc (.cells A1 T)).alloc (.cells A2 T)) A3 T; rw [World.size_alloc, World.size_alloc] at this; exact this

def szQ (q : Rat) (k : Nat) : Prop := (dig b32 q.num.natAbs).length ≤ k ∧ (dig b32 q.den).length ≤ k

theorem sg_mul (a b : Bool) (m n : Nat) : sg (!(a == b)) (m * n) = sg a m * sg b n := by
  cases a <;> cases b <;> simp [sg, Int.neg_mul, Int.mul_neg]
theorem sg_self (q : Rat) : sg (decide (q.num < 0)) q.num.natAbs = q.num := by
  unfold sg
  by_cases h : q.num < 0 <;> simp [h] <;> omega
theorem mkQ_mul (x y : Rat) : mkQ (!(decide (x.num < 0) == decide (y.num < 0))) (x.num.natAbs * y.num.natAbs) (x.den * y.den) = x * y := by
  unfold mkQ
  rw [sg_mul, sg_self, sg_self, Rat.mul_def, Rat.normalize_eq_mkRat]

set_option maxHeartbeats 2000000 in
theorem qmul_any (x y : Rat) (vx vy : Value) (w : World) (hx : IsR w vx x) (hy : IsR w vy y) (hlx : szQ x 34359738368) (hly : szQ y 34359738368) : Calls Tryz.prog 40 #[vx, vy] w (RetR (x * y) w) := by
  obtain ⟨d1, a1, c1, a2, c2, rfl, n1, n2, den1⟩ := hx.opened
  obtain ⟨d2, a3, c3, a4, c4, rfl, n3, n4, den2⟩ := hy.opened
  have N1 := Lib.hid n1
  have N2 := Lib.hid n2
  have N3 := Lib.hid n3
  have N4 := Lib.hid n4
  have He := Lib.hid (mkQ_mul x y)
  have HLX := Lib.hid hlx
  have HLY := Lib.hid hly
  have D1 := Lib.hid den1
  have D2 := Lib.hid den2
  clear hx hy n1 n2 n3 n4 hlx hly den1 den2
  go_enter Tryz.func40, Tryz.ntmps40
  go_wp2_with fail
  generalize hsx : decide (x.num < 0) = sx at *
  generalize hsy : decide (y.num < 0) = sy at *
  clear hsx hsy
  generalize hW0 : ((w.alloc (.cells #[.bool sx, .slice a1 (dig b32 x.num.natAbs).length c1, .slice a2 (dig b32 d1).length c2] 45)).alloc (.cells #[.bool sy, .slice a3 (dig b32 y.num.natAbs).length c3, .slice a4 (dig b32 d2).length c4] 45)).alloc (.cells #[.bool false, .slice none 0 0, .slice none 0 0] 45) = W at *
  obtain ⟨hal, hB1, hB2, hB3⟩ := boxes3 w _ _ _ _ W hW0.symm
  clear hW0
  have hW : Below w.heap.size w W.drew := hal.drew
  have p0 := blk_cell hB1 0 (.bool sx) rfl
  have p1 := blk_cell hB1 1 (.slice a1 (dig b32 x.num.natAbs).length c1) rfl
  have p2 := blk_cell hB1 2 (.slice a2 (dig b32 d1).length c2) rfl
  have r0 := blk_cell hB2 0 (.bool sy) rfl
  have r1 := blk_cell hB2 1 (.slice a3 (dig b32 y.num.natAbs).length c3) rfl
  have r2 := blk_cell hB2 2 (.slice a4 (dig b32 d2).length c4) rfl
  have HB : Hid (RB W (w.heap.size + 2)) := ⟨false, none, 0, 0, none, 0, 0, _, hB3⟩
  have hl3 := blk_lt hB3
  clear hB1 hB2 hB3
  go_region_held3 (fun w' => Below w.heap.size w w' ∧ RB w' (w.heap.size + 2) ∧ w'.cell? ⟨w.heap.size, 0, none⟩ = some (.bool sx) ∧ w'.cell? ⟨w.heap.size, 1, none⟩ = some (.slice a1 (dig b32 x.num.natAbs).length c1) ∧ w'.cell? ⟨w.heap.size, 2, none⟩ = some (.slice a2 (dig b32 d1).length c2) ∧ w'.cell? ⟨w.heap.size + 1, 0, none⟩ = some (.bool sy) ∧ w'.cell? ⟨w.heap.size + 1, 1, none⟩ = some (.slice a3 (dig b32 y.num.natAbs).length c3) ∧ w'.cell? ⟨w.heap.size + 1, 2, none⟩ = some (.slice a4 (dig b32 d2).length c4) ∧ w'.cell? ⟨w.heap.size + 2, 0, none⟩ = some (cellOf w' ⟨w.heap.size + 2, 0, none⟩) ∧ w'.cell? ⟨w.heap.size + 2, 1, none⟩ = some (cellOf w' ⟨w.heap.size + 2, 1, none⟩) ∧ w'.cell? ⟨w.heap.size + 2, 2, none⟩ = some (cellOf w' ⟨w.heap.size + 2, 2, none⟩) ∧ w'.frozen? ⟨w.heap.size + 2, 0, none⟩ = false ∧ w'.frozen? ⟨w.heap.size + 2, 1, none⟩ = false ∧ w'.frozen? ⟨w.heap.size + 2, 2, none⟩ = false)
    (first | exact hold6 hW p0 p1 p2 r0 r1 r2 HB.out | exact hold6_call (Nat.le_refl _) hbE (by assumption) | exact hold6_call (Nat.le_refl _) hbD (by assumption) | exact hold6_call (Nat.le_refl _) hbC (by assumption) | exact hold6_call (Nat.le_refl _) hbB (by assumption) | exact hold6_call (Nat.le_refl _) hbA (by assumption) | exact hold6_store _ _ _ _ _ _ _ (by omega) (by omega) (by omega) (by assumption) _ rfl)
    (first
      | (go_at_call_of 83 (Value.slice a1 (dig b32 x.num.natAbs).length c1); refine (product_any x.num.natAbs y.num.natAbs _ _ _ (N1.out.below (And.left (by assumption))) (N3.out.below (And.left (by assumption))) (by have := HLX.out.1; have := HLY.out.1; omega)).mono ?_; rintro e wA ⟨vA, rfl, hvA, hbA⟩)
      | (go_at_call_of 84 (Value.slice a2 (dig b32 d1).length c2); refine (qunder_any d1 x.den _ _ _ _ _ _ _ (N2.out.below (And.left (by assumption))) D1.out x.den_nz).mono ?_; rintro e wB ⟨vB, rfl, hvB, hbB⟩)
      | (go_at_call_of 84 (Value.slice a4 (dig b32 d2).length c4); refine (qunder_any d2 y.den _ _ _ _ _ _ _ (N4.out.below (And.left (by assumption))) D2.out y.den_nz).mono ?_; rintro e wC ⟨vC, rfl, hvC, hbC⟩)
      | (go_at_call 83; refine (product_any x.den y.den _ _ _ (hvB.below hbC) hvC (by have := HLX.out.2; have := HLY.out.2; omega)).mono ?_; rintro e wD ⟨vD, rfl, hvD, hbD⟩)
      | (go_at_call 82; refine (made_any _ (x.num.natAbs * y.num.natAbs) (x.den * y.den) _ _ _ (hvA.below (ext_trans hbB (ext_trans hbC hbD))) hvD (Nat.mul_pos x.den_pos y.den_pos) (by have := dig_length_mul b32_two x.num.natAbs y.num.natAbs; have := HLX.out.1; have := HLY.out.1; omega) (by have := dig_length_mul b32_two x.den y.den; have := HLX.out.2; have := HLY.out.2; omega)).mono ?_; rintro e wE ⟨vE, rfl, hvE, hbE⟩; obtain ⟨d5, a5, c5, a6, c6, rfl, n5, n6, D5⟩ := IsR.opened hvE))
  have hE := ext_trans (ext_trans (ext_trans (ext_trans hbA hbB) hbC) hbD) hbE
  have hRB := RB.keep (a := W.drew) HB.out hE hl3
  obtain ⟨g0, g1, g2, f0', f1', f2'⟩ := hRB.cell
  have hx := hW.trans (hE.mono hW.size)
  have hBl := hRB.lt
  have He' := He.out
  generalize mkQ (!sx == sy) (x.num.natAbs * y.num.natAbs) (x.den * y.den) = q at *
  subst He'
  go_wp2_with fail
  refine bodyPost_ret (v := .agg #[.bool (decide ((x * y).num < 0)), .slice a5 (dig b32 (x * y).num.natAbs).length _, .slice a6 (dig b32 d5).length _]) (by simp [results, Tryz.results40, go_sem, g0, g1, g2]; first | done | exact ⟨rfl, rfl⟩ | rfl) rfl ⟨_, rfl, ?_, below_store3 hx (by omega)⟩
  exact IsR.stored hRB n5 n6 D5 rfl rfl

end Go.Proofs.YtmfochplnchgcaaGreat

/- THE WALKS OF THE REFERENCE's FRACTIONS: Add. -/
namespace Go.Proofs.YtmfochplnchgcaaGreat
open Go.RowKit

theorem mkQ_add (x y : Rat) (s : Bool) (n : Nat) (h : sg s n = sg (decide (x.num < 0)) (x.num.natAbs * y.den) + sg (decide (y.num < 0)) (y.num.natAbs * x.den)) : mkQ s n (x.den * y.den) = x + y := by
  unfold mkQ
  rw [h, Rat.add_def, Rat.normalize_eq_mkRat]
  have e : ∀ (b : Bool) (m k : Nat), sg b (m * k) = sg b m * (k : Int) := fun b m k => by cases b <;> simp [sg, Int.neg_mul]
  rw [e, e, sg_self, sg_self]
theorem sg_add (s : Bool) (m n : Nat) : sg s (m + n) = sg s m + sg s n := by
  cases s <;> simp [sg] <;> omega
theorem sg_sub {s t : Bool} (h : (s == t) = false) {m n : Nat} (hle : n ≤ m) : sg s (m - n) = sg s m + sg t n := by
  cases s <;> cases t <;> simp [sg] at h ⊢ <;> omega

set_option maxRecDepth 100000 in
set_option maxHeartbeats 4000000 in
theorem qadd_any (x y : Rat) (vx vy : Value) (w : World) (hx : IsR w vx x) (hy : IsR w vy y) (hlx : szQ x 17179869184) (hly : szQ y 17179869184) : Calls Tryz.prog 80 #[vx, vy] w (RetR (x + y) w) := by
  obtain ⟨d1, a1, c1, a2, c2, rfl, n1, n2, den1⟩ := hx.opened
  obtain ⟨d2, a3, c3, a4, c4, rfl, n3, n4, den2⟩ := hy.opened
  have N1 := Lib.hid n1
  have N2 := Lib.hid n2
  have N3 := Lib.hid n3
  have N4 := Lib.hid n4
  have He := Lib.hid (mkQ_add x y)
  have D1 := Lib.hid den1
  have D2 := Lib.hid den2
  have hA := dig_length_mul b32_two x.num.natAbs y.den
  have hB := dig_length_mul b32_two y.num.natAbs x.den
  have hC := dig_length_mul b32_two x.den y.den
  have HA : Hid ((dig b32 (x.num.natAbs * y.den)).length ≤ 34359738368) := by have := hlx.1; have := hly.2; show _ ≤ _; omega
  have HBB : Hid ((dig b32 (y.num.natAbs * x.den)).length ≤ 34359738368) := by have := hlx.2; have := hly.1; show _ ≤ _; omega
  have HC : Hid ((dig b32 (x.den * y.den)).length ≤ 34359738368) := by have := hlx.2; have := hly.2; show _ ≤ _; omega
  have hS := dig_length_add b32_two (x.num.natAbs * y.den) (y.num.natAbs * x.den) 34359738368 HA.out HBB.out
  have HS := Lib.hid hS
  have HP := Lib.hid (Nat.mul_pos x.den_pos y.den_pos)
  have HLX := Lib.hid hlx
  have HLY := Lib.hid hly
  clear hx hy n1 n2 n3 n4 hlx hly den1 den2 hA hB hC hS
  go_enter Tryz.func80, Tryz.ntmps80
  go_wp2_with fail
  generalize hsx : decide (x.num < 0) = sx at *
  generalize hsy : decide (y.num < 0) = sy at *
  clear hsx hsy
  generalize hW0 : ((w.alloc (.cells #[.bool sx, .slice a1 (dig b32 x.num.natAbs).length c1, .slice a2 (dig b32 d1).length c2] 45)).alloc (.cells #[.bool sy, .slice a3 (dig b32 y.num.natAbs).length c3, .slice a4 (dig b32 d2).length c4] 45)).alloc (.cells #[.bool false, .slice none 0 0, .slice none 0 0] 45) = W at *
  obtain ⟨hal, hB1, hB2, hB3⟩ := boxes3 w _ _ _ _ W hW0.symm
  clear hW0
  have hW : Below w.heap.size w W.drew := hal.drew
  have p0 := blk_cell hB1 0 (.bool sx) rfl
  have p1 := blk_cell hB1 1 (.slice a1 (dig b32 x.num.natAbs).length c1) rfl
  have p2 := blk_cell hB1 2 (.slice a2 (dig b32 d1).length c2) rfl
  have r0 := blk_cell hB2 0 (.bool sy) rfl
  have r1 := blk_cell hB2 1 (.slice a3 (dig b32 y.num.natAbs).length c3) rfl
  have r2 := blk_cell hB2 2 (.slice a4 (dig b32 d2).length c4) rfl
  have HB : Hid (RB W (w.heap.size + 2)) := ⟨false, none, 0, 0, none, 0, 0, _, hB3⟩
  have hl3 := blk_lt hB3
  clear hB1 hB2 hB3
  go_region_held3 (fun w' => Below w.heap.size w w' ∧ RB w' (w.heap.size + 2) ∧ w'.cell? ⟨w.heap.size, 0, none⟩ = some (.bool sx) ∧ w'.cell? ⟨w.heap.size, 1, none⟩ = some (.slice a1 (dig b32 x.num.natAbs).length c1) ∧ w'.cell? ⟨w.heap.size, 2, none⟩ = some (.slice a2 (dig b32 d1).length c2) ∧ w'.cell? ⟨w.heap.size + 1, 0, none⟩ = some (.bool sy) ∧ w'.cell? ⟨w.heap.size + 1, 1, none⟩ = some (.slice a3 (dig b32 y.num.natAbs).length c3) ∧ w'.cell? ⟨w.heap.size + 1, 2, none⟩ = some (.slice a4 (dig b32 d2).length c4) ∧ w'.cell? ⟨w.heap.size + 2, 0, none⟩ = some (cellOf w' ⟨w.heap.size + 2, 0, none⟩) ∧ w'.cell? ⟨w.heap.size + 2, 1, none⟩ = some (cellOf w' ⟨w.heap.size + 2, 1, none⟩) ∧ w'.cell? ⟨w.heap.size + 2, 2, none⟩ = some (cellOf w' ⟨w.heap.size + 2, 2, none⟩) ∧ w'.frozen? ⟨w.heap.size + 2, 0, none⟩ = false ∧ w'.frozen? ⟨w.heap.size + 2, 1, none⟩ = false ∧ w'.frozen? ⟨w.heap.size + 2, 2, none⟩ = false)
    (first | exact hold6 hW p0 p1 p2 r0 r1 r2 HB.out | exact hold6_call (Nat.le_refl _) hbD (by assumption) | exact hold6_call (Nat.le_refl _) hbC (by assumption) | exact hold6_call (Nat.le_refl _) hbB (by assumption) | exact hold6_call (Nat.le_refl _) hbA (by assumption))
    (first
      | (go_at_call_of 84 (Value.slice a4 (dig b32 d2).length c4); refine (qunder_any d2 y.den _ _ _ _ _ _ _ (N4.out.below (And.left (by assumption))) D2.out y.den_nz).mono ?_; rintro e wA ⟨vA, rfl, hvA, hbA⟩)
      | (go_at_call_of 83 (Value.slice a1 (dig b32 x.num.natAbs).length c1); refine (product_any x.num.natAbs y.den _ _ _ (N1.out.below (And.left (by assumption))) hvA (by have := HLX.out.1; have := HLY.out.2; omega)).mono ?_; rintro e wB ⟨vB, rfl, hvB, hbB⟩)
      | (go_at_call_of 84 (Value.slice a2 (dig b32 d1).length c2); refine (qunder_any d1 x.den _ _ _ _ _ _ _ (N2.out.below (And.left (by assumption))) D1.out x.den_nz).mono ?_; rintro e wC ⟨vC, rfl, hvC, hbC⟩)
      | (go_at_call_of 83 (Value.slice a3 (dig b32 y.num.natAbs).length c3); refine (product_any y.num.natAbs x.den _ _ _ (N3.out.below (And.left (by assumption))) hvC (by have := HLX.out.2; have := HLY.out.1; omega)).mono ?_; rintro e wD ⟨vD, rfl, hvD, hbD⟩))
  rename_i hS1
  have hD := ext_trans (ext_trans (ext_trans hbA hbB) hbC) hbD
  have HB1 : Hid (RB wD (w.heap.size + 2)) := RB.keep (a := W.drew) HB.out hD hl3
  have hl31 := HB1.out.lt
  have hB1 := Lib.hid (hvB.below (ext_trans hbC hbD))
  have hD1 := Lib.hid hvD
  obtain ⟨hWD, -, p0', p1', p2', r0', r1', r2', -⟩ := hS1
  clear p0 p1 p2 r0 r1 r2 hbA hbB hbC hbD hvA hvB hvC hvD hD HB hW hal hl3
  replace p0 := p0'
  replace p1 := p1'
  replace p2 := p2'
  replace r0 := r0'
  replace r1 := r1'
  replace r2 := r2'
  have hW2 : Below w.heap.size w wD.drew := hWD.drew
  clear p0' p1' p2' r0' r1' r2'
  go_wp2_with fail
  go_region_held3 (fun w' => Below w.heap.size w w' ∧ RB w' (w.heap.size + 2) ∧ w'.cell? ⟨w.heap.size, 0, none⟩ = some (.bool sx) ∧ w'.cell? ⟨w.heap.size, 1, none⟩ = some (.slice a1 (dig b32 x.num.natAbs).length c1) ∧ w'.cell? ⟨w.heap.size, 2, none⟩ = some (.slice a2 (dig b32 d1).length c2) ∧ w'.cell? ⟨w.heap.size + 1, 0, none⟩ = some (.bool sy) ∧ w'.cell? ⟨w.heap.size + 1, 1, none⟩ = some (.slice a3 (dig b32 y.num.natAbs).length c3) ∧ w'.cell? ⟨w.heap.size + 1, 2, none⟩ = some (.slice a4 (dig b32 d2).length c4) ∧ w'.cell? ⟨w.heap.size + 2, 0, none⟩ = some (cellOf w' ⟨w.heap.size + 2, 0, none⟩) ∧ w'.cell? ⟨w.heap.size + 2, 1, none⟩ = some (cellOf w' ⟨w.heap.size + 2, 1, none⟩) ∧ w'.cell? ⟨w.heap.size + 2, 2, none⟩ = some (cellOf w' ⟨w.heap.size + 2, 2, none⟩) ∧ w'.frozen? ⟨w.heap.size + 2, 0, none⟩ = false ∧ w'.frozen? ⟨w.heap.size + 2, 1, none⟩ = false ∧ w'.frozen? ⟨w.heap.size + 2, 2, none⟩ = false)
    (first | exact hold6 hW2 p0 p1 p2 r0 r1 r2 HB1.out | exact hold6_call (Nat.le_refl _) hbC (by assumption) | exact hold6_call (Nat.le_refl _) hbB (by assumption) | exact hold6_call (Nat.le_refl _) hbA (by assumption))
    (first
      | (go_at_call_of 84 (Value.slice a2 (dig b32 d1).length c2); refine (qunder_any d1 x.den _ _ _ _ _ _ _ (N2.out.below (And.left (by assumption))) D1.out x.den_nz).mono ?_; rintro e wA ⟨vA, rfl, hvA, hbA⟩)
      | (go_at_call_of 84 (Value.slice a4 (dig b32 d2).length c4); refine (qunder_any d2 y.den _ _ _ _ _ _ _ (N4.out.below (And.left (by assumption))) D2.out y.den_nz).mono ?_; rintro e wB ⟨vB', rfl, hvB, hbB⟩)
      | (go_at_call 83; refine (product_any x.den y.den _ _ _ (hvA.below hbB) hvB (by have := HLX.out.2; have := HLY.out.2; omega)).mono ?_; rintro e wC ⟨vC', rfl, hvC, hbC⟩))
  rename_i hS1
  have hE : Below wD.heap.size wD wC := (ext_trans (Below.refl _ _).drew (ext_trans (ext_trans hbA hbB) hbC))
  have HB2 : Hid (RB wC (w.heap.size + 2)) := RB.keep HB1.out hE hl31
  have hl32 := HB2.out.lt
  have hB2 := Lib.hid (hB1.out.below hE)
  have hD2 := Lib.hid (hD1.out.below hE)
  have hC2 := Lib.hid hvC
  obtain ⟨hWC, -, p0', p1', p2', r0', r1', r2', -⟩ := hS1
  clear p0 p1 p2 r0 r1 r2 hbA hbB hbC hvA hvB hvC hE hB1 hD1 HB1 hW2 hWD hl31
  replace p0 := p0'
  replace p1 := p1'
  replace p2 := p2'
  replace r0 := r0'
  replace r1 := r1'
  replace r2 := r2'
  clear p0' p1' p2' r0' r1' r2'
  generalize x.num.natAbs * y.den = A at *
  generalize y.num.natAbs * x.den = B at *
  generalize x.den * y.den = C at *
  by_cases hs : (sx == sy) = true
  · have Hs := Lib.hid hs
    go_wp2_with fail
    have hWe : Below w.heap.size w (wC).drew := hWC.drew
    go_region_held3 (fun w' => Below w.heap.size w w' ∧ RB w' (w.heap.size + 2) ∧ w'.cell? ⟨w.heap.size, 0, none⟩ = some (.bool sx) ∧ w'.cell? ⟨w.heap.size, 1, none⟩ = some (.slice a1 (dig b32 x.num.natAbs).length c1) ∧ w'.cell? ⟨w.heap.size, 2, none⟩ = some (.slice a2 (dig b32 d1).length c2) ∧ w'.cell? ⟨w.heap.size + 1, 0, none⟩ = some (.bool sy) ∧ w'.cell? ⟨w.heap.size + 1, 1, none⟩ = some (.slice a3 (dig b32 y.num.natAbs).length c3) ∧ w'.cell? ⟨w.heap.size + 1, 2, none⟩ = some (.slice a4 (dig b32 d2).length c4) ∧ w'.cell? ⟨w.heap.size + 2, 0, none⟩ = some (cellOf w' ⟨w.heap.size + 2, 0, none⟩) ∧ w'.cell? ⟨w.heap.size + 2, 1, none⟩ = some (cellOf w' ⟨w.heap.size + 2, 1, none⟩) ∧ w'.cell? ⟨w.heap.size + 2, 2, none⟩ = some (cellOf w' ⟨w.heap.size + 2, 2, none⟩) ∧ w'.frozen? ⟨w.heap.size + 2, 0, none⟩ = false ∧ w'.frozen? ⟨w.heap.size + 2, 1, none⟩ = false ∧ w'.frozen? ⟨w.heap.size + 2, 2, none⟩ = false)
      (first | exact hold6 hWe p0 p1 p2 r0 r1 r2 HB2.out | exact hold6_call (Nat.le_refl _) hbE (by assumption) | exact hold6_call (Nat.le_refl _) hbD (by assumption) | exact hold6_store _ _ _ _ _ _ _ (by omega) (by omega) (by omega) (by assumption) _ rfl)
      (first
        | (go_at_call 113; refine (sum_any A B _ _ _ (hB2.out.below (Below.refl _ _).drew) (hD2.out.below (Below.refl _ _).drew) (by have := HA.out; omega) (by have := HBB.out; omega)).mono ?_; rintro e wD' ⟨vE, rfl, hvE, hbD⟩)
        | (go_at_call 82; refine (made_any _ (A + B) C _ _ _ hvE (hC2.out.below (ext_trans (show Below (wC).heap.size wC (wC).drew from (Below.refl _ _).drew) hbD)) HP.out (by have := HA.out; have := HBB.out; have := HS.out; omega) (by have := HC.out; omega)).mono ?_; rintro e wE ⟨vF, rfl, hvF, hbE⟩; obtain ⟨d5, a5, c5, a6, c6, rfl, n5, n6, D5⟩ := IsR.opened hvF))
    have hE := ext_trans hbD hbE
    have hRB := RB.keep (a := (wC).drew) HB2.out hE hl32
    obtain ⟨g0, g1, g2, f0', f1', f2'⟩ := hRB.cell
    have hx := hWe.trans (hE.mono hWe.size)
    have hBl := hRB.lt
    have He' := He.out sx (A + B) (by have e : sx = sy := (by simpa using Hs.out); rw [← e]; exact sg_add sx A B)
    generalize mkQ sx (A + B) C = q at *
    subst He'
    go_wp2_with fail
    refine bodyPost_ret (v := .agg #[.bool (decide ((x + y).num < 0)), .slice a5 (dig b32 (x + y).num.natAbs).length _, .slice a6 (dig b32 d5).length _]) (by simp [results, Tryz.results80, go_sem, g0, g1, g2]; first | done | exact ⟨rfl, rfl⟩ | rfl) rfl ⟨_, rfl, ?_, below_store3 hx (by omega)⟩
    exact IsR.stored hRB n5 n6 D5 rfl rfl
  · have hs' : (sx == sy) = false := by simpa using hs
    have Hs := Lib.hid hs'
    clear hs
    go_wp2_with fail
    refine (order_any A B _ _ wC hB2.out hD2.out).mono ?_
    rintro e w' ⟨rfl, nq, rfl⟩
    have hWn : Below w.heap.size w (wC.drewN nq) := below_dn hWC nq
    by_cases hge : B ≤ A
    · have hc := cmpN_ge hge
      generalize cmpN A B = c at *
      have Hge := Lib.hid hge
      clear hge
      go_wp2_with fail
      have hWe : Below w.heap.size w (wC.drewN nq).drew := hWn.drew
      go_region_held3 (fun w' => Below w.heap.size w w' ∧ RB w' (w.heap.size + 2) ∧ w'.cell? ⟨w.heap.size, 0, none⟩ = some (.bool sx) ∧ w'.cell? ⟨w.heap.size, 1, none⟩ = some (.slice a1 (dig b32 x.num.natAbs).length c1) ∧ w'.cell? ⟨w.heap.size, 2, none⟩ = some (.slice a2 (dig b32 d1).length c2) ∧ w'.cell? ⟨w.heap.size + 1, 0, none⟩ = some (.bool sy) ∧ w'.cell? ⟨w.heap.size + 1, 1, none⟩ = some (.slice a3 (dig b32 y.num.natAbs).length c3) ∧ w'.cell? ⟨w.heap.size + 1, 2, none⟩ = some (.slice a4 (dig b32 d2).length c4) ∧ w'.cell? ⟨w.heap.size + 2, 0, none⟩ = some (cellOf w' ⟨w.heap.size + 2, 0, none⟩) ∧ w'.cell? ⟨w.heap.size + 2, 1, none⟩ = some (cellOf w' ⟨w.heap.size + 2, 1, none⟩) ∧ w'.cell? ⟨w.heap.size + 2, 2, none⟩ = some (cellOf w' ⟨w.heap.size + 2, 2, none⟩) ∧ w'.frozen? ⟨w.heap.size + 2, 0, none⟩ = false ∧ w'.frozen? ⟨w.heap.size + 2, 1, none⟩ = false ∧ w'.frozen? ⟨w.heap.size + 2, 2, none⟩ = false)
        (first | exact hold6 hWe p0 p1 p2 r0 r1 r2 HB2.out | exact hold6_call (Nat.le_refl _) hbE (by assumption) | exact hold6_call (Nat.le_refl _) hbD (by assumption) | exact hold6_store _ _ _ _ _ _ _ (by omega) (by omega) (by omega) (by assumption) _ rfl)
        (first
          | (go_at_call 115; refine (difference_any A B _ _ ((wC.drewN nq).drew) hB2.out hD2.out Hge.out (by have := HA.out; omega)).mono ?_; rintro e wD' ⟨vE, rfl, hvE, hbD⟩)
          | (go_at_call 82; refine (made_any _ (A - B) C _ _ _ hvE (hC2.out.below (ext_trans (show Below (wC).heap.size wC (wC.drewN nq).drew from (below_dn (Below.refl _ _) _).drew) hbD)) HP.out (by have := HA.out; have := HBB.out; have := HS.out; exact Nat.le_trans (dig_length_mono b32_two (Nat.sub_le _ _)) (by omega)) (by have := HC.out; omega)).mono ?_; rintro e wE ⟨vF, rfl, hvF, hbE⟩; obtain ⟨d5, a5, c5, a6, c6, rfl, n5, n6, D5⟩ := IsR.opened hvF))
      have hE := ext_trans hbD hbE
      have hRB := RB.keep (a := (wC.drewN nq).drew) HB2.out hE hl32
      obtain ⟨g0, g1, g2, f0', f1', f2'⟩ := hRB.cell
      have hx := hWe.trans (hE.mono hWe.size)
      have hBl := hRB.lt
      have He' := He.out sx (A - B) (sg_sub Hs.out Hge.out)
      generalize mkQ sx (A - B) C = q at *
      subst He'
      go_wp2_with fail
      refine bodyPost_ret (v := .agg #[.bool (decide ((x + y).num < 0)), .slice a5 (dig b32 (x + y).num.natAbs).length _, .slice a6 (dig b32 d5).length _]) (by simp [results, Tryz.results80, go_sem, g0, g1, g2]; first | done | exact ⟨rfl, rfl⟩ | rfl) rfl ⟨_, rfl, ?_, below_store3 hx (by omega)⟩
      exact IsR.stored hRB n5 n6 D5 rfl rfl
    · have hc := cmpN_nge hge
      generalize cmpN A B = c at *
      have Hge : Hid (A ≤ B) := Nat.le_of_lt (Nat.lt_of_not_le hge)
      clear hge
      go_wp2_with fail
      have hWe : Below w.heap.size w (wC.drewN nq).drew := hWn.drew
      go_region_held3 (fun w' => Below w.heap.size w w' ∧ RB w' (w.heap.size + 2) ∧ w'.cell? ⟨w.heap.size, 0, none⟩ = some (.bool sx) ∧ w'.cell? ⟨w.heap.size, 1, none⟩ = some (.slice a1 (dig b32 x.num.natAbs).length c1) ∧ w'.cell? ⟨w.heap.size, 2, none⟩ = some (.slice a2 (dig b32 d1).length c2) ∧ w'.cell? ⟨w.heap.size + 1, 0, none⟩ = some (.bool sy) ∧ w'.cell? ⟨w.heap.size + 1, 1, none⟩ = some (.slice a3 (dig b32 y.num.natAbs).length c3) ∧ w'.cell? ⟨w.heap.size + 1, 2, none⟩ = some (.slice a4 (dig b32 d2).length c4) ∧ w'.cell? ⟨w.heap.size + 2, 0, none⟩ = some (cellOf w' ⟨w.heap.size + 2, 0, none⟩) ∧ w'.cell? ⟨w.heap.size + 2, 1, none⟩ = some (cellOf w' ⟨w.heap.size + 2, 1, none⟩) ∧ w'.cell? ⟨w.heap.size + 2, 2, none⟩ = some (cellOf w' ⟨w.heap.size + 2, 2, none⟩) ∧ w'.frozen? ⟨w.heap.size + 2, 0, none⟩ = false ∧ w'.frozen? ⟨w.heap.size + 2, 1, none⟩ = false ∧ w'.frozen? ⟨w.heap.size + 2, 2, none⟩ = false)
        (first | exact hold6 hWe p0 p1 p2 r0 r1 r2 HB2.out | exact hold6_call (Nat.le_refl _) hbE (by assumption) | exact hold6_call (Nat.le_refl _) hbD (by assumption) | exact hold6_store _ _ _ _ _ _ _ (by omega) (by omega) (by omega) (by assumption) _ rfl)
        (first
          | (go_at_call 115; refine (difference_any B A _ _ ((wC.drewN nq).drew) hD2.out hB2.out Hge.out (by have := HBB.out; omega)).mono ?_; rintro e wD' ⟨vE, rfl, hvE, hbD⟩)
          | (go_at_call 82; refine (made_any _ (B - A) C _ _ _ hvE (hC2.out.below (ext_trans (show Below (wC).heap.size wC (wC.drewN nq).drew from (below_dn (Below.refl _ _) _).drew) hbD)) HP.out (by have := HA.out; have := HBB.out; have := HS.out; exact Nat.le_trans (dig_length_mono b32_two (Nat.sub_le _ _)) (by omega)) (by have := HC.out; omega)).mono ?_; rintro e wE ⟨vF, rfl, hvF, hbE⟩; obtain ⟨d5, a5, c5, a6, c6, rfl, n5, n6, D5⟩ := IsR.opened hvF))
      have hE := ext_trans hbD hbE
      have hRB := RB.keep (a := (wC.drewN nq).drew) HB2.out hE hl32
      obtain ⟨g0, g1, g2, f0', f1', f2'⟩ := hRB.cell
      have hx := hWe.trans (hE.mono hWe.size)
      have hBl := hRB.lt
      have He' := He.out sy (B - A) (by rw [Int.add_comm]; exact sg_sub (by have := Hs.out; cases sx <;> cases sy <;> simp_all) Hge.out)
      generalize mkQ sy (B - A) C = q at *
      subst He'
      go_wp2_with fail
      refine bodyPost_ret (v := .agg #[.bool (decide ((x + y).num < 0)), .slice a5 (dig b32 (x + y).num.natAbs).length _, .slice a6 (dig b32 d5).length _]) (by simp [results, Tryz.results80, go_sem, g0, g1, g2]; first | done | exact ⟨rfl, rfl⟩ | rfl) rfl ⟨_, rfl, ?_, below_store3 hx (by omega)⟩
      exact IsR.stored hRB n5 n6 D5 rfl rfl

end Go.Proofs.YtmfochplnchgcaaGreat

/- THE WALKS OF THE REFERENCE's FRACTIONS: Sub, Cmp, two. -/
namespace Go.Proofs.YtmfochplnchgcaaGreat
open Go.RowKit

set_option maxHeartbeats 4000000 in
theorem qsub_any (x y : Rat) (vx vy : Value) (w : World) (hx : IsR w vx x) (hy : IsR w vy y) (hlx : szQ x 17179869184) (hly : szQ y 17179869184) : Calls Tryz.prog 39 #[vx, vy] w (RetR (x - y) w) := by
  have hy0 := hy
  obtain ⟨d1, a1, c1, a2, c2, rfl, n1, n2, den1⟩ := hx.opened
  obtain ⟨d2, a3, c3, a4, c4, rfl, n3, n4, den2⟩ := hy.opened
  have HX := Lib.hid hx
  have HY := Lib.hid hy
  have HLX := Lib.hid hlx
  have hln : szQ (-y) 17179869184 := ⟨by rw [natAbs_neg_num]; exact hly.1, hly.2⟩
  have HLY := Lib.hid hln
  have He : Hid (x + -y = x - y) := (Rat.sub_eq_add_neg x y).symm
  clear hx hy n1 n2 n3 n4 hlx hly den1 den2 hln hy0
  go_enter Tryz.func39, Tryz.ntmps39
  go_wp2_with fail
  generalize hsx : decide (x.num < 0) = sx at *
  generalize hsy : decide (y.num < 0) = sy at *
  clear hsx hsy
  generalize hW0 : ((w.alloc (.cells #[.bool sx, .slice a1 (dig b32 x.num.natAbs).length c1, .slice a2 (dig b32 d1).length c2] 45)).alloc (.cells #[.bool sy, .slice a3 (dig b32 y.num.natAbs).length c3, .slice a4 (dig b32 d2).length c4] 45)).alloc (.cells #[.bool false, .slice none 0 0, .slice none 0 0] 45) = W at *
  obtain ⟨hal, hB1, hB2, hB3⟩ := boxes3 w _ _ _ _ W hW0.symm
  clear hW0
  have hW : Below w.heap.size w W.drew := hal.drew
  have p0 := blk_cell hB1 0 (.bool sx) rfl
  have p1 := blk_cell hB1 1 (.slice a1 (dig b32 x.num.natAbs).length c1) rfl
  have p2 := blk_cell hB1 2 (.slice a2 (dig b32 d1).length c2) rfl
  have r0 := blk_cell hB2 0 (.bool sy) rfl
  have r1 := blk_cell hB2 1 (.slice a3 (dig b32 y.num.natAbs).length c3) rfl
  have r2 := blk_cell hB2 2 (.slice a4 (dig b32 d2).length c4) rfl
  have HB : Hid (RB W (w.heap.size + 2)) := ⟨false, none, 0, 0, none, 0, 0, _, hB3⟩
  have hl3 := blk_lt hB3
  clear hB1 hB2 hB3
  go_region_held3 (fun w' => Below w.heap.size w w' ∧ RB w' (w.heap.size + 2) ∧ w'.cell? ⟨w.heap.size, 0, none⟩ = some (.bool sx) ∧ w'.cell? ⟨w.heap.size, 1, none⟩ = some (.slice a1 (dig b32 x.num.natAbs).length c1) ∧ w'.cell? ⟨w.heap.size, 2, none⟩ = some (.slice a2 (dig b32 d1).length c2) ∧ w'.cell? ⟨w.heap.size + 1, 0, none⟩ = some (.bool sy) ∧ w'.cell? ⟨w.heap.size + 1, 1, none⟩ = some (.slice a3 (dig b32 y.num.natAbs).length c3) ∧ w'.cell? ⟨w.heap.size + 1, 2, none⟩ = some (.slice a4 (dig b32 d2).length c4) ∧ w'.cell? ⟨w.heap.size + 2, 0, none⟩ = some (cellOf w' ⟨w.heap.size + 2, 0, none⟩) ∧ w'.cell? ⟨w.heap.size + 2, 1, none⟩ = some (cellOf w' ⟨w.heap.size + 2, 1, none⟩) ∧ w'.cell? ⟨w.heap.size + 2, 2, none⟩ = some (cellOf w' ⟨w.heap.size + 2, 2, none⟩) ∧ w'.frozen? ⟨w.heap.size + 2, 0, none⟩ = false ∧ w'.frozen? ⟨w.heap.size + 2, 1, none⟩ = false ∧ w'.frozen? ⟨w.heap.size + 2, 2, none⟩ = false)
    (first | exact hold6 hW p0 p1 p2 r0 r1 r2 HB.out | exact hold6_call (Nat.le_refl _) hbE (by assumption) | exact hold6_call (Nat.le_refl _) hbD (by assumption) | exact hold6_store _ _ _ _ _ _ _ (by omega) (by omega) (by omega) (by assumption) _ rfl)
    (first
      | (go_at_call 81; refine (qneg_any y _ _ (HY.out.below (And.left (by assumption)))).mono ?_; rintro e wD ⟨vD, rfl, hvD, hbD⟩)
      | (go_at_call 80; refine (qadd_any x (-y) _ _ _ (HX.out.below (And.left (by assumption))) hvD HLX.out HLY.out).mono ?_; rw [He.out]; rintro e wE ⟨vE, rfl, hvE, hbE⟩; obtain ⟨d5, a5, c5, a6, c6, rfl, n5, n6, D5⟩ := IsR.opened hvE))
  have hE := ext_trans hbD hbE
  have hRB := RB.keep (a := W.drew) HB.out hE hl3
  obtain ⟨g0, g1, g2, f0', f1', f2'⟩ := hRB.cell
  have hx := hW.trans (hE.mono hW.size)
  have hBl := hRB.lt
  go_wp2_with fail
  refine bodyPost_ret (v := .agg #[.bool (decide ((x - y).num < 0)), .slice a5 (dig b32 (x - y).num.natAbs).length _, .slice a6 (dig b32 d5).length _]) (by simp [results, Tryz.results39, go_sem, g0, g1, g2]; first | done | exact ⟨rfl, rfl⟩ | rfl) rfl ⟨_, rfl, ?_, below_store3 hx (by omega)⟩
  exact IsR.stored hRB n5 n6 D5 rfl rfl

theorem sgnQ_sub (x y : Rat) : sgnQ (x - y) = cmpR x y := by
  unfold cmpR
  rcases sgnQ_cases (x - y) with ⟨h, e⟩ | ⟨h, e⟩ | ⟨h, e⟩
  · have h1 : x - y < 0 := by rw [Rat.lt_iff]; simpa using h
    rw [e, if_pos (by grind)]
  · have h1 : x - y = 0 := Rat.num_eq_zero.1 h
    rw [e, if_neg (by grind), if_neg (by grind)]
  · have h1 : 0 < x - y := by rw [Rat.lt_iff]; simpa using h
    rw [e, if_neg (by grind), if_pos (by grind)]

set_option maxHeartbeats 2000000 in
theorem qcmp_any (x y : Rat) (vx vy : Value) (w : World) (hx : IsR w vx x) (hy : IsR w vy y) (hlx : szQ x 17179869184) (hly : szQ y 17179869184) : Calls Tryz.prog 38 #[vx, vy] w (RetInt (cmpR x y) w) := by
  obtain ⟨d1, a1, c1, a2, c2, rfl, n1, n2, den1⟩ := hx.opened
  obtain ⟨d2, a3, c3, a4, c4, rfl, n3, n4, den2⟩ := hy.opened
  have HX := Lib.hid hx
  have HY := Lib.hid hy
  have Hc := Lib.hid (sgnQ_sub x y)
  clear hx hy n1 n2 n3 n4 den1 den2
  go_enter Tryz.func38, Tryz.ntmps38
  go_wp2_with fail
  have hal := ((Below.refl w.heap.size w).alloc (Nat.le_refl _) (.cells #[.bool (decide (x.num < 0)), .slice a1 (dig b32 x.num.natAbs).length c1, .slice a2 (dig b32 d1).length c2] 45)).alloc (by simp) (.cells #[.bool (decide (y.num < 0)), .slice a3 (dig b32 y.num.natAbs).length c3, .slice a4 (dig b32 d2).length c4] 45)
  refine (qsub_any x y _ _ _ (HX.out.below hal) (HY.out.below hal) hlx hly).mono ?_
  rintro e w1 ⟨v, rfl, hv, hb1⟩
  have hx1 := hal.trans (hb1.mono hal.size)
  obtain ⟨d5, a5, c5, a6, c6, rfl, n5, n6, D5⟩ := IsR.opened hv
  go_wp2_with fail
  refine (qsign_any _ _ _ _ _ _ _ w1 (fun h => by have := of_decide_eq_true h; omega)).mono ?_
  have e : sgnI (decide ((x - y).num < 0)) (x - y).num.natAbs = cmpR x y := Hc.out
  rw [e]
  rintro e w2 ⟨rfl, hb2⟩
  go_wp2_with fail
  go_ret
  exact ⟨rfl, ext_trans hx1 hb2⟩

/-- A power of two: 2^a over 2^b, one of which is 1. -/
def pw2 (a b : Nat) : Rat := mkQ false (2 ^ a) (2 ^ b)
theorem pw2_neg (b : Nat) : (pw2 0 b).num.natAbs = 1 ∧ (pw2 0 b).den = 2 ^ b ∧ decide ((pw2 0 b).num < 0) = false := by
  unfold pw2
  rw [mkQ_num _ _ _ (Nat.two_pow_pos b), mkQ_den _ _ _ (Nat.two_pow_pos b), mkQ_neg _ _ _ (Nat.two_pow_pos b) (by simp)]
  simp
theorem pw2_pos (a : Nat) : (pw2 a 0).num.natAbs = 2 ^ a ∧ (pw2 a 0).den = 1 ∧ decide ((pw2 a 0).num < 0) = false := by
  unfold pw2
  rw [mkQ_num _ _ _ (Nat.two_pow_pos 0), mkQ_den _ _ _ (Nat.two_pow_pos 0), mkQ_neg _ _ _ (Nat.two_pow_pos 0) (by have := Nat.two_pow_pos a; omega)]
  simp

set_option maxHeartbeats 1000000 in
theorem two_neg (k : Nat) (z : Int) (w : World) (hz : z = -(k : Int)) (hk : 0 < k) (hk2 : k ≤ 100000) : Calls Tryz.prog 127 #[.int .i64 z] w (RetR (pw2 0 k) w) := by
  have hal : Below w.heap.size w (w.alloc (.cells #[.bool false, .slice none 0 0, .slice none 0 0] 45)) := (Below.refl _ _).alloc (Nat.le_refl _) _
  have hB0 := blk_new w #[.bool false, .slice none 0 0, .slice none 0 0] 45
  have Hq := Lib.hid (pw2_neg k)
  have c : z < 0 := by omega
  have hzb : -100000 ≤ z := by omega
  have e : -z = (k : Int) := by omega
  clear hz
  go_enter Tryz.func127, Tryz.ntmps127
  go_wp2_with fail
  refine (nat_any 1 _ (by unfold b64; omega)).mono ?_
  rintro e w1 ⟨v1, rfl, hv1, hb1⟩
  have hx1 := ext_trans hal hb1
  have hB1 := blk_keep hB0 hb1 (by simp)
  go_wp2_with fail
  refine (nat_any 1 _ (by unfold b64; omega)).mono ?_
  rintro e w2 ⟨v2, rfl, hv2, hb2⟩
  have hx2 := ext_trans hx1 hb2
  have hB2 := blk_keep hB1 hb2 (blk_lt hB1)
  have hv12 := hv1.below hb2
  go_wp2_with fail
  refine (shifted_any 1 k _ _ hv2 (by omega) (by have := dig32_one; omega) (by omega)).mono ?_
  rintro e w3 ⟨v3, rfl, hv3, hb3⟩
  have hx3 := ext_trans hx2 hb3
  have hB3 := blk_keep hB2 hb3 (blk_lt hB2)
  have hv13 := Lib.hid (hv12.below hb3)
  rw [Nat.one_mul] at hv3
  have Hv3 := Lib.hid hv3
  obtain ⟨a1, c1, rfl, _⟩ := IsRow.opened hv13.out
  obtain ⟨a3, c3, rfl, _⟩ := IsRow.opened Hv3.out
  clear hv1 hv2 hv3 hb1 hb2 hb3 hx1 hx2 hal hB0 hB1 hB2 hv12
  have hRB : Hid (RB w3 w.heap.size) := ⟨false, none, 0, 0, none, 0, 0, _, hB3⟩
  have hBl := blk_lt hB3
  have c0 := blk_cell hB3 0 (.bool false) rfl
  have c1 := blk_cell hB3 1 (.slice none 0 0) rfl
  have c2 := blk_cell hB3 2 (.slice none 0 0) rfl
  have f0 := blk_frozen hB3 0
  have f1 := blk_frozen hB3 1
  have f2 := blk_frozen hB3 2
  have HB := Lib.hid hB3
  clear hB3
  generalize 2 ^ k = K at *
  go_wp2_with fail
  refine bodyPost_ret (v := .agg #[.bool false, .slice a1 (dig b32 1).length _, .slice a3 (dig b32 K).length _]) (by simp [results, Tryz.results127, go_sem, c0, c1, c2]; first | done | exact ⟨rfl, rfl⟩ | rfl) rfl ⟨_, rfl, ?_, below_store3 hx3 (Nat.le_refl _)⟩
  exact IsR.stored hRB.out hv13.out Hv3.out (.inl Hq.out.2.1.symm) Hq.out.2.2 Hq.out.1

set_option maxHeartbeats 1000000 in
theorem two_pos (k : Nat) (w : World) (hk2 : k ≤ 100000) : Calls Tryz.prog 127 #[.int .i64 k] w (RetR (pw2 k 0) w) := by
  have hal : Below w.heap.size w (w.alloc (.cells #[.bool false, .slice none 0 0, .slice none 0 0] 45)) := (Below.refl _ _).alloc (Nat.le_refl _) _
  have hB0 := blk_new w #[.bool false, .slice none 0 0, .slice none 0 0] 45
  have Hq := Lib.hid (pw2_pos k)
  go_enter Tryz.func127, Tryz.ntmps127
  go_wp2_with fail
  refine (nat_any 1 _ (by unfold b64; omega)).mono ?_
  rintro e w1 ⟨v1, rfl, hv1, hb1⟩
  have hx1 := ext_trans hal hb1
  have hB1 := blk_keep hB0 hb1 (by simp)
  go_wp2_with fail
  refine (shifted_any 1 k _ _ hv1 (by omega) (by have := dig32_one; omega) (by omega)).mono ?_
  rintro e w2 ⟨v2, rfl, hv2, hb2⟩
  have hx2 := ext_trans hx1 hb2
  have hB2 := blk_keep hB1 hb2 (blk_lt hB1)
  rw [Nat.one_mul] at hv2
  go_wp2_with fail
  refine (nat_any 1 _ (by unfold b64; omega)).mono ?_
  rintro e w3 ⟨v3, rfl, hv3, hb3⟩
  have hx3 := ext_trans hx2 hb3
  have hB3 := blk_keep hB2 hb3 (blk_lt hB2)
  have hv13 := Lib.hid (hv2.below hb3)
  have Hv3 := Lib.hid hv3
  obtain ⟨a1, c1, rfl, _⟩ := IsRow.opened hv13.out
  obtain ⟨a3, c3, rfl, _⟩ := IsRow.opened Hv3.out
  clear hv1 hv2 hv3 hb1 hb2 hb3 hx1 hx2 hal hB0 hB1 hB2
  have hRB : Hid (RB w3 w.heap.size) := ⟨false, none, 0, 0, none, 0, 0, _, hB3⟩
  have hBl := blk_lt hB3
  have c0 := blk_cell hB3 0 (.bool false) rfl
  have c1 := blk_cell hB3 1 (.slice none 0 0) rfl
  have c2 := blk_cell hB3 2 (.slice none 0 0) rfl
  have f0 := blk_frozen hB3 0
  have f1 := blk_frozen hB3 1
  have f2 := blk_frozen hB3 2
  have HB := Lib.hid hB3
  clear hB3
  generalize 2 ^ k = K at *
  go_wp2_with fail
  refine bodyPost_ret (v := .agg #[.bool false, .slice a1 (dig b32 K).length _, .slice a3 (dig b32 1).length _]) (by simp [results, Tryz.results127, go_sem, c0, c1, c2]; first | done | exact ⟨rfl, rfl⟩ | rfl) rfl ⟨_, rfl, ?_, below_store3 hx3 (Nat.le_refl _)⟩
  exact IsR.stored hRB.out hv13.out Hv3.out (.inl Hq.out.2.1.symm) Hq.out.2.2 Hq.out.1

end Go.Proofs.YtmfochplnchgcaaGreat
