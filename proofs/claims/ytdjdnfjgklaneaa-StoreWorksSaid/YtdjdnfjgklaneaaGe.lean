/- Part e of the lemmas and walks. -/
import Derived.ProofKit
import Derived.OpenShut
import Derived.ChangeOld
import Derived.Deep.Slices
import Derived.RangeFuncNested
import Derived.RangeFuncBound
import Derived.RangeFuncCalls
import Derived.RangeFuncLeaves
import Derived.Shelf.Abstract
import Derived.Shelf.RegionOpen
import Derived.OwnWalkIn
import Derived.TacticsInMore
import Derived.LoopNIn
import Derived.LoopIn
import Derived.Laws.EntriesVeiled
import Derived.Test.YtdjdnfjgklaneaaGa
import Derived.Test.YtdjdnfjgklaneaaGb
import Derived.Test.YtdjdnfjgklaneaaGc
import Derived.Test.YtdjdnfjgklaneaaGd

/- HOW THE ARGUMENTS OF A ROW ARE OPENED: slices of structs, read as lists. -/
namespace Go.Proofs.Ytdjdnfjgklaneaa
open Go.ChangeShapes Go.WideShapes Go.ChangeAt Go.RowKit

section
variable {H : Type} {enc : TypeId × Value → H} {P : Program} {w : World} {base : Nat} {spare : Nat → Bool} {held : Bool}
theorem trod_float {t : TypeId} {fuel : Nat} {cs : List Value} {x : DataW H × List MemPlace} {k : FloatKind} (ht : P.underlying t = some (.float k)) (h : DataW.trod enc P w base spare held fuel t cs = some x) :
    ∃ n, cs = [.float k n] ∧ x = (.lit (.float k n), []) ∧ (Lit.float k n).wf = true := by
  cases fuel with
  | zero => simp [DataW.trod] at h
  | succ n =>
    unfold DataW.trod at h
    rw [ht] at h
    split at h <;> simp_all

/-- A slice of structs of k cells each, opened: each element's cells, of which the element's own law holds. -/
theorem open_rows {r : Reach} {b0 : Nat} {t e : TypeId} {k : Nat} {v : Value} {d : DataW H} {p : List MemPlace} (ht : P.underlying t = some (.slice e)) (hk : P.cellsOf e = k) (hk0 : 0 < k) (Law : List Value → Prop)
    (hlaw : ∀ n cs y, DataW.trod enc P w 0 (fun _ => true) true n e cs = some y → Law cs) (hv : Value.okWide P w r b0 t v) (h : DataW.Trod enc P w 0 (fun _ => true) true t v d p) :
    ∃ ao len cap, v = .slice ao len cap ∧ len ≤ cap ∧ cap ≤ maxLen ∧ (0 < len → ∃ b off, ao = some ⟨b, off, none⟩ ∧ b < w.heap.size ∧ ∀ i, i < len → ∃ cs : List Value, cs.length = k ∧ Law cs ∧ ∀ j, j < k → w.cell? ⟨b, off + i * k + j, none⟩ = cs[j]?) := by
  obtain ⟨ao, len, cap, rfl⟩ := okWide_slice ht hv
  refine ⟨ao, len, cap, rfl, ?_⟩
  obtain ⟨fuel, hf⟩ := h
  rcases Deep.open_slice ht hf with ⟨hcs, _⟩ | ⟨a, len', cap', m, n, D, Pl, hcs, _, hl, hm, hmm, _, hi⟩
  · simp [Value.cells] at hcs
    obtain ⟨rfl, rfl, rfl⟩ := hcs
    exact ⟨Nat.le_refl _, by unfold maxLen; omega, fun h => absurd h (by omega)⟩
  · simp [Value.cells] at hcs
    obtain ⟨rfl, rfl, rfl⟩ := hcs
    refine ⟨hl, hm, fun hlen => ?_⟩
    simp only [if_true] at hmm
    subst hmm
    have key : ∀ i, i < len → ∃ cs : List Value, cs.length = k ∧ Law cs ∧ ∀ j, j < k → w.cell? (a.add (i * k + j)) = cs[j]? := by
      intro i hlt
      obtain ⟨cs', hc, hT⟩ := hi i (by omega)
      rw [hk] at hc
      obtain ⟨_, hcl, hat⟩ := World.cells?_some hc
      exact ⟨cs', hcl, hlaw _ _ _ hT, fun j hj => by rw [← hat j hj, Deep.add_add]⟩
    obtain ⟨b, off, spot⟩ := a
    have hsp : spot = none := by
      obtain ⟨cs, hcl, _, hat⟩ := key 0 hlen
      have h0 := hat 0 hk0
      rw [List.getElem?_eq_getElem (by omega)] at h0
      have := World.cell?_spot h0
      simpa [Addr.add] using this
    subst hsp
    have ea : ∀ j, (⟨b, off, none⟩ : Addr).add j = ⟨b, off + j, none⟩ := fun j => by unfold Addr.add; split <;> simp_all
    refine ⟨b, off, rfl, ?_, fun i hlt => ?_⟩
    · obtain ⟨cs, hcl, _, hat⟩ := key 0 hlen
      have h0 := hat 0 hk0
      rw [List.getElem?_eq_getElem (by omega), ea] at h0
      exact World.block_lt_of_cell? (h := h0)
    · obtain ⟨cs, hcl, hL, hat⟩ := key i hlt
      exact ⟨cs, hcl, hL, fun j hj => by rw [← hat j hj, ea, Nat.add_assoc]⟩
end

/-- A list whose elements are chosen one by one. -/
theorem choose_list {α : Type} (n : Nat) (d : α) (p : Nat → α → Prop) (h : ∀ i, i < n → ∃ x, p i x) : ∃ l : List α, l.length = n ∧ ∀ i, i < n → p i (l.getD i d) := by
  have h2 : ∀ i, ∃ x, i < n → p i x := fun i => by
    by_cases hi : i < n
    · obtain ⟨x, hx⟩ := h i hi
      exact ⟨x, fun _ => hx⟩
    · exact ⟨d, fun h => absurd h hi⟩
  refine ⟨(List.range n).map fun i => Classical.choose (h2 i), by simp, fun i hi => ?_⟩
  have e : ((List.range n).map fun i => Classical.choose (h2 i)).getD i d = Classical.choose (h2 i) := by simp [hi]
  rw [e]
  exact Classical.choose_spec (h2 i) hi

theorem i64R_of {n : Int} (h : (Lit.int .i64 n).wf = true) : i64R n := bounds_i64 h

section
variable {H : Type} {enc : TypeId × Value → H} {w : World}
theorem cells_i64 : Try.prog.cellsOf 2 = 1 := by kernel_rfl
theorem cells_int : Try.prog.cellsOf 3 = 1 := by kernel_rfl
theorem cells_f32 : Try.prog.cellsOf 30 = 1 := by kernel_rfl
theorem cells_frac : Try.prog.cellsOf 40 = 2 := by kernel_rfl
theorem cells_entry : Try.prog.cellsOf 117 = 3 := by kernel_rfl
theorem cells_reading : Try.prog.cellsOf 32 = 2 := by kernel_rfl
set_option maxRecDepth 100000 in
theorem law_frac (n : Nat) (cs : List Value) (y : DataW H × List MemPlace) (h : DataW.trod enc Try.prog w 0 (fun _ => true) true n 40 cs = some y) : ∃ a b, cs = [.int .i64 a, .int .i64 b] ∧ i64R a ∧ i64R b := by
  obtain ⟨xs, m, _, _, hcl, hxl, hf⟩ := DataW.trod_struct Try.underlying40 h
  rw [cells_frac] at hcl
  have f0 : DataW.trod enc Try.prog w 0 (fun _ => true) true m 2 ((cs.drop 0).take (Try.prog.cellsOf 2)) = xs[0]? := hf 0 _ rfl
  have f1 : DataW.trod enc Try.prog w 0 (fun _ => true) true m 2 ((cs.drop 1).take (Try.prog.cellsOf 2)) = xs[1]? := hf 1 _ rfl
  match cs, hcl, xs, hxl with
  | [c0, c1], _, [x0, x1], _ =>
    simp only [cells_i64, List.drop_zero, List.take_succ_cons, List.take_zero, List.drop_succ_cons] at f0 f1
    obtain ⟨a, e0, _, wa⟩ := DataW.trod_int Try.underlying2 f0
    obtain ⟨b, e1, _, wb⟩ := DataW.trod_int Try.underlying2 f1
    simp at e0 e1
    exact ⟨a, b, by rw [e0, e1], i64R_of wa, i64R_of wb⟩
set_option maxRecDepth 100000 in
theorem law_entry (n : Nat) (cs : List Value) (y : DataW H × List MemPlace) (h : DataW.trod enc Try.prog w 0 (fun _ => true) true n 117 cs = some y) :
    ∃ a b c, cs = [.int .i64 a, .int .i64 b, .int .i64 c] ∧ i64R a ∧ i64R b ∧ i64R c := by
  obtain ⟨xs, m, _, _, hcl, hxl, hf⟩ := DataW.trod_struct Try.underlying117 h
  rw [cells_entry] at hcl
  have f0 : DataW.trod enc Try.prog w 0 (fun _ => true) true m 40 ((cs.drop 0).take (Try.prog.cellsOf 40)) = xs[0]? := hf 0 _ rfl
  have f1 : DataW.trod enc Try.prog w 0 (fun _ => true) true m 3 ((cs.drop 2).take (Try.prog.cellsOf 3)) = xs[1]? := hf 1 _ rfl
  match cs, hcl, xs, hxl with
  | [c0, c1, c2], _, [x0, x1], _ =>
    simp only [cells_int, cells_frac, List.drop_zero, List.take_succ_cons, List.take_zero, List.drop_succ_cons] at f0 f1
    obtain ⟨a, b, e0, wa, wb⟩ := law_frac _ _ _ f0
    obtain ⟨c, e1, _, wc⟩ := DataW.trod_int Try.underlying3 f1
    simp at e0 e1
    exact ⟨a, b, c, by rw [e0.1, e0.2, e1], wa, wb, i64R_of wc⟩
set_option maxRecDepth 100000 in
theorem law_reading (n : Nat) (cs : List Value) (y : DataW H × List MemPlace) (h : DataW.trod enc Try.prog w 0 (fun _ => true) true n 32 cs = some y) :
    ∃ (a : Int) (b : Nat), cs = [.int .i64 a, .float .f32 b] ∧ i64R a := by
  obtain ⟨xs, m, _, _, hcl, hxl, hf⟩ := DataW.trod_struct Try.underlying32 h
  rw [cells_reading] at hcl
  have f0 : DataW.trod enc Try.prog w 0 (fun _ => true) true m 3 ((cs.drop 0).take (Try.prog.cellsOf 3)) = xs[0]? := hf 0 _ rfl
  have f1 : DataW.trod enc Try.prog w 0 (fun _ => true) true m 30 ((cs.drop 1).take (Try.prog.cellsOf 30)) = xs[1]? := hf 1 _ rfl
  match cs, hcl, xs, hxl with
  | [c0, c1], _, [x0, x1], _ =>
    simp only [cells_int, cells_f32, List.drop_zero, List.take_succ_cons, List.take_zero, List.drop_succ_cons] at f0 f1
    obtain ⟨a, e0, _, wa⟩ := DataW.trod_int Try.underlying3 f0
    obtain ⟨b, e1, _, _⟩ := trod_float Try.underlying30 f1
    simp at e0 e1
    exact ⟨a, b, by rw [e0, e1], i64R_of wa⟩

set_option maxRecDepth 100000 in
/-- An argument of entries. -/
theorem open_laws {r : Reach} {b0 : Nat} {v : Value} {d : DataW H} {p : List MemPlace} (hv : Value.okWide Try.prog w r b0 22 v) (h : DataW.Trod enc Try.prog w 0 (fun _ => true) true 22 v d p) :
    ∃ ts, LawsOf w v ts ∧ ∀ i, i < ts.length → i64R (ts.getD i (0, 0, 0)).1 ∧ i64R (ts.getD i (0, 0, 0)).2.1 := by
  obtain ⟨ao, len, cap, rfl, hl, hm, hE⟩ := open_rows Try.underlying22 cells_entry (by omega) (fun cs => ∃ a b c, cs = [.int .i64 a, .int .i64 b, .int .i64 c] ∧ i64R a ∧ i64R b ∧ i64R c) law_entry hv h
  rcases Nat.eq_zero_or_pos len with h0 | hp
  · subst h0
    exact ⟨[], ⟨ao, cap, rfl, fun h => absurd h (by simp)⟩, fun i hi => absurd hi (by simp)⟩
  · obtain ⟨b, off, rfl, hb, hi⟩ := hE hp
    obtain ⟨ts, hlen, hts⟩ := choose_list len (0, 0, 0) (fun i (x : Int × Int × Int) => LawAt w b (off + i * 3) x ∧ i64R x.1 ∧ i64R x.2.1) (fun i hlt => by
      obtain ⟨cs, _, ⟨x, y, z, rfl, hx, hy, _⟩, hc⟩ := hi i hlt
      exact ⟨(x, y, z), ⟨hc 0 (by omega), hc 1 (by omega), hc 2 (by omega)⟩, hx, hy⟩)
    subst hlen
    exact ⟨ts, ⟨_, cap, rfl, fun _ => ⟨b, off, rfl, hb, fun i hi => (hts i hi).1⟩⟩, fun i hi => (hts i hi).2⟩
set_option maxRecDepth 100000 in
/-- An argument of readings. -/
theorem open_log {r : Reach} {b0 : Nat} {v : Value} {d : DataW H} {p : List MemPlace} (hv : Value.okWide Try.prog w r b0 23 v) (h : DataW.Trod enc Try.prog w 0 (fun _ => true) true 23 v d p) :
    ∃ ls, LogOf w v ls ∧ ∀ i, i < ls.length → i64R (ls.getD i (0, 0)).1 := by
  obtain ⟨ao, len, cap, rfl, hl, hm, hE⟩ := open_rows Try.underlying23 cells_reading (by omega) (fun cs => ∃ (a : Int) (b : Nat), cs = [.int .i64 a, .float .f32 b] ∧ i64R a) law_reading hv h
  rcases Nat.eq_zero_or_pos len with h0 | hp
  · subst h0
    exact ⟨[], ⟨ao, cap, rfl, fun h => absurd h (by simp)⟩, fun i hi => absurd hi (by simp)⟩
  · obtain ⟨b, off, rfl, hb, hi⟩ := hE hp
    obtain ⟨ls, hlen, hls⟩ := choose_list len (0, 0) (fun i (x : Int × Nat) => RdAt w b (off + i * 2) x ∧ i64R x.1) (fun i hlt => by
      obtain ⟨cs, _, ⟨x, y, rfl, hx⟩, hc⟩ := hi i hlt
      exact ⟨(x, y), ⟨hc 0 (by omega), hc 1 (by omega)⟩, hx⟩)
    subst hlen
    exact ⟨ls, ⟨_, cap, rfl, fun _ => ⟨b, off, rfl, hb, fun i hi => (hls i hi).1⟩⟩, fun i hi => (hls i hi).2⟩
set_option maxRecDepth 100000 in
theorem open_frac {r : Reach} {b0 : Nat} {v : Value} {d : DataW H} {p : List MemPlace} (hv : Value.okWide Try.prog w r b0 40 v) (h : DataW.Trod enc Try.prog w 0 (fun _ => true) true 40 v d p) :
    ∃ a b, v = .agg #[.int .i64 a, .int .i64 b] ∧ i64R a ∧ i64R b := by
  obtain ⟨cs, rfl, _⟩ := okWide_struct Try.underlying40 hv
  obtain ⟨fuel, hf⟩ := h
  obtain ⟨a, b, e, wa, wb⟩ := law_frac _ _ _ hf
  obtain ⟨l⟩ := cs
  have e2 : l = [.int .i64 a, .int .i64 b] := by simpa [Value.cells] using e
  exact ⟨a, b, by rw [e2], wa, wb⟩
end

theorem own_knob : ownKnob Try.prog.godebug = none := by kernel_rfl
theorem laid_out : laidOutB Try.prog = true := by kernel_rfl

end Go.Proofs.Ytdjdnfjgklaneaa

/- THE WALKS OF store.stretches AND OF ITS CLOSURES. -/
namespace Go.Proofs.Ytdjdnfjgklaneaa
open Go.RowKit

set_option maxHeartbeats 1000000 in
/-- The rate at a reading's temperature: the closure's own contract. -/
theorem rateF_any (es : List (Rat × Int)) (b Bt : Nat) (ve : Value) (w : World) (hbx : Boxed w Bt 24 ve) (he : EntsOf IsRat w ve es) (hs : ∀ i, i < es.length → szR (es.getD i (0, 0)).1 274877906944) (hlen : es.length ≤ 1000000) :
    Calls Try.prog 91 #[.float .f32 b, .pointer (some ⟨Bt, 0, none⟩)] w (RetInt (rateUp es (tempQ b)) w) := by
  have hc := hbx.cell
  have hlt := hbx.lt
  have HE := Lib.hid he
  have HS := Lib.hid hs
  obtain ⟨ao, cap, rfl, _⟩ := he
  clear hs hbx
  have HT : Hid (szR (tempQ b) 274877906944) := by
    have := tempQ_szR b
    exact ⟨Nat.le_trans this.1 (by omega), Nat.le_trans this.2 (by omega)⟩
  go_enter Try.func91, Try.ntmps91
  go_wp2_with fail
  refine (exact_any b _).mono ?_
  rintro e w1 ⟨v, rfl, hv, hb1⟩
  obtain ⟨a1, c1, a2, c2, rfl, n1, n2⟩ := hv.opened
  have Hv := Lib.hid hv
  have hc1 := (hb1.cell (p := ⟨Bt, 0, none⟩) hlt).trans hc
  have hlt1 : Bt < w1.heap.size := Nat.lt_of_lt_of_le hlt hb1.size
  have hal := (Below.refl w1.heap.size w1).alloc (Nat.le_refl _) (.cells #[.bool (decide ((tempQ b).num < 0)), .slice a1 (dig b64 (tempQ b).num.natAbs).length c1, .slice a2 (dig b64 (dn (tempQ b).den)).length c2] 45)
  clear hv n1 n2 hc hlt
  go_wp2_with fail
  refine (rate_any es (tempQ b) _ _ _ (HE.out.below IsRat.belowAll (ext_trans hb1 hal)) (Hv.out.below hal) HS.out HT.out hlen).mono ?_
  rintro e w2 ⟨rfl, hb2⟩
  have hx := ext_trans (ext_trans hb1 hal) hb2
  go_wp2_with fail
  go_ret
  exact ⟨rfl, hx⟩

/-- What stretches hands back: the iterator's value, over its boxes. -/
def RetSeq (es : List (Rat × Int)) (gap : Int) (ve vl : Value) (w : World) (e : Ending) (w' : World) : Prop :=
  e = .returned (.func (.func 92) #[] #[.pointer (some ⟨w.heap.size + 3, 0, none⟩), .pointer (some ⟨w.heap.size + 2, 0, none⟩), .pointer (some ⟨w.heap.size + 1, 0, none⟩), .pointer (some ⟨w.heap.size + 4, 0, none⟩)]) ∧
  w'.heap.size = w.heap.size + 5 ∧ Below w.heap.size w w' ∧
  Boxed w' w.heap.size 24 ve ∧ Boxed w' (w.heap.size + 1) 3 (.int .i64 gap) ∧ Boxed w' (w.heap.size + 2) 23 vl ∧ Boxed w' (w.heap.size + 3) 3 (.int .i64 (hotI es)) ∧
  Boxed w' (w.heap.size + 4) 175 (.func (.func 91) #[] #[.pointer (some ⟨w.heap.size, 0, none⟩)])

set_option maxHeartbeats 1000000 in
theorem stretches_any (es : List (Rat × Int)) (gap : Int) (ve vl : Value) (ls : List (Int × Nat)) (w : World) (he : EntsOf IsRat w ve es) (hl : LogOf w vl ls) (h0 : 0 < es.length) (h16 : es.length ≤ 16) :
    Calls Try.prog 72 #[ve, .int .i64 gap, vl] w (RetSeq es gap ve vl w) := by
  obtain ⟨aol, capl, rfl, _⟩ := hl
  obtain ⟨ao, cap, rfl, hE⟩ := he
  obtain ⟨be, offe, rfl, hble, hEE⟩ := hE h0
  obtain ⟨v0, vn, vd, _, _, _, hh, _⟩ := hEE (es.length - 1) (by omega)
  have hhot : (es.getD (es.length - 1) (0, 0)).2 = hotI es := rfl
  rw [hhot] at hh
  have e1 : (es.length : Int) - 1 = ((es.length - 1 : Nat) : Int) := by omega
  have e2 : ((es.length - 1 : Nat) : Int) < es.length := by omega
  generalize hP : es.length - 1 = P at *
  clear hP
  obtain ⟨A1, hA1⟩ : ∃ A1, A1 = w.alloc (.cells #[.slice (some ⟨be, offe, none⟩) es.length cap] 24) := ⟨_, rfl⟩
  obtain ⟨A2, hA2⟩ : ∃ A2, A2 = A1.alloc (.cells #[.int .i64 gap] 3) := ⟨_, rfl⟩
  obtain ⟨A3, hA3⟩ : ∃ A3, A3 = A2.alloc (.cells #[.slice aol ls.length capl] 23) := ⟨_, rfl⟩
  have s1 : A1.heap.size = w.heap.size + 1 := by rw [hA1]; simp
  have s2 : A2.heap.size = w.heap.size + 2 := by rw [hA2]; simp; omega
  have s3 : A3.heap.size = w.heap.size + 3 := by rw [hA3]; simp; omega
  have x1 : Below w.heap.size w A1 := by rw [hA1]; exact (Below.refl _ _).alloc (Nat.le_refl _) _
  have x2 : Below w.heap.size w A2 := by rw [hA2]; exact x1.alloc x1.size _
  have x3 : Below w.heap.size w A3 := by rw [hA3]; exact x2.alloc x2.size _
  have b1 : Boxed A1 w.heap.size 24 (.slice (some ⟨be, offe, none⟩) es.length cap) := by rw [hA1]; exact Boxed.new _ _ _
  have b2 : Boxed A2 (w.heap.size + 1) 3 (.int .i64 gap) := by rw [hA2, ← s1]; exact Boxed.new _ _ _
  have b3 : Boxed A3 (w.heap.size + 2) 23 (.slice aol ls.length capl) := by rw [hA3, ← s2]; exact Boxed.new _ _ _
  have b12 : Boxed A2 w.heap.size 24 (.slice (some ⟨be, offe, none⟩) es.length cap) := by rw [hA2]; exact b1.alloc _
  have b13 : Boxed A3 w.heap.size 24 (.slice (some ⟨be, offe, none⟩) es.length cap) := by rw [hA3]; exact b12.alloc _
  have b23 : Boxed A3 (w.heap.size + 1) 3 (.int .i64 gap) := by rw [hA3]; exact b2.alloc _
  have h3 : A3.cell? ⟨be, offe + P * 4 + 3, none⟩ = some (.int .i64 (hotI es)) := (x3.cell (p := ⟨be, _, none⟩) hble).trans hh
  have c13 := b13.cell
  clear hE hEE hhot b1 b2 b12 x1 x2
  rw [hA1] at hA2
  rw [hA2] at hA3
  have HA3 := Lib.hid hA3
  have S3 := Lib.hid s3
  clear hA1 hA2 hA3 s1 s2 s3 A1 A2
  go_enter Try.func72, Try.ntmps72
  go_wp2_with (rw [← HA3.out])
  have b4 := (Boxed.new A3 3 (.int .i64 (hotI es))).alloc (.cells #[.func (.func 91) #[] #[.pointer (some ⟨w.heap.size, 0, none⟩)]] 175)
  have b5 := Boxed.new (A3.alloc (.cells #[.int .i64 (hotI es)] 3)) 175 (.func (.func 91) #[] #[.pointer (some ⟨w.heap.size, 0, none⟩)])
  rw [World.size_alloc] at b5
  rw [S3.out] at b4 b5 ⊢
  go_ret
  exact ⟨rfl, by rw [World.size_alloc, World.size_alloc, S3.out], (x3.alloc x3.size _).alloc (Nat.le_trans x3.size (by simp)) _, (b13.alloc _).alloc _, (b23.alloc _).alloc _, (b3.alloc _).alloc _, b4, b5⟩

/-! ### The iterator -/

/-- Whatever cells lay, but those of block B, lie as they lay. -/
structure KeepCells (B : Nat) (W W' : World) : Prop where
  size : W.heap.size ≤ W'.heap.size
  same : ∀ (k : Nat) (o : Obj), k ≠ B → W.heap[k]? = some o → o.isCells = true → W'.heap[k]? = some o
def KpU (n B : Nat) (W W' : World) : Prop := Below n W W' ∧ KeepCells B W W'
theorem KpU.trans {n B : Nat} {X Y Z : World} (h : KpU n B X Y) (k : KpU n B Y Z) : KpU n B X Z :=
  ⟨h.1.trans k.1, Nat.le_trans h.2.size k.2.size, fun i o hB hi ho => k.2.same i o hB (h.2.same i o hB hi ho) ho⟩
theorem KpU.putObj {n B : Nat} {w : World} (hn : n ≤ w.heap.size) (W : World) (l : Nat) (o o' : Obj) (hl : w.heap.size ≤ l) (h : W.heap[l]? = some o) (hc : o.isCells = false) (hw : o.isWalk = false) : KpU n B W (W.putObj l o') :=
  ⟨belowK_b hn W l o o' hl h hc hw, by simp, fun k o2 _ hk ho => by
    by_cases e : k = l
    · subst e; rw [h] at hk; cases hk; rw [hc] at ho; cases ho
    · exact (World.putObj_heap_other e).trans hk⟩
theorem KpU.boxed {n B : Nat} {X Y : World} (h : KpU n B X Y) {b : Nat} {t : TypeId} {v : Value} (hb : Boxed X b t v) (hne : b ≠ B) : Boxed Y b t v := h.2.same b _ hne hb rfl
theorem KpU.blk {n B : Nat} {X Y : World} (h : KpU n B X Y) {b : Nat} {cs : Array Value} {t : TypeId} {fr : Nat × Nat} (hb : X.heap[b]? = some (.cells cs t fr)) (hne : b ≠ B) : Y.heap[b]? = some (.cells cs t fr) := h.2.same b _ hne hb rfl
theorem boxed_below {X Y : World} {b : Nat} {t : TypeId} {v : Value} (hb : Boxed X b t v) (h : Below X.heap.size X Y) : Boxed Y b t v := (h.block b hb.lt).trans hb

/-- A stretch of time and its worst rate. -/
abbrev Str := { x : Int × Int × Int // 0 ≤ x.2.2 ∧ x.2.2 ≤ 1000 }
def encS (x : Str) : Array Value := #[.agg #[.int .i64 x.1.1, .int .i64 x.1.2.1], .int .i64 x.1.2.2]
def strI (es : List (Rat × Int)) (gap : Int) (ls : List (Int × Nat)) (i : Nat) : Int × Int × Int :=
  (if i = 0 then -9223372036854775808 else lastT ls i, if i < ls.length then (ls.getD i (0, 0)).1 else 9223372036854775807, if i < ls.length then rateI es gap ls i else hotI es)
theorem strI_range {es : List (Rat × Int)} {ls : List (Int × Nat)} {f t : Int} (h : GoodLog es ls f t) (gap : Int) (i : Nat) : 0 ≤ (strI es gap ls i).2.2 ∧ (strI es gap ls i).2.2 ≤ 1000 := by
  show 0 ≤ (if i < ls.length then rateI es gap ls i else hotI es) ∧ (if i < ls.length then rateI es gap ls i else hotI es) ≤ 1000
  split
  · exact h.rate gap i
  · exact h.hot
def strS {es : List (Rat × Int)} {ls : List (Int × Nat)} {f t : Int} (h : GoodLog es ls f t) (gap : Int) (i : Nat) : Str := ⟨strI es gap ls i, strI_range h gap i⟩
def strsTo {es : List (Rat × Int)} {ls : List (Int × Nat)} {f t : Int} (h : GoodLog es ls f t) (gap : Int) (k : Nat) : List Str := (List.range k).map (strS h gap)
theorem strsTo_succ {es : List (Rat × Int)} {ls : List (Int × Nat)} {f t : Int} (h : GoodLog es ls f t) (gap : Int) (k : Nat) : strsTo h gap (k + 1) = strsTo h gap k ++ [strS h gap k] := by simp [strsTo, List.range_succ]
theorem strsTo_length {es : List (Rat × Int)} {ls : List (Int × Nat)} {f t : Int} (h : GoodLog es ls f t) (gap : Int) (k : Nat) : (strsTo h gap k).length = k := by simp [strsTo]
/-- The time from which stretch i goes. -/
def fromT (ls : List (Int × Nat)) (i : Nat) : Int := if i = 0 then -9223372036854775808 else lastT ls i
/-- The rate at the reading ahead. -/
def beforeT (es : List (Rat × Int)) (ls : List (Int × Nat)) (i : Nat) : Int := if i = 0 then hotI es else rateUp es (tempQ (ls.getD (i - 1) (0, 0)).2)
theorem encS_round {es : List (Rat × Int)} {ls : List (Int × Nat)} {f t : Int} (h : GoodLog es ls f t) (gap : Int) (i : Nat) (hi : i < ls.length) :
    encS (strS h gap i) = #[.agg #[.int .i64 (fromT ls i), .int .i64 (ls.getD i (0, 0)).1], .int .i64 (rateI es gap ls i)] := by
  simp only [encS, strS, strI, fromT, if_pos hi]
theorem encS_last {es : List (Rat × Int)} {ls : List (Int × Nat)} {f t : Int} (h : GoodLog es ls f t) (gap : Int) :
    encS (strS h gap ls.length) = #[.agg #[.int .i64 (fromT ls ls.length), .int .i64 9223372036854775807], .int .i64 (hotI es)] := by
  simp only [encS, strS, strI, fromT, if_neg (Nat.lt_irrefl _)]

end Go.Proofs.Ytdjdnfjgklaneaa

/- THE WALK OF THE ITERATOR OF store.stretches. -/
namespace Go.Proofs.Ytdjdnfjgklaneaa
open Go.RowKit Go.Shelf

attribute [local go_sem] Oper.semAt_some

theorem keepA3 {n : Nat} {W a b : World} {A0 A1 A2 : Addr} {v0 v1 v2 : Value} (hn : n ≤ W.heap.size) (hb : Below a.heap.size a b)
    (h : Below n W a ∧ a.cell? A0 = some v0 ∧ a.cell? A1 = some v1 ∧ a.cell? A2 = some v2) :
    Below n W b ∧ b.cell? A0 = some v0 ∧ b.cell? A1 = some v1 ∧ b.cell? A2 = some v2 := by
  obtain ⟨h0, h1, h2, h3⟩ := h
  have e : ∀ A v, a.cell? A = some v → b.cell? A = some v := fun A v h => (hb.cell (World.block_lt_of_cell? (h := h))).trans h
  have hs := h0.size
  exact ⟨h0.trans (hb.mono (by omega)), e _ _ h1, e _ _ h2, e _ _ h3⟩
theorem below_join {w a b : World} (h : Below w.heap.size w a) (k : Below a.heap.size a b) : Below w.heap.size w b := ext_trans h k
theorem strsTo_prefix {es : List (Rat × Int)} {ls : List (Int × Nat)} {f t : Int} (h : GoodLog es ls f t) (gap : Int) {k m : Nat} (hk : k ≤ m) : strsTo h gap k <+: strsTo h gap m := by
  induction m with
  | zero =>
    have : k = 0 := by omega
    rw [this]
    exact List.prefix_refl _
  | succ m ih =>
    rcases Nat.lt_or_ge k (m + 1) with h1 | h1
    · rw [strsTo_succ]
      exact (ih (by omega)).trans (List.prefix_append _ _)
    · obtain rfl : k = m + 1 := by omega
      exact List.prefix_refl _

/-- What the iterator owes. -/
def IterPost (xs : List Str) (J Jx : List Str → World → Prop) (e : Ending) (W' : World) : Prop :=
  (∃ v, e = .returned v) ∧ ((∃ ys, ys = xs ∧ J ys W') ∨ (∃ pre, pre <+: xs ∧ Jx pre W'))

set_option maxRecDepth 100000 in
set_option maxHeartbeats 4000000 in
theorem iter_in (es : List (Rat × Int)) (gap : Int) (ls : List (Int × Nat)) (f t : Int) (hg : GoodLog es ls f t) (ve vl : Value) (w0 : World) (he : EntsOf IsRat w0 ve es) (hl : LogOf w0 vl ls)
    (hs : ∀ i, i < es.length → szR (es.getD i (0, 0)).1 274877906944) (B B1 B2 B3 B4 B5 l n : Nat) (hn : 1 ≤ n) (h1 : B1 ≠ B) (h2 : B2 ≠ B) (h3 : B3 ≠ B) (h4 : B4 ≠ B) (h5 : B5 ≠ B) (J Jx : List Str → World → Prop) (W : World) (hW : Below w0.heap.size w0 W)
    (hB : B < W.heap.size) (hlen : es.length ≤ 1000000) (hJa : AbidesFrom W.heap.size J)
    (hY : ∀ pre x W1, J pre W1 → pre.length < ls.length + 1 → YieldAt Fence.wide (n - 1) Try.prog l (encS x) W1 fun e W' =>
      (e = .returned (.bool true) ∧ J (pre ++ [x]) W' ∧ KpU w0.heap.size B W1 W') ∨ (e = .returned (.bool false) ∧ Jx (pre ++ [x]) W'))
    (b1 : Boxed W B1 3 (.int .i64 (hotI es))) (b2 : Boxed W B2 23 vl) (b3 : Boxed W B3 3 (.int .i64 gap)) (b4 : Boxed W B4 175 (.func (.func 91) #[] #[.pointer (some ⟨B5, 0, none⟩)])) (b5 : Boxed W B5 24 ve)
    (h0 : J [] W) :
    CallsIn Fence.wide n Try.prog 92 #[.func (.yield l) #[] #[], .pointer (some ⟨B1, 0, none⟩), .pointer (some ⟨B2, 0, none⟩), .pointer (some ⟨B3, 0, none⟩), .pointer (some ⟨B4, 0, none⟩)] W
      (IterPost (strsTo hg gap (ls.length + 1)) J Jx) := by
  have HY := Lib.hid hY
  have HG := Lib.hid hg
  have HJ := Lib.hid hJa
  have HE := Lib.hid he
  have HS := Lib.hid hs
  obtain ⟨aol, capl, rfl, hL⟩ := hl
  have HL := Lib.hid hL
  have c1 := b1.cell
  have c2 := b2.cell
  clear hY hJa he hs hL
  refine callsIn_of_wp Try.func92 rfl trivial ?_ rfl
  simp only [Try.ntmps92, List.size_toArray, List.length_cons, List.length_nil, Nat.reduceAdd, Nat.reduceSub, Array.replicate_succ, Array.replicate_zero, List.push_toArray, List.append_toArray, List.nil_append, List.cons_append]
  gi_wp2
  refine wpIn_wide.2 ?_
  go_region
  gi_wp2
  gi_loopw [6, 7, 14] (fun fv bv iv wr => ∃ (i : Nat), i ≤ ls.length ∧ iv = .int .i64 i ∧ fv = .int .i64 (fromT ls i) ∧ bv = .int .i64 (beforeT es ls i) ∧ J (strsTo hg gap i) wr ∧ Below w0.heap.size w0 wr ∧ W.heap.size ≤ wr.heap.size ∧
      Boxed wr B1 3 (.int .i64 (hotI es)) ∧ Boxed wr B2 23 (.slice aol ls.length capl) ∧ Boxed wr B3 3 (.int .i64 gap) ∧ Boxed wr B4 175 (.func (.func 91) #[] #[.pointer (some ⟨B5, 0, none⟩)]) ∧ Boxed wr B5 24 ve)
    (fun _ _ iv _ => ls.length - (intOf iv).toNat)
  case atStart => exact ⟨0, Nat.zero_le _, rfl, rfl, rfl, HJ.out _ _ _ none h0 (grownBy_below ((Below.refl _ _).drew) none) (fun r e => by cases e), hW.drew, Nat.le_refl _, b1, b2, b3, b4, b5⟩
  case round =>
    clear h0 b1 b2 b3 b4 b5 c1 c2 hW
    obtain ⟨i, hi, rfl, rfl, rfl, hJ, hbel, hsz, b1, b2, b3, b4, b5⟩ := hrel
    have c1 := b1.cell
    have c2 := b2.cell
    have c3 := b3.cell
    have c4 := b4.cell
    have l1 := b1.lt
    have l2 := b2.lt
    have l3 := b3.lt
    have l4 := b4.lt
    by_cases hlt : i < ls.length
    · obtain ⟨b, off, rfl, hbl, hLL⟩ := HL.out (by omega)
      obtain ⟨g0, g1⟩ := (hLL i hlt).below hbel hbl
      have hbl2 : b < wr.heap.size := Nat.lt_of_lt_of_le hbl hbel.size
      have hlt' : (i : Int) < ls.length := by omega
      have hge' : (0 : Int) ≤ i := by omega
      have hLL' := Lib.hid hLL
      have HJ0 := Lib.hid hJ
      have hsf := run_store_f32
      have hneB : wr.heap.size ≠ B := by omega
      have hll := (log_ok HG.out.log).1
      have Henc := Lib.hid (encS_round HG.out gap i hlt)
      have hrI : Hid (rateI es gap ls i = if 0 < i ∧ (ls.getD i (0, 0)).1 - (ls.getD (i - 1) (0, 0)).1 ≤ gap then max (rateUp es (tempQ (ls.getD (i - 1) (0, 0)).2)) (rateUp es (tempQ (ls.getD i (0, 0)).2)) else hotI es) := rfl
      have Hfr : Hid (fromT ls (i + 1) = (ls.getD i (0, 0)).1) := by show fromT ls (i + 1) = _; unfold fromT lastT; rw [if_neg (by omega), if_neg (by omega)]; rfl
      have Hbe : Hid (beforeT es ls (i + 1) = rateUp es (tempQ (ls.getD i (0, 0)).2)) := by show beforeT es ls (i + 1) = _; unfold beforeT; rw [if_neg (by omega)]; rfl
      have hrg := (log_ok HG.out.log).2 i hlt
      generalize (ls.getD i (0, 0)).1 = ty at *
      generalize (ls.getD i (0, 0)).2 = bt at *
      clear hLL hJ
      have hN := blk_new wr #[.int .i64 ty, .float .f32 bt] 32
      have hal := (Below.refl wr.heap.size wr).alloc (Nat.le_refl _) (.cells #[.int .i64 ty, .float .f32 bt] 32)
      have s0 : (wr.alloc (.cells #[.int .i64 ty, .float .f32 bt] 32)).drew.cell? ⟨wr.heap.size, 0, none⟩ = some (.int .i64 ty) := blk_cell hN 0 _ rfl
      have s1 : (wr.alloc (.cells #[.int .i64 ty, .float .f32 bt] 32)).drew.cell? ⟨wr.heap.size, 1, none⟩ = some (.float .f32 bt) := blk_cell hN 1 _ rfl
      have hNd : (wr.alloc (.cells #[.int .i64 ty, .float .f32 bt] 32)).drew.heap[wr.heap.size]? = some (.cells #[.int .i64 ty, .float .f32 bt] 32 (0, 0)) := hN
      have hald := hal.drew
      by_cases hcase : 0 < i ∧ ty - (ls.getD (i - 1) (0, 0)).1 ≤ gap
      · obtain ⟨hi0, hle⟩ := hcase
        have ti : decide (0 < i) = true := by simp [hi0]
        obtain ⟨j, hj⟩ : ∃ j, i = j + 1 := ⟨i - 1, by omega⟩
        have e3 : i - 1 = j := by omega
        have HR0 : Hid (rateI es gap ls i = max (beforeT es ls i) (rateUp es (tempQ bt))) := by
          show _ = _
          rw [hrI.out, if_pos ⟨hi0, hle⟩]
          unfold beforeT
          rw [if_neg (by omega)]
        have hrgj := (log_ok HG.out.log).2 j (by omega)
        rw [e3] at hle
        have hws : IntKind.i64.wrap (ty - (ls.getD j (0, 0)).1) = ty - (ls.getD j (0, 0)).1 := IntWalk.i64_in _ (by omega)
        have hc : decide (ty - (ls.getD j (0, 0)).1 ≤ gap) = true := decide_eq_true hle
        have e1' : IntKind.i64.wrap ((i : Int) - 1) = (j : Int) := by rw [show (i : Int) - 1 = (j : Int) by omega]; exact IntWalk.i64_in _ (by omega)
        have hj2 : (j : Int) < ls.length := by omega
        have hj0 : (0 : Int) ≤ j := by omega
        obtain ⟨k0, _⟩ := (hLL'.out j (by omega)).below hbel hbl
        generalize (ls.getD j (0, 0)).1 = tj at *
        clear hi0 hj e3 hrI hle hrgj
        gi_wp2
        refine wpIn_wide.2 ?_
        go_region_held3 (fun w' => Below wr.heap.size wr w' ∧ w'.cell? ⟨wr.heap.size, 0, none⟩ = some (.int .i64 ty) ∧ w'.cell? ⟨B2, 0, none⟩ = some (.slice (some ⟨b, off, none⟩) ls.length capl) ∧ w'.cell? ⟨b, off + j * 2, none⟩ = some (.int .i64 tj) ∧ w'.cell? ⟨B3, 0, none⟩ = some (.int .i64 gap))
          (first | exact ⟨hal.drew, s0, (hal.cell (p := ⟨B2, 0, none⟩) l2).trans c2, (hal.cell (p := ⟨b, _, none⟩) hbl2).trans k0, (hal.cell (p := ⟨B3, 0, none⟩) l3).trans c3⟩)
          (first | skip)
        rename_i hS2
        clear hS2 k0 hws hc e1' hj0 hj2

        obtain ⟨wA, hwA⟩ : ∃ wA, wA = (wr.alloc (.cells #[.int .i64 ty, .float .f32 bt] 32)).drew := ⟨_, rfl⟩
        rw [← hwA] at hNd hald s0 s1 ⊢
        have c4A := (hald.cell (p := ⟨B4, 0, none⟩) l4).trans c4
        clear hwA hN hal c1 c2 c3 c4

        gi_wp2
        refine ⟨trivial, ?_⟩
        refine (callsIn_wide.2 (rateF_any es bt B5 ve _ (boxed_below b5 hald) (HE.out.below IsRat.belowAll (below_join hbel hald)) HS.out hlen)).mono ?_
        rintro e wY ⟨rfl, hbY⟩
        have hxY := hald.trans (hbY.mono hald.size)
        have NY := blk_keep hNd hbY (blk_lt hNd)

        have hJY := HJ.out _ _ wY none HJ0.out (grownBy_below hxY none) (fun r e => by cases e)
        replace b1 := boxed_below b1 hxY
        replace b2 := boxed_below b2 hxY
        replace b3 := boxed_below b3 hxY
        replace b4 := boxed_below b4 hxY
        replace b5 := boxed_below b5 hxY
        replace hbel := below_join hbel hxY
        replace hsz := Nat.le_trans hsz hxY.size
        obtain ⟨fn, tmps, assign, body, hy, hR⟩ := HY.out _ (strS hg gap i) wY hJY (by rw [strsTo_length]; omega)

        rw [Henc.out, HR0.out] at hy
        have cY := blk_cell NY 0 (.int .i64 ty) rfl
        clear c4A s0 s1 hNd hald hbY hxY hJY
        gi_wp2

        refine hR.mono ?_
        rintro e W3 (⟨rfl, hJ3, hk3⟩ | ⟨rfl, hJx3⟩)
        · have hN3 := hk3.blk NY hneB
          have b13 := hk3.boxed b1 h1
          have b23 := hk3.boxed b2 h2
          have b33 := hk3.boxed b3 h3
          have b43 := hk3.boxed b4 h4
          have b53 := hk3.boxed b5 h5
          have hbel3 := hbel.trans hk3.1
          have hsz3 := Nat.le_trans hsz hk3.2.size
          have t0 := blk_cell hN3 0 (.int .i64 ty) rfl
          have t1 := blk_cell hN3 1 (.float .f32 bt) rfl
          have t4 := b43.cell
          have hNl := blk_lt hN3
          have HJ3 := Lib.hid hJ3
          clear hk3 hR hJ3 hN3 NY b1 b2 b3 b4 b5 hbel hsz hy
          gi_wp2
          refine wpIn_wide.2 ?_
          go_region_held3 (fun w' => Below W3.heap.size W3 w' ∧ w'.cell? ⟨wr.heap.size, 0, none⟩ = some (.int .i64 ty) ∧ w'.cell? ⟨wr.heap.size, 1, none⟩ = some (.float .f32 bt) ∧ w'.cell? ⟨B4, 0, none⟩ = some (.func (.func 91) #[] #[.pointer (some ⟨B5, 0, none⟩)]))
            (first | exact ⟨(Below.refl _ _).drew, t0, t1, t4⟩ | assumption | (refine keepA3 (Nat.le_refl _) hbB ?_; assumption))
            (first | (go_at_call 91; refine (rateF_any es bt B5 ve _ (boxed_below b53 (And.left (by assumption))) (HE.out.below IsRat.belowAll (below_join hbel3 (And.left (by assumption)))) HS.out hlen).mono ?_; rintro e wB ⟨rfl, hbB⟩))
          rename_i hS2
          have hx := hS2.1
          clear hS2 hbB t0 t1 t4
          gi_wp2
          exact ⟨⟨i + 1, by omega, by go_num, by rw [Hfr.out], by rw [Hbe.out], by rw [strsTo_succ]; exact HJ.out _ _ _ none HJ3.out (grownBy_below hx none) (fun r e => by cases e), below_join hbel3 hx, Nat.le_trans hsz3 hx.size, boxed_below b13 hx, boxed_below b23 hx, boxed_below b33 hx, boxed_below b43 hx, boxed_below b53 hx⟩, meas_up hlt⟩
        · gi_wp2
          refine bodyPost_ret (results_none rfl _ _ _) rfl ?_
          exact ⟨⟨_, rfl⟩, .inr ⟨strsTo hg gap i ++ [strS hg gap i], by rw [← strsTo_succ]; exact strsTo_prefix hg gap (by omega), hJx3⟩⟩
      · have HR0 : Hid (rateI es gap ls i = hotI es) := by
          show _ = _
          rw [hrI.out, if_neg hcase]

        rcases Nat.eq_zero_or_pos i with hi0 | hi0
        · have ti : decide (0 < i) = false := by simp [hi0]
          clear hi0 hcase hrI
          gi_wp2
          refine wpIn_wide.2 ?_
          go_region

          obtain ⟨wY, hwY⟩ : ∃ wY, wY = (wr.alloc (.cells #[.int .i64 ty, .float .f32 bt] 32)).drew := ⟨_, rfl⟩
          rw [← hwY] at hNd hald s0 s1 ⊢
          have NY := hNd
          clear hwY hN hal c1 c2 c3 c4

          have hJY := HJ.out _ _ wY none HJ0.out (grownBy_below hald none) (fun r e => by cases e)
          replace b1 := boxed_below b1 hald
          replace b2 := boxed_below b2 hald
          replace b3 := boxed_below b3 hald
          replace b4 := boxed_below b4 hald
          replace b5 := boxed_below b5 hald
          replace hbel := below_join hbel hald
          replace hsz := Nat.le_trans hsz hald.size
          obtain ⟨fn, tmps, assign, body, hy, hR⟩ := HY.out _ (strS hg gap i) wY hJY (by rw [strsTo_length]; omega)

          rw [Henc.out, HR0.out] at hy
          have cY := blk_cell NY 0 (.int .i64 ty) rfl
          clear s0 s1 hNd hald hJY
          gi_wp2

          refine hR.mono ?_
          rintro e W3 (⟨rfl, hJ3, hk3⟩ | ⟨rfl, hJx3⟩)
          · have hN3 := hk3.blk NY hneB
            have b13 := hk3.boxed b1 h1
            have b23 := hk3.boxed b2 h2
            have b33 := hk3.boxed b3 h3
            have b43 := hk3.boxed b4 h4
            have b53 := hk3.boxed b5 h5
            have hbel3 := hbel.trans hk3.1
            have hsz3 := Nat.le_trans hsz hk3.2.size
            have t0 := blk_cell hN3 0 (.int .i64 ty) rfl
            have t1 := blk_cell hN3 1 (.float .f32 bt) rfl
            have t4 := b43.cell
            have hNl := blk_lt hN3
            have HJ3 := Lib.hid hJ3
            clear hk3 hR hJ3 hN3 NY b1 b2 b3 b4 b5 hbel hsz hy
            gi_wp2
            refine wpIn_wide.2 ?_
            go_region_held3 (fun w' => Below W3.heap.size W3 w' ∧ w'.cell? ⟨wr.heap.size, 0, none⟩ = some (.int .i64 ty) ∧ w'.cell? ⟨wr.heap.size, 1, none⟩ = some (.float .f32 bt) ∧ w'.cell? ⟨B4, 0, none⟩ = some (.func (.func 91) #[] #[.pointer (some ⟨B5, 0, none⟩)]))
              (first | exact ⟨(Below.refl _ _).drew, t0, t1, t4⟩ | assumption | (refine keepA3 (Nat.le_refl _) hbB ?_; assumption))
              (first | (go_at_call 91; refine (rateF_any es bt B5 ve _ (boxed_below b53 (And.left (by assumption))) (HE.out.below IsRat.belowAll (below_join hbel3 (And.left (by assumption)))) HS.out hlen).mono ?_; rintro e wB ⟨rfl, hbB⟩))
            rename_i hS2
            have hx := hS2.1
            clear hS2 hbB t0 t1 t4
            gi_wp2
            exact ⟨⟨i + 1, by omega, by go_num, by rw [Hfr.out], by rw [Hbe.out], by rw [strsTo_succ]; exact HJ.out _ _ _ none HJ3.out (grownBy_below hx none) (fun r e => by cases e), below_join hbel3 hx, Nat.le_trans hsz3 hx.size, boxed_below b13 hx, boxed_below b23 hx, boxed_below b33 hx, boxed_below b43 hx, boxed_below b53 hx⟩, meas_up hlt⟩
          · gi_wp2
            refine bodyPost_ret (results_none rfl _ _ _) rfl ?_
            exact ⟨⟨_, rfl⟩, .inr ⟨strsTo hg gap i ++ [strS hg gap i], by rw [← strsTo_succ]; exact strsTo_prefix hg gap (by omega), hJx3⟩⟩
        · have ti : decide (0 < i) = true := by simp [hi0]
          obtain ⟨j, hj⟩ : ∃ j, i = j + 1 := ⟨i - 1, by omega⟩
          have e3 : i - 1 = j := by omega
          have hrgj := (log_ok HG.out.log).2 j (by omega)
          rw [e3] at hcase
          have hws : IntKind.i64.wrap (ty - (ls.getD j (0, 0)).1) = ty - (ls.getD j (0, 0)).1 := IntWalk.i64_in _ (by omega)
          have hc : decide (ty - (ls.getD j (0, 0)).1 ≤ gap) = false := decide_eq_false (fun h => hcase ⟨hi0, h⟩)
          have e1' : IntKind.i64.wrap ((i : Int) - 1) = (j : Int) := by rw [show (i : Int) - 1 = (j : Int) by omega]; exact IntWalk.i64_in _ (by omega)
          have hj2 : (j : Int) < ls.length := by omega
          have hj0 : (0 : Int) ≤ j := by omega
          obtain ⟨k0, _⟩ := (hLL'.out j (by omega)).below hbel hbl
          generalize (ls.getD j (0, 0)).1 = tj at *
          clear hi0 hj e3 hrI hcase hrgj
          gi_wp2
          refine wpIn_wide.2 ?_
          go_region_held3 (fun w' => Below wr.heap.size wr w' ∧ w'.cell? ⟨wr.heap.size, 0, none⟩ = some (.int .i64 ty) ∧ w'.cell? ⟨B2, 0, none⟩ = some (.slice (some ⟨b, off, none⟩) ls.length capl) ∧ w'.cell? ⟨b, off + j * 2, none⟩ = some (.int .i64 tj) ∧ w'.cell? ⟨B3, 0, none⟩ = some (.int .i64 gap))
            (first | exact ⟨hal.drew, s0, (hal.cell (p := ⟨B2, 0, none⟩) l2).trans c2, (hal.cell (p := ⟨b, _, none⟩) hbl2).trans k0, (hal.cell (p := ⟨B3, 0, none⟩) l3).trans c3⟩)
            (first | skip)
          rename_i hS2
          clear hS2 k0 hws hc e1' hj0 hj2

          obtain ⟨wY, hwY⟩ : ∃ wY, wY = (wr.alloc (.cells #[.int .i64 ty, .float .f32 bt] 32)).drew := ⟨_, rfl⟩
          rw [← hwY] at hNd hald s0 s1 ⊢
          have NY := hNd
          clear hwY hN hal c1 c2 c3 c4

          have hJY := HJ.out _ _ wY none HJ0.out (grownBy_below hald none) (fun r e => by cases e)
          replace b1 := boxed_below b1 hald
          replace b2 := boxed_below b2 hald
          replace b3 := boxed_below b3 hald
          replace b4 := boxed_below b4 hald
          replace b5 := boxed_below b5 hald
          replace hbel := below_join hbel hald
          replace hsz := Nat.le_trans hsz hald.size
          obtain ⟨fn, tmps, assign, body, hy, hR⟩ := HY.out _ (strS hg gap i) wY hJY (by rw [strsTo_length]; omega)

          rw [Henc.out, HR0.out] at hy
          have cY := blk_cell NY 0 (.int .i64 ty) rfl
          clear s0 s1 hNd hald hJY
          gi_wp2

          refine hR.mono ?_
          rintro e W3 (⟨rfl, hJ3, hk3⟩ | ⟨rfl, hJx3⟩)
          · have hN3 := hk3.blk NY hneB
            have b13 := hk3.boxed b1 h1
            have b23 := hk3.boxed b2 h2
            have b33 := hk3.boxed b3 h3
            have b43 := hk3.boxed b4 h4
            have b53 := hk3.boxed b5 h5
            have hbel3 := hbel.trans hk3.1
            have hsz3 := Nat.le_trans hsz hk3.2.size
            have t0 := blk_cell hN3 0 (.int .i64 ty) rfl
            have t1 := blk_cell hN3 1 (.float .f32 bt) rfl
            have t4 := b43.cell
            have hNl := blk_lt hN3
            have HJ3 := Lib.hid hJ3
            clear hk3 hR hJ3 hN3 NY b1 b2 b3 b4 b5 hbel hsz hy
            gi_wp2
            refine wpIn_wide.2 ?_
            go_region_held3 (fun w' => Below W3.heap.size W3 w' ∧ w'.cell? ⟨wr.heap.size, 0, none⟩ = some (.int .i64 ty) ∧ w'.cell? ⟨wr.heap.size, 1, none⟩ = some (.float .f32 bt) ∧ w'.cell? ⟨B4, 0, none⟩ = some (.func (.func 91) #[] #[.pointer (some ⟨B5, 0, none⟩)]))
              (first | exact ⟨(Below.refl _ _).drew, t0, t1, t4⟩ | assumption | (refine keepA3 (Nat.le_refl _) hbB ?_; assumption))
              (first | (go_at_call 91; refine (rateF_any es bt B5 ve _ (boxed_below b53 (And.left (by assumption))) (HE.out.below IsRat.belowAll (below_join hbel3 (And.left (by assumption)))) HS.out hlen).mono ?_; rintro e wB ⟨rfl, hbB⟩))
            rename_i hS2
            have hx := hS2.1
            clear hS2 hbB t0 t1 t4
            gi_wp2
            exact ⟨⟨i + 1, by omega, by go_num, by rw [Hfr.out], by rw [Hbe.out], by rw [strsTo_succ]; exact HJ.out _ _ _ none HJ3.out (grownBy_below hx none) (fun r e => by cases e), below_join hbel3 hx, Nat.le_trans hsz3 hx.size, boxed_below b13 hx, boxed_below b23 hx, boxed_below b33 hx, boxed_below b43 hx, boxed_below b53 hx⟩, meas_up hlt⟩
          · gi_wp2
            refine bodyPost_ret (results_none rfl _ _ _) rfl ?_
            exact ⟨⟨_, rfl⟩, .inr ⟨strsTo hg gap i ++ [strS hg gap i], by rw [← strsTo_succ]; exact strsTo_prefix hg gap (by omega), hJx3⟩⟩
    · obtain rfl : i = ls.length := by omega
      obtain ⟨fn, tmps, assign, body, hy, hR⟩ := HY.out _ (strS hg gap ls.length) wr hJ (by rw [strsTo_length]; omega)
      rw [encS_last] at hy
      have HR := Lib.hid hR
      clear hR
      gi_wp2
      refine HR.out.mono ?_
      rintro e W3 (⟨rfl, hJ3, hk3⟩ | ⟨rfl, hJx3⟩)
      · gi_wp2
        go_end0
        exact ⟨⟨_, rfl⟩, .inl ⟨_, by rw [strsTo_succ], hJ3⟩⟩
      · gi_wp2
        go_end0
        exact ⟨⟨_, rfl⟩, .inr ⟨_, by rw [← strsTo_succ]; exact List.prefix_refl _, hJx3⟩⟩

end Go.Proofs.Ytdjdnfjgklaneaa

/- THE WALK OF store.used. -/
namespace Go.Proofs.Ytdjdnfjgklaneaa
open Go.RowKit Go.Shelf

attribute [local go_sem] Oper.semAt_some

theorem iter_stops (es : List (Rat × Int)) (gap : Int) (ls : List (Int × Nat)) (f t : Int) (hg : GoodLog es ls f t) (ve vl : Value) (w0 : World) (he : EntsOf IsRat w0 ve es) (hl : LogOf w0 vl ls)
    (hs : ∀ i, i < es.length → szR (es.getD i (0, 0)).1 274877906944) (B B1 B2 B3 B4 B5 n : Nat) (hn : 1 ≤ n) (h1 : B1 ≠ B) (h2 : B2 ≠ B) (h3 : B3 ≠ B) (h4 : B4 ≠ B) (h5 : B5 ≠ B) (W1 : World) (hW : Below w0.heap.size w0 W1)
    (hB : B < W1.heap.size) (hlen : es.length ≤ 1000000)
    (b1 : Boxed W1 B1 3 (.int .i64 (hotI es))) (b2 : Boxed W1 B2 23 vl) (b3 : Boxed W1 B3 3 (.int .i64 gap)) (b4 : Boxed W1 B4 175 (.func (.func 91) #[] #[.pointer (some ⟨B5, 0, none⟩)])) (b5 : Boxed W1 B5 24 ve) :
    SeqStopsK Fence.wide n Try.prog 92 #[.pointer (some ⟨B1, 0, none⟩), .pointer (some ⟨B2, 0, none⟩), .pointer (some ⟨B3, 0, none⟩), .pointer (some ⟨B4, 0, none⟩)] encS (KpU w0.heap.size B) (fun ys => ys = strsTo hg gap (ls.length + 1)) (fun pre => pre <+: strsTo hg gap (ls.length + 1)) (ls.length + 1) W1 :=
  fun l J Jx W hW1 hJ _ hY h0 =>
    iter_in es gap ls f t hg ve vl w0 he hl hs B B1 B2 B3 B4 B5 l n hn h1 h2 h3 h4 h5 J Jx W (below_join hW hW1) (Nat.lt_of_lt_of_le hB hW1.size) hlen hJ hY (boxed_below b1 hW1) (boxed_below b2 hW1) (boxed_below b3 hW1) (boxed_below b4 hW1) (boxed_below b5 hW1) h0

/-- What a stretch adds. -/
def addI (f t : Int) (x : Str) : Int := if max x.1.1 f < min x.1.2.1 t then (min x.1.2.1 t - max x.1.1 f) * x.1.2.2 else 0
def sumI (f t : Int) (xs : List Str) : Int := xs.foldl (fun s x => s + addI f t x) 0
theorem sumI_snoc (f t : Int) (xs : List Str) (x : Str) : sumI f t (xs ++ [x]) = sumI f t xs + addI f t x := by simp [sumI]
theorem addI_range {f t : Int} (hf : 0 ≤ f) (ht : t ≤ 1073741824) (x : Str) : 0 ≤ addI f t x ∧ addI f t x ≤ 1073741824000 := by
  unfold addI
  split
  · have := mul_range x.2.1 x.2.2 (show 0 ≤ min x.1.2.1 t - max x.1.1 f by omega) (show min x.1.2.1 t - max x.1.1 f ≤ 1073741824 by omega)
    rw [Int.mul_comm]
    exact this
  · omega
theorem sumI_foldl {f t : Int} (hf : 0 ≤ f) (ht : t ≤ 1073741824) (xs : List Str) (s : Int) : s ≤ xs.foldl (fun s x => s + addI f t x) s ∧ xs.foldl (fun s x => s + addI f t x) s ≤ s + 1073741824000 * xs.length := by
  induction xs generalizing s with
  | nil => simp
  | cons x xs ih =>
    have := ih (s + addI f t x)
    have := addI_range hf ht x
    simp only [List.foldl_cons, List.length_cons]
    omega
theorem sumI_range {f t : Int} (hf : 0 ≤ f) (ht : t ≤ 1073741824) (xs : List Str) : 0 ≤ sumI f t xs ∧ sumI f t xs ≤ 1073741824000 * xs.length := by
  have := sumI_foldl hf ht xs 0
  unfold sumI
  omega

theorem KeepCells.alloc (B : Nat) (W : World) (o : Obj) : KeepCells B W (W.alloc o) :=
  ⟨by simp, fun k o2 _ hk _ => (Below.heap_alloc W o k (Array.getElem?_eq_some_iff.1 hk).1).trans hk⟩
theorem KeepCells.set (B : Nat) (W : World) (v : Value) : KeepCells B W (W.setCell ⟨B, 0, none⟩ v) :=
  ⟨by simp, fun k o2 hB hk _ => (Below.heap_setCell W _ v k hB).trans hk⟩
theorem keepsN (B : Nat) (W : World) (n : Nat) : KeepsFrom B W (W.drewN n) := ⟨Nat.le_refl _, fun k o _ hk _ => hk⟩
theorem KeepCells.drewN (B : Nat) (W : World) (n : Nat) : KeepCells B W (W.drewN n) := ⟨Nat.le_refl _, fun k o2 _ hk _ => hk⟩
theorem KeepCells.setN (B : Nat) (W : World) (n : Nat) (v : Value) : KeepCells B W ((W.drewN n).setCell ⟨B, 0, none⟩ v) := ⟨(KeepCells.set B (W.drewN n) v).size, fun k o2 hB hk ho => (KeepCells.set B (W.drewN n) v).same k o2 hB hk ho⟩

set_option maxRecDepth 100000 in
set_option maxHeartbeats 4000000 in
theorem used_any (es : List (Rat × Int)) (gap : Int) (ls : List (Int × Nat)) (f t : Int) (hg : GoodLog es ls f t) (ve vl : Value) (w : World) (he : EntsOf IsRat w ve es) (hl : LogOf w vl ls)
    (hs : ∀ i, i < es.length → szR (es.getD i (0, 0)).1 274877906944) :
    Calls Try.prog 43 #[ve, .int .i64 gap, vl, .int .i64 f, .int .i64 t] w (RetInt (sumI f t (strsTo hg gap (ls.length + 1))) w) := by
  have HG := Lib.hid hg
  obtain ⟨h0, h16, _⟩ := tab_ok hg.tab
  have HE := Lib.hid he
  have HL := Lib.hid hl
  have HS := Lib.hid hs
  obtain ⟨aol, capl, rfl, _⟩ := hl
  obtain ⟨ao, cap, rfl, _⟩ := he
  clear hs
  obtain ⟨A1, hA1⟩ : ∃ A1, A1 = w.alloc (.cells #[.int .i64 f] 3) := ⟨_, rfl⟩
  obtain ⟨A2, hA2⟩ : ∃ A2, A2 = A1.alloc (.cells #[.int .i64 t] 3) := ⟨_, rfl⟩
  obtain ⟨A3, hA3⟩ : ∃ A3, A3 = A2.alloc (.cells #[.int .i64 0] 3) := ⟨_, rfl⟩
  have s1 : A1.heap.size = w.heap.size + 1 := by rw [hA1]; simp
  have s2 : A2.heap.size = w.heap.size + 2 := by rw [hA2]; simp; omega
  have s3 : A3.heap.size = w.heap.size + 3 := by rw [hA3]; simp; omega
  have x1 : Below w.heap.size w A1 := by rw [hA1]; exact (Below.refl _ _).alloc (Nat.le_refl _) _
  have x2 : Below w.heap.size w A2 := by rw [hA2]; exact x1.alloc x1.size _
  have x3 : Below w.heap.size w A3 := by rw [hA3]; exact x2.alloc x2.size _
  have b1 : Boxed A1 w.heap.size 3 (.int .i64 f) := by rw [hA1]; exact Boxed.new _ _ _
  have b2 : Boxed A2 (w.heap.size + 1) 3 (.int .i64 t) := by rw [hA2, ← s1]; exact Boxed.new _ _ _
  have b3 : Boxed A3 (w.heap.size + 2) 3 (.int .i64 0) := by rw [hA3, ← s2]; exact Boxed.new _ _ _
  have b12 : Boxed A2 w.heap.size 3 (.int .i64 f) := by rw [hA2]; exact b1.alloc _
  have b13 : Boxed A3 w.heap.size 3 (.int .i64 f) := by rw [hA3]; exact b12.alloc _
  have b23 : Boxed A3 (w.heap.size + 1) 3 (.int .i64 t) := by rw [hA3]; exact b2.alloc _
  clear b1 b2 b12 x1 x2
  rw [hA1] at hA2
  rw [hA2] at hA3
  have HA3 := Lib.hid hA3
  have S3 := Lib.hid s3
  clear hA1 hA2 hA3 s1 s2 s3 A1 A2
  refine (callsIn_wide (n := 3)).1 ?_
  refine callsIn_of_wp_marks Try.func43 rfl trivial ?_ rfl
  simp only [Try.ntmps43, List.size_toArray, List.length_cons, List.length_nil, Nat.reduceAdd, Nat.reduceSub, Array.replicate_succ, Array.replicate_zero, List.push_toArray, List.append_toArray, List.nil_append, List.cons_append]
  gi_wp2
  refine ⟨trivial, ?_⟩
  rw [← HA3.out]
  refine (callsIn_wide.2 (stretches_any es gap _ _ ls _ (HE.out.below IsRat.belowAll x3) (HL.out.below x3) h0 h16)).mono ?_
  rintro e W1 ⟨rfl, hsz, hb1, c5, c3, c2, c1, c4⟩
  rw [S3.out] at hsz hb1 c1 c2 c3 c4 c5 ⊢
  have hW1 : Below w.heap.size w W1 := x3.trans (hb1.mono (by omega))
  have d3 : Boxed W1 (w.heap.size + 1 + 1) 3 (.int .i64 0) := (hb1.block _ (by omega)).trans b3
  have d2 : Boxed W1 (w.heap.size + 1) 3 (.int .i64 t) := (hb1.block _ (by omega)).trans b23
  have d1 : Boxed W1 w.heap.size 3 (.int .i64 f) := (hb1.block _ (by omega)).trans b13
  clear b3 b13 b23 x3 hb1 HA3 S3
  gi_wp2
  refine wpIn_rangeFunc_ownH rfl (by omega) (gf := 92) (lb := #[.pointer (some ⟨w.heap.size + 3 + 3, 0, none⟩), .pointer (some ⟨w.heap.size + 3 + 2, 0, none⟩), .pointer (some ⟨w.heap.size + 3 + 1, 0, none⟩), .pointer (some ⟨w.heap.size + 3 + 4, 0, none⟩)]) rfl trivial (enters_of Try.func92 (by kernel_rfl) rfl)
    (iter_stops es gap ls f t hg _ _ w HE.out HL.out HS.out (w.heap.size + 1 + 1) _ _ _ _ _ (3 - 1) (by omega) (by omega) (by omega) (by omega) (by omega) (by omega) W1 hW1 (by omega) (by omega) c1 c2 c3 c4 c5)
    (fun h k => KpU.trans h k) (fun W l o o' hl h hc hw => KpU.putObj hW1.size W l o o' hl h hc hw) (Below.refl _ _) (fun _ => rfl)
    (fun pre W => ((Boxed W (w.heap.size + 1 + 1) 3 (.int .i64 (sumI f t pre)) ∧ Boxed W w.heap.size 3 (.int .i64 f)) ∧ Boxed W (w.heap.size + 1) 3 (.int .i64 t)) ∧ Below w.heap.size w W)
    (fun _ _ _ => False)
    (OwnFrom.and (OwnFrom.and (OwnFrom.and (Own.from (boxed_own _ _ _) _) (Own.from (boxed_own _ _ _) _)) (Own.from (boxed_own _ _ _) _)) (ownFrom_below (Nat.le_refl _) hW1.size))
    (fun _ _ _ _ _ hs _ _ => hs)
    ⟨⟨⟨d3, d1⟩, d2⟩, hW1⟩
    (fun x a' W => ∃ Bx, w.heap.size + 1 + 1 < Bx ∧ W.heap[Bx]? = some (.cells #[.int .i64 x.1.1, .int .i64 x.1.2.1] 159 (0, 0)) ∧ a' = { tmps := #[.slice ao es.length cap, .int .i64 gap, .slice aol ls.length capl, .int .i64 f, .int .i64 t, undef, undef, undef, .pointer (some ⟨w.heap.size, 0, none⟩), .pointer (some ⟨w.heap.size + 1, 0, none⟩), .int .i64 0, .pointer (some ⟨w.heap.size + 1 + 1, 0, none⟩), .pointer (some ⟨Bx, 0, none⟩), .int .i64 x.1.2.2, undef, undef, .slice ao es.length cap, .int .i64 gap, .slice aol ls.length capl, .func (.func 92) #[] #[.pointer (some ⟨w.heap.size + 3 + 3, 0, none⟩), .pointer (some ⟨w.heap.size + 3 + 2, 0, none⟩), .pointer (some ⟨w.heap.size + 3 + 1, 0, none⟩), .pointer (some ⟨w.heap.size + 3 + 4, 0, none⟩)], .agg #[.int .i64 x.1.1, .int .i64 x.1.2.1], .int .i64 x.1.2.2, undef, undef, undef, undef, undef, undef, undef, undef, undef, undef, undef, undef, undef, undef, undef, undef, undef, undef, undef], defers := [] })
    (fun x a' _ X Y row hs hg hr => by
      obtain ⟨Bx, h1, h2, h3⟩ := hs
      refine ⟨Bx, h1, (hg.block Bx (Array.getElem?_eq_some_iff.1 h2).1 (fun e => ?_)).trans h2, h3⟩
      obtain ⟨o, ho, hc⟩ := (hr Bx e.symm).2
      rw [h2] at ho; cases ho; cases hc)
    ?assign ?body ?done ?stop
  case assign =>
    rintro l pre x W K ⟨⟨⟨e3, e1⟩, e2⟩, hx⟩ hK
    have hsz2 := e3.lt
    simp only [encS]
    gi_wp2
    exact hK _ _ ((KeepsOthers.alloc _ _).from _) ⟨(Below.refl _ W).alloc hx.size _, KeepCells.alloc _ _ _⟩ ⟨⟨⟨e3.alloc _, e1.alloc _⟩, e2.alloc _⟩, hx.alloc hx.size _⟩ ⟨W.heap.size, hsz2, World.alloc_heap_new W _, rfl⟩
  case body =>
    rintro l pre x a' W hl ⟨r, hr⟩ ⟨⟨⟨e3, e1⟩, e2⟩, hx⟩ ⟨Bx, hBx, bX, rfl⟩ hlt
    have k3 := e3.cell
    have f3 := e3.frozen
    have k2 := e2.cell
    have k1 := e1.cell
    have l3 := e3.lt
    have l2 := e2.lt
    have l1 := e1.lt
    have m0 := blk_cell bX 0 (.int .i64 x.1.1) rfl
    have m1 := blk_cell bX 1 (.int .i64 x.1.2.1) rfl
    have hsum := sumI_range HG.out.f0 HG.out.t1 pre
    have hll := (log_ok HG.out.log).1
    have hadd := Lib.hid (sumI_snoc f t pre x)
    have hfr := HG.out.f0
    have htr := HG.out.t1
    have Hax : Hid (addI f t x = if max x.1.1 f < min x.1.2.1 t then (min x.1.2.1 t - max x.1.1 f) * x.1.2.2 else 0) := rfl
    obtain ⟨⟨p, q, r⟩, hr1, hr2⟩ := x
    dsimp only at m0 m1 hr1 hr2 Hax ⊢
    clear d1 d2 d3 c1 c2 c3 c4 c5
    by_cases hab : max p f < min q t
    · have tt : decide (max p f < min q t) = true := decide_eq_true hab
      have hm := mul_range hr1 hr2 (show 0 ≤ min q t - max p f by omega) (show min q t - max p f ≤ 1073741824 by omega)
      rw [Int.mul_comm] at hm
      have hw1 : IntKind.i64.wrap (min q t - max p f) = min q t - max p f := IntWalk.i64_in _ (by omega)
      have hw2 : IntKind.i64.wrap ((min q t - max p f) * r) = (min q t - max p f) * r := IntWalk.i64_in _ (by omega)
      have hw3 : IntKind.i64.wrap (sumI f t pre + (min q t - max p f) * r) = sumI f t pre + (min q t - max p f) * r := IntWalk.i64_in _ (by omega)
      have Ha := Hax.out
      rw [if_pos hab] at Ha
      rw [Ha] at hadd
      clear Ha Hax hab hm hsum hll hlt hfr htr
      gi_wp2
      refine wpIn_region_quiet_round (by kernel_rfl) (by kernel_rfl) (by kernel_rfl) ?_
      repeat (gi_big_quiet_step (fail))
      refine wpQuietIn_nil ?_
      intro _ hw'
      obtain ⟨nq, hw''⟩ := hw'
      subst hw''
      gi_wp2
      exact ⟨(keepsN _ W nq).trans ((KeepsOthers.setCell (W.drewN nq) _ _).from _), ⟨(below_dn (Below.refl _ _) nq).setCell (p := ⟨w.heap.size + 1 + 1, 0, none⟩) (by simp; omega) _, KeepCells.setN _ W nq _⟩, ⟨⟨by rw [hadd.out]; exact Boxed.set _ (W := W.drewN nq) e3, Boxed.other (W := W.drewN nq) e1 (by omega) _⟩, Boxed.other (W := W.drewN nq) e2 (by omega) _⟩, (below_dn hx nq).setCell (p := ⟨w.heap.size + 1 + 1, 0, none⟩) (by simp; omega) _⟩
    · have tt : decide (max p f < min q t) = false := decide_eq_false hab
      have Ha := Hax.out
      rw [if_neg hab] at Ha
      rw [Ha, Int.add_zero] at hadd
      clear Ha Hax hab hsum hll hlt hfr htr
      gi_wp2
      refine wpIn_region_quiet_round (by kernel_rfl) (by kernel_rfl) (by kernel_rfl) ?_
      repeat (gi_big_quiet_step (fail))
      refine wpQuietIn_nil ?_
      intro _ hw'
      obtain ⟨nq, hw''⟩ := hw'
      subst hw''
      gi_wp2
      exact ⟨keepsN _ W nq, ⟨below_dn (Below.refl _ _) nq, KeepCells.drewN _ W nq⟩, ⟨⟨by rw [hadd.out]; exact e3, e1⟩, e2⟩, below_dn hx nq⟩
  case done =>
    rintro D ys W hD rfl ⟨⟨⟨e3, e1⟩, e2⟩, hx⟩ hK
    have k3 := e3.cell
    gi_wp2
    refine ⟨by simp, .inl ⟨_, _, rfl, run_takeDeferred hK, ?_⟩⟩
    exact ⟨_, results_tmp rfl _ _ _, rfl, hx.trans (belowK_b (w := w) (Nat.le_refl _) W D _ _ (by omega) hK rfl rfl)⟩
  case stop =>
    rintro D c pre W _ _ h _
    exact h.elim

end Go.Proofs.Ytdjdnfjgklaneaa

/- Used OF THE PROGRAM AND OF THE REFERENCE. -/
namespace Go.Proofs.Ytdjdnfjgklaneaa
open Go.RowKit

/-! ### The sums agree -/
def addP (f t a b r : Int) : Int := if max a f < min b t then (min b t - max a f) * r else 0
theorem addI_round {es : List (Rat × Int)} {ls : List (Int × Nat)} {f t : Int} (h : GoodLog es ls f t) (gap : Int) (i : Nat) (hi : i < ls.length) :
    addI f t (strS h gap i) = rateI es gap ls i * bothI f t (lastT ls i) (ls.getD i (0, 0)).1 := by
  have hf := h.f0
  have hla := h.last i (by omega)
  have e : max (if i = 0 then (-9223372036854775808 : Int) else lastT ls i) f = max f (lastT ls i) := by
    split
    · rename_i h0
      have : lastT ls i = 0 := by unfold lastT; rw [if_pos h0]
      omega
    · omega
  show addP f t (strI es gap ls i).1 (strI es gap ls i).2.1 (strI es gap ls i).2.2 = _
  unfold strI bothI addP
  dsimp only
  rw [if_pos hi, if_pos hi, e]
  generalize (ls.getD i (0, 0)).1 = ty
  generalize rateI es gap ls i = R
  have e2 : min ty t = min t ty := by omega
  rw [e2]
  split
  · rw [Int.mul_comm]
    congr 1
    omega
  · have : max 0 (min t ty - max f (lastT ls i)) = 0 := by omega
    rw [this, Int.mul_zero]
theorem addI_last {es : List (Rat × Int)} {ls : List (Int × Nat)} {f t : Int} (h : GoodLog es ls f t) (gap : Int) :
    addI f t (strS h gap ls.length) = hotI es * bothI f t (lastT ls ls.length) 1073741825 := by
  have hf := h.f0
  have ht := h.t1
  have hla := h.last ls.length (by omega)
  have e : max (if ls.length = 0 then (-9223372036854775808 : Int) else lastT ls ls.length) f = max f (lastT ls ls.length) := by
    split
    · rename_i h0
      have : lastT ls ls.length = 0 := by unfold lastT; rw [if_pos h0]
      omega
    · omega
  show addP f t (strI es gap ls ls.length).1 (strI es gap ls ls.length).2.1 (strI es gap ls ls.length).2.2 = _
  unfold strI bothI addP
  dsimp only
  rw [if_neg (Nat.lt_irrefl _), if_neg (Nat.lt_irrefl _), e]
  have e2 : min 9223372036854775807 t = min t 1073741825 := by omega
  rw [e2]
  generalize hotI es = R
  split
  · rw [Int.mul_comm]
    congr 1
    omega
  · have : max 0 (min t 1073741825 - max f (lastT ls ls.length)) = 0 := by omega
    rw [this, Int.mul_zero]
theorem sumI_used {es : List (Rat × Int)} {ls : List (Int × Nat)} {f t : Int} (h : GoodLog es ls f t) (gap : Int) (k : Nat) (hk : k ≤ ls.length) : sumI f t (strsTo h gap k) = usedI es gap ls f t k := by
  induction k with
  | zero => rfl
  | succ k ih => rw [strsTo_succ, sumI_snoc, ih (by omega), addI_round h gap k (by omega)]; rfl
theorem sumI_all {es : List (Rat × Int)} {ls : List (Int × Nat)} {f t : Int} (h : GoodLog es ls f t) (gap : Int) : sumI f t (strsTo h gap (ls.length + 1)) = usedAll es gap ls f t := by
  rw [strsTo_succ, sumI_snoc, sumI_used h gap _ (Nat.le_refl _), addI_last]
  rfl

/-! ### What Used tells -/
def usedErr (es : List (Rat × Int)) (gap : Int) (ls : List (Int × Nat)) (f t : Int) : Int :=
  if tabErr es ≠ 0 then tabErr es else if gapB gap = false then 1 else if logErr ls ≠ 0 then logErr ls else if timeB f = false ∨ timeB t = false then 1 else if t < f then 7 else 0
def usedVal (es : List (Rat × Int)) (gap : Int) (ls : List (Int × Nat)) (f t : Int) : Int := if usedErr es gap ls f t = 0 then usedAll es gap ls f t else 0
theorem timeB_spec {n : Int} (h : timeB n = true) : 0 ≤ n ∧ n ≤ 1073741824 := by
  unfold timeB at h
  simpa using h
def UsedIs (es : List (Rat × Int)) (gap : Int) (ls : List (Int × Nat)) (f t v e : Int) : Prop := usedVal es gap ls f t = v ∧ usedErr es gap ls f t = e
theorem used_tab {es : List (Rat × Int)} {gap : Int} {ls : List (Int × Nat)} {f t : Int} (h : tabErr es ≠ 0) : UsedIs es gap ls f t 0 (tabErr es) := by
  have e : usedErr es gap ls f t = tabErr es := by unfold usedErr; rw [if_pos h]
  exact ⟨by unfold usedVal; rw [e, if_neg h], e⟩
theorem used_gap {es : List (Rat × Int)} {gap : Int} {ls : List (Int × Nat)} {f t : Int} (h : tabErr es = 0) (h2 : gapB gap = false) : UsedIs es gap ls f t 0 1 := by
  have e : usedErr es gap ls f t = 1 := by unfold usedErr; rw [if_neg (fun h3 => h3 h), if_pos h2]
  exact ⟨by unfold usedVal; rw [e, if_neg (by decide)], e⟩
theorem used_log {es : List (Rat × Int)} {gap : Int} {ls : List (Int × Nat)} {f t : Int} (h : tabErr es = 0) (h2 : gapB gap = true) (h3 : logErr ls ≠ 0) : UsedIs es gap ls f t 0 (logErr ls) := by
  have e : usedErr es gap ls f t = logErr ls := by unfold usedErr; rw [if_neg (fun h3 => h3 h), if_neg (by rw [h2]; decide), if_pos h3]
  exact ⟨by unfold usedVal; rw [e, if_neg h3], e⟩
theorem used_time {es : List (Rat × Int)} {gap : Int} {ls : List (Int × Nat)} {f t : Int} (h : tabErr es = 0) (h2 : gapB gap = true) (h3 : logErr ls = 0) (h4 : timeB f = false ∨ timeB t = false) : UsedIs es gap ls f t 0 1 := by
  have e : usedErr es gap ls f t = 1 := by unfold usedErr; rw [if_neg (fun h3 => h3 h), if_neg (by rw [h2]; decide), if_neg (fun h => h h3), if_pos h4]
  exact ⟨by unfold usedVal; rw [e, if_neg (by decide)], e⟩
theorem used_order {es : List (Rat × Int)} {gap : Int} {ls : List (Int × Nat)} {f t : Int} (h : tabErr es = 0) (h2 : gapB gap = true) (h3 : logErr ls = 0) (h4 : timeB f = true) (h5 : timeB t = true) (h6 : t < f) : UsedIs es gap ls f t 0 7 := by
  have e : usedErr es gap ls f t = 7 := by unfold usedErr; rw [if_neg (fun h3 => h3 h), if_neg (by rw [h2]; decide), if_neg (fun h => h h3), if_neg (by rw [h4, h5]; decide), if_pos h6]
  exact ⟨by unfold usedVal; rw [e, if_neg (by decide)], e⟩
theorem used_good {es : List (Rat × Int)} {gap : Int} {ls : List (Int × Nat)} {f t : Int} (h : tabErr es = 0) (h2 : gapB gap = true) (h3 : logErr ls = 0) (h4 : timeB f = true) (h5 : timeB t = true) (h6 : ¬ t < f) : UsedIs es gap ls f t (usedAll es gap ls f t) 0 := by
  have e : usedErr es gap ls f t = 0 := by unfold usedErr; rw [if_neg (fun h3 => h3 h), if_neg (by rw [h2]; decide), if_neg (fun h => h h3), if_neg (by rw [h4, h5]; decide), if_neg h6]
  exact ⟨by unfold usedVal; rw [e, if_pos rfl], e⟩
theorem goodLog_of {es : List (Rat × Int)} {ls : List (Int × Nat)} {f t : Int} (h : tabErr es = 0) (h3 : logErr ls = 0) (h4 : timeB f = true) (h5 : timeB t = true) : GoodLog es ls f t :=
  ⟨h, h3, (timeB_spec h4).1, (timeB_spec h4).2, (timeB_spec h5).1, (timeB_spec h5).2⟩

set_option maxHeartbeats 2000000 in
theorem Used_any (es : List (Rat × Int)) (gap : Int) (ls : List (Int × Nat)) (f t : Int) (ve vl : Value) (w : World) (he : EntsOf IsRat w ve es) (hl : LogOf w vl ls) (hs : ∀ i, i < es.length → szR (es.getD i (0, 0)).1 274877906944) :
    Calls Try.prog 13 #[ve, .int .i64 gap, vl, .int .i64 f, .int .i64 t] w (RetIE (usedVal es gap ls f t) (usedErr es gap ls f t) w) := by
  have HE := Lib.hid he
  have HL := Lib.hid hl
  have HS := Lib.hid hs
  obtain ⟨aol, capl, rfl, _⟩ := hl
  obtain ⟨ao, cap, rfl, _⟩ := he
  clear hs
  by_cases h0 : tabErr es = 0
  · have t0 : (tabErr es != 0) = false := by simp [h0]
    have H0 := Lib.hid h0
    clear h0
    cases hgp : gapB gap with
    | false =>
      have Hv := Lib.hid (used_gap (ls := ls) (f := f) (t := t) H0.out hgp)

      go_enter Try.func13, Try.ntmps13
      go_wp2_with fail
      refine (checkTable_any es _ _ HE.out HS.out).mono ?_
      rintro e w1 ⟨rfl, hb1⟩
      generalize tabErr es = te at *
      go_wp2_with fail

      refine (gap_any gap _).mono ?_
      rintro e w2 ⟨rfl, rfl⟩
      rw [hgp]
      go_wp2_with fail

      go_ret2
      exact ⟨by rw [Hv.out.1, Hv.out.2]; rfl, hb1⟩
    | true =>
      have Hg := Lib.hid hgp
      by_cases h1 : logErr ls = 0
      · have t1 : (logErr ls != 0) = false := by simp [h1]
        have H1 := Lib.hid h1
        clear h1
        cases htf : timeB f with
        | false =>
          have Hv := Lib.hid (used_time (f := f) (t := t) H0.out Hg.out H1.out (.inl htf))

          go_enter Try.func13, Try.ntmps13
          go_wp2_with fail
          refine (checkTable_any es _ _ HE.out HS.out).mono ?_
          rintro e w1 ⟨rfl, hb1⟩
          generalize tabErr es = te at *
          go_wp2_with fail

          refine (gap_any gap _).mono ?_
          rintro e w2 ⟨rfl, rfl⟩
          rw [hgp]
          go_wp2_with fail

          refine (checkLog_any ls _ _ (HL.out.below hb1)).mono ?_
          rintro e w2 ⟨rfl, hb2⟩
          have hx2 := ext_trans hb1 hb2
          generalize logErr ls = le at *
          go_wp2_with fail

          refine (time_any f _).mono ?_
          rintro e w3 ⟨rfl, rfl⟩
          rw [htf]
          go_wp2_with fail

          go_ret2
          exact ⟨by rw [Hv.out.1, Hv.out.2]; rfl, hx2⟩
        | true =>
          cases htt : timeB t with
          | false =>
            have Hv := Lib.hid (used_time (f := f) (t := t) H0.out Hg.out H1.out (.inr htt))

            go_enter Try.func13, Try.ntmps13
            go_wp2_with fail
            refine (checkTable_any es _ _ HE.out HS.out).mono ?_
            rintro e w1 ⟨rfl, hb1⟩
            generalize tabErr es = te at *
            go_wp2_with fail

            refine (gap_any gap _).mono ?_
            rintro e w2 ⟨rfl, rfl⟩
            rw [hgp]
            go_wp2_with fail

            refine (checkLog_any ls _ _ (HL.out.below hb1)).mono ?_
            rintro e w2 ⟨rfl, hb2⟩
            have hx2 := ext_trans hb1 hb2
            generalize logErr ls = le at *
            go_wp2_with fail

            refine (time_any f _).mono ?_
            rintro e w3 ⟨rfl, rfl⟩
            rw [htf]
            go_wp2_with fail

            refine (time_any t _).mono ?_
            rintro e w3 ⟨rfl, rfl⟩
            rw [htt]
            go_wp2_with fail

            go_ret2
            exact ⟨by rw [Hv.out.1, Hv.out.2]; rfl, hx2⟩
          | true =>
            by_cases hft : t < f
            · have Hv := Lib.hid (used_order (f := f) (t := t) H0.out Hg.out H1.out htf htt hft)
              have tt : decide (f > t) = true := decide_eq_true hft
              clear hft

              go_enter Try.func13, Try.ntmps13
              go_wp2_with fail
              refine (checkTable_any es _ _ HE.out HS.out).mono ?_
              rintro e w1 ⟨rfl, hb1⟩
              generalize tabErr es = te at *
              go_wp2_with fail

              refine (gap_any gap _).mono ?_
              rintro e w2 ⟨rfl, rfl⟩
              rw [hgp]
              go_wp2_with fail

              refine (checkLog_any ls _ _ (HL.out.below hb1)).mono ?_
              rintro e w2 ⟨rfl, hb2⟩
              have hx2 := ext_trans hb1 hb2
              generalize logErr ls = le at *
              go_wp2_with fail

              refine (time_any f _).mono ?_
              rintro e w3 ⟨rfl, rfl⟩
              rw [htf]
              go_wp2_with fail

              refine (time_any t _).mono ?_
              rintro e w3 ⟨rfl, rfl⟩
              rw [htt]
              go_wp2_with fail

              go_ret2
              exact ⟨by rw [Hv.out.1, Hv.out.2]; rfl, hx2⟩
            · have Hv := Lib.hid (used_good (f := f) (t := t) H0.out Hg.out H1.out htf htt hft)
              have HG := Lib.hid (goodLog_of H0.out H1.out htf htt)
              have tt : decide (f > t) = false := decide_eq_false hft
              clear hft

              go_enter Try.func13, Try.ntmps13
              go_wp2_with fail
              refine (checkTable_any es _ _ HE.out HS.out).mono ?_
              rintro e w1 ⟨rfl, hb1⟩
              generalize tabErr es = te at *
              go_wp2_with fail

              refine (gap_any gap _).mono ?_
              rintro e w2 ⟨rfl, rfl⟩
              rw [hgp]
              go_wp2_with fail

              refine (checkLog_any ls _ _ (HL.out.below hb1)).mono ?_
              rintro e w2 ⟨rfl, hb2⟩
              have hx2 := ext_trans hb1 hb2
              generalize logErr ls = le at *
              go_wp2_with fail

              refine (time_any f _).mono ?_
              rintro e w3 ⟨rfl, rfl⟩
              rw [htf]
              go_wp2_with fail

              refine (time_any t _).mono ?_
              rintro e w3 ⟨rfl, rfl⟩
              rw [htt]
              go_wp2_with fail

              refine (used_any es gap ls f t HG.out _ _ _ (HE.out.below IsRat.belowAll hx2) (HL.out.below hx2) HS.out).mono ?_
              rintro e w4 ⟨rfl, hb4⟩
              rw [sumI_all]
              have hx4 := ext_trans hx2 hb4
              go_wp2_with fail

              go_ret2
              exact ⟨by rw [Hv.out.1, Hv.out.2]; rfl, hx4⟩
      · have t1 : (logErr ls != 0) = true := by simp [h1]
        have Hv := Lib.hid (used_log (f := f) (t := t) H0.out Hg.out h1)
        clear h1

        go_enter Try.func13, Try.ntmps13
        go_wp2_with fail
        refine (checkTable_any es _ _ HE.out HS.out).mono ?_
        rintro e w1 ⟨rfl, hb1⟩
        generalize tabErr es = te at *
        go_wp2_with fail

        refine (gap_any gap _).mono ?_
        rintro e w2 ⟨rfl, rfl⟩
        rw [hgp]
        go_wp2_with fail

        refine (checkLog_any ls _ _ (HL.out.below hb1)).mono ?_
        rintro e w2 ⟨rfl, hb2⟩
        have hx2 := ext_trans hb1 hb2
        generalize logErr ls = le at *
        go_wp2_with fail

        go_ret2
        exact ⟨by rw [Hv.out.1, Hv.out.2]; rfl, hx2⟩
  · have t0 : (tabErr es != 0) = true := by simp [h0]
    have Hv := Lib.hid (used_tab (gap := gap) (ls := ls) (f := f) (t := t) h0)
    clear h0

    go_enter Try.func13, Try.ntmps13
    go_wp2_with fail
    refine (checkTable_any es _ _ HE.out HS.out).mono ?_
    rintro e w1 ⟨rfl, hb1⟩
    generalize tabErr es = te at *
    go_wp2_with fail

    go_ret2
    exact ⟨by rw [Hv.out.1, Hv.out.2]; rfl, hb1⟩

set_option maxHeartbeats 2000000 in
theorem qUsed_any (es : List (Rat × Int)) (gap : Int) (ls : List (Int × Nat)) (f t : Int) (ve vl : Value) (w : World) (he : EntsOf IsR w ve es) (hl : LogOf w vl ls) (hs : ∀ i, i < es.length → szQ (es.getD i (0, 0)).1 17179869184) :
    Calls Try.prog 14 #[ve, .int .i64 gap, vl, .int .i64 f, .int .i64 t] w (RetIE (usedVal es gap ls f t) (usedErr es gap ls f t) w) := by
  have HE := Lib.hid he
  have HL := Lib.hid hl
  have HS := Lib.hid hs
  obtain ⟨aol, capl, rfl, _⟩ := hl
  obtain ⟨ao, cap, rfl, _⟩ := he
  clear hs
  by_cases h0 : tabErr es = 0
  · have t0 : (tabErr es != 0) = false := by simp [h0]
    have H0 := Lib.hid h0
    clear h0
    cases hgp : gapB gap with
    | false =>
      have Hv := Lib.hid (used_gap (ls := ls) (f := f) (t := t) H0.out hgp)
      have hgb : gap < 1 ∨ 86400 < gap := by
        unfold gapB at hgp
        simp at hgp
        omega
      clear hgp
      by_cases hg1 : gap < 1
      · have g1 : decide (gap < 1) = true := decide_eq_true hg1
        clear hgb hg1

        go_enter Try.func14, Try.ntmps14
        go_wp2_with fail
        refine (qcheckTable_any es _ _ HE.out HS.out).mono ?_
        rintro e w1 ⟨rfl, hb1⟩
        generalize tabErr es = te at *
        go_wp2_with fail

        go_ret2
        exact ⟨by rw [Hv.out.1, Hv.out.2]; rfl, hb1⟩
      · have g1 : decide (gap < 1) = false := decide_eq_false hg1
        have g2 : decide (gap > 86400) = true := decide_eq_true (by omega)
        clear hgb hg1

        go_enter Try.func14, Try.ntmps14
        go_wp2_with fail
        refine (qcheckTable_any es _ _ HE.out HS.out).mono ?_
        rintro e w1 ⟨rfl, hb1⟩
        generalize tabErr es = te at *
        go_wp2_with fail

        go_ret2
        exact ⟨by rw [Hv.out.1, Hv.out.2]; rfl, hb1⟩
    | true =>
      have hgb : 1 ≤ gap ∧ gap ≤ 86400 := by
        unfold gapB at hgp
        simpa using hgp
      have g1 : decide (gap < 1) = false := decide_eq_false (by omega)
      have g2 : decide (gap > 86400) = false := decide_eq_false (by omega)
      clear hgb

      have Hg := Lib.hid hgp
      by_cases h1 : logErr ls = 0
      · have t1 : (logErr ls != 0) = false := by simp [h1]
        have H1 := Lib.hid h1
        clear h1
        cases htf : timeB f with
        | false =>
          have Hv := Lib.hid (used_time (f := f) (t := t) H0.out Hg.out H1.out (.inl htf))
          clear hgp

          go_enter Try.func14, Try.ntmps14
          go_wp2_with fail
          refine (qcheckTable_any es _ _ HE.out HS.out).mono ?_
          rintro e w1 ⟨rfl, hb1⟩
          generalize tabErr es = te at *
          go_wp2_with fail

          refine (qcheckLog_any ls _ _ (HL.out.below hb1)).mono ?_
          rintro e w2 ⟨rfl, hb2⟩
          have hx2 := ext_trans hb1 hb2
          generalize logErr ls = le at *
          go_wp2_with fail

          refine (qtime_any f _).mono ?_
          rintro e w3 ⟨rfl, rfl⟩
          rw [htf]
          go_wp2_with fail

          go_ret2
          exact ⟨by rw [Hv.out.1, Hv.out.2]; rfl, hx2⟩
        | true =>
          cases htt : timeB t with
          | false =>
            have Hv := Lib.hid (used_time (f := f) (t := t) H0.out Hg.out H1.out (.inr htt))
            clear hgp

            go_enter Try.func14, Try.ntmps14
            go_wp2_with fail
            refine (qcheckTable_any es _ _ HE.out HS.out).mono ?_
            rintro e w1 ⟨rfl, hb1⟩
            generalize tabErr es = te at *
            go_wp2_with fail

            refine (qcheckLog_any ls _ _ (HL.out.below hb1)).mono ?_
            rintro e w2 ⟨rfl, hb2⟩
            have hx2 := ext_trans hb1 hb2
            generalize logErr ls = le at *
            go_wp2_with fail

            refine (qtime_any f _).mono ?_
            rintro e w3 ⟨rfl, rfl⟩
            rw [htf]
            go_wp2_with fail

            refine (qtime_any t _).mono ?_
            rintro e w3 ⟨rfl, rfl⟩
            rw [htt]
            go_wp2_with fail

            go_ret2
            exact ⟨by rw [Hv.out.1, Hv.out.2]; rfl, hx2⟩
          | true =>
            by_cases hft : t < f
            · have Hv := Lib.hid (used_order (f := f) (t := t) H0.out Hg.out H1.out htf htt hft)
              have tt : decide (f > t) = true := decide_eq_true hft
              clear hft
              clear hgp

              go_enter Try.func14, Try.ntmps14
              go_wp2_with fail
              refine (qcheckTable_any es _ _ HE.out HS.out).mono ?_
              rintro e w1 ⟨rfl, hb1⟩
              generalize tabErr es = te at *
              go_wp2_with fail

              refine (qcheckLog_any ls _ _ (HL.out.below hb1)).mono ?_
              rintro e w2 ⟨rfl, hb2⟩
              have hx2 := ext_trans hb1 hb2
              generalize logErr ls = le at *
              go_wp2_with fail

              refine (qtime_any f _).mono ?_
              rintro e w3 ⟨rfl, rfl⟩
              rw [htf]
              go_wp2_with fail

              refine (qtime_any t _).mono ?_
              rintro e w3 ⟨rfl, rfl⟩
              rw [htt]
              go_wp2_with fail

              go_ret2
              exact ⟨by rw [Hv.out.1, Hv.out.2]; rfl, hx2⟩
            · have Hv := Lib.hid (used_good (f := f) (t := t) H0.out Hg.out H1.out htf htt hft)
              have HG := Lib.hid (goodLog_of H0.out H1.out htf htt)
              have tt : decide (f > t) = false := decide_eq_false hft
              clear hft
              clear hgp

              go_enter Try.func14, Try.ntmps14
              go_wp2_with fail
              refine (qcheckTable_any es _ _ HE.out HS.out).mono ?_
              rintro e w1 ⟨rfl, hb1⟩
              generalize tabErr es = te at *
              go_wp2_with fail

              refine (qcheckLog_any ls _ _ (HL.out.below hb1)).mono ?_
              rintro e w2 ⟨rfl, hb2⟩
              have hx2 := ext_trans hb1 hb2
              generalize logErr ls = le at *
              go_wp2_with fail

              refine (qtime_any f _).mono ?_
              rintro e w3 ⟨rfl, rfl⟩
              rw [htf]
              go_wp2_with fail

              refine (qtime_any t _).mono ?_
              rintro e w3 ⟨rfl, rfl⟩
              rw [htt]
              go_wp2_with fail

              refine (spent_any es gap ls f t _ _ _ (HE.out.below IsR.belowAll hx2) (HL.out.below hx2) HS.out HG.out).mono ?_
              rintro e w4 ⟨rfl, hb4⟩
              have hx4 := ext_trans hx2 hb4
              go_wp2_with fail

              go_ret2
              exact ⟨by rw [Hv.out.1, Hv.out.2]; rfl, hx4⟩
      · have t1 : (logErr ls != 0) = true := by simp [h1]
        have Hv := Lib.hid (used_log (f := f) (t := t) H0.out Hg.out h1)
        clear h1
        clear hgp

        go_enter Try.func14, Try.ntmps14
        go_wp2_with fail
        refine (qcheckTable_any es _ _ HE.out HS.out).mono ?_
        rintro e w1 ⟨rfl, hb1⟩
        generalize tabErr es = te at *
        go_wp2_with fail

        refine (qcheckLog_any ls _ _ (HL.out.below hb1)).mono ?_
        rintro e w2 ⟨rfl, hb2⟩
        have hx2 := ext_trans hb1 hb2
        generalize logErr ls = le at *
        go_wp2_with fail

        go_ret2
        exact ⟨by rw [Hv.out.1, Hv.out.2]; rfl, hx2⟩
  · have t0 : (tabErr es != 0) = true := by simp [h0]
    have Hv := Lib.hid (used_tab (gap := gap) (ls := ls) (f := f) (t := t) h0)
    clear h0

    go_enter Try.func14, Try.ntmps14
    go_wp2_with fail
    refine (qcheckTable_any es _ _ HE.out HS.out).mono ?_
    rintro e w1 ⟨rfl, hb1⟩
    generalize tabErr es = te at *
    go_wp2_with fail

    go_ret2
    exact ⟨by rw [Hv.out.1, Hv.out.2]; rfl, hb1⟩

end Go.Proofs.Ytdjdnfjgklaneaa

/- THE WALK OF law06.awake: the examples of the chapter. -/
namespace Go.Proofs.Ytdjdnfjgklaneaa
open Go.RowKit

def esA : List (Rat × Int) := [(((250 : Int) : Rat), 1), (((290 : Int) : Rat), 10)]
def lsA : List (Int × Nat) := [(0, 1132396544), (100, 1133740032), (1000, 1132396544)]
def jsA : List (Int × Int) := [(0, 3), (0, 3), (0, 4)]
theorem awake_u1 : usedVal esA 200 lsA 0 200 = 2000 ∧ usedErr esA 200 lsA 0 200 = 0 := by decide +kernel
theorem awake_u2 : usedVal esA 200 lsA 100 1000 = 9000 ∧ usedErr esA 200 lsA 100 1000 = 0 := by decide +kernel
theorem awake_b : boundN jsA 2 = 5 ∧ (boundL jsA 2).length = 3 ∧ jobsErr jsA 2 = 0 := by decide +kernel

theorem szA : ∀ i, i < esA.length → szR (esA.getD i (0, 0)).1 274877906944 := by
  intro i hi
  have h1 : ∀ n d : Int, i64R n → i64R d → szR (fracQ n d) 274877906944 := fun n d hn hd => by
    have := fracQ_szR n d hn.1 hn.2 hd.1 hd.2
    exact ⟨Nat.le_trans this.1 (by omega), Nat.le_trans this.2 (by omega)⟩
  match i, hi with
  | 0, _ => exact h1 250 0 (by unfold i64R; omega) (by unfold i64R; omega)
  | 1, _ => exact h1 290 0 (by unfold i64R; omega) (by unfold i64R; omega)

theorem entsOf_two {R : World → Value → Rat → Prop} (w : World) (v0 v1 v2 u0 u1 u2 : Value) (r s : Int) (q p : Rat) (T : TypeId)
    (h : R (w.alloc (.cells #[v0, v1, v2, .int .i64 r, u0, u1, u2, .int .i64 s] T)) (.agg #[v0, v1, v2]) q) (k : R (w.alloc (.cells #[v0, v1, v2, .int .i64 r, u0, u1, u2, .int .i64 s] T)) (.agg #[u0, u1, u2]) p) :
    EntsOf R (w.alloc (.cells #[v0, v1, v2, .int .i64 r, u0, u1, u2, .int .i64 s] T)) (.slice (some ⟨w.heap.size, 0, none⟩) 2 2) [(q, r), (p, s)] := by
  refine ⟨_, _, rfl, fun _ => ⟨w.heap.size, 0, rfl, by simp, fun i hi => ?_⟩⟩
  have hN := blk_new w #[v0, v1, v2, .int .i64 r, u0, u1, u2, .int .i64 s] T
  match i, hi with
  | 0, _ => exact ⟨v0, v1, v2, blk_cell hN 0 _ rfl, blk_cell hN 1 _ rfl, blk_cell hN 2 _ rfl, blk_cell hN 3 _ rfl, h⟩
  | 1, _ => exact ⟨u0, u1, u2, blk_cell hN 4 _ rfl, blk_cell hN 5 _ rfl, blk_cell hN 6 _ rfl, blk_cell hN 7 _ rfl, k⟩
theorem logOf_three (w : World) (t0 t1 t2 : Int) (b0 b1 b2 : Nat) (T : TypeId) :
    LogOf (w.alloc (.cells #[.int .i64 t0, .float .f32 b0, .int .i64 t1, .float .f32 b1, .int .i64 t2, .float .f32 b2] T)) (.slice (some ⟨w.heap.size, 0, none⟩) 3 3) [(t0, b0), (t1, b1), (t2, b2)] := by
  refine ⟨_, _, rfl, fun _ => ⟨w.heap.size, 0, rfl, by simp, fun i hi => ?_⟩⟩
  have hN := blk_new w #[.int .i64 t0, .float .f32 b0, .int .i64 t1, .float .f32 b1, .int .i64 t2, .float .f32 b2] T
  match i, hi with
  | 0, _ => exact ⟨blk_cell hN 0 _ rfl, blk_cell hN 1 _ rfl⟩
  | 1, _ => exact ⟨blk_cell hN 2 _ rfl, blk_cell hN 3 _ rfl⟩
  | 2, _ => exact ⟨blk_cell hN 4 _ rfl, blk_cell hN 5 _ rfl⟩
theorem pairsOf_three (w : World) (t0 t1 t2 b0 b1 b2 : Int) (T : TypeId) :
    PairsOf (w.alloc (.cells #[.int .i64 t0, .int .i64 b0, .int .i64 t1, .int .i64 b1, .int .i64 t2, .int .i64 b2] T)) (.slice (some ⟨w.heap.size, 0, none⟩) 3 3) [(t0, b0), (t1, b1), (t2, b2)] := by
  refine ⟨_, _, rfl, fun _ => ⟨w.heap.size, 0, rfl, by simp, fun i hi => ?_⟩⟩
  have hN := blk_new w #[.int .i64 t0, .int .i64 b0, .int .i64 t1, .int .i64 b1, .int .i64 t2, .int .i64 b2] T
  match i, hi with
  | 0, _ => exact ⟨blk_cell hN 0 _ rfl, blk_cell hN 1 _ rfl⟩
  | 1, _ => exact ⟨blk_cell hN 2 _ rfl, blk_cell hN 3 _ rfl⟩
  | 2, _ => exact ⟨blk_cell hN 4 _ rfl, blk_cell hN 5 _ rfl⟩

set_option maxRecDepth 100000 in
set_option maxHeartbeats 4000000 in
theorem awake_any (w : World) : Calls Try.prog 12 #[] w (RetBool true w) := by
  go_enter Try.func12, Try.ntmps12
  go_wp2_with fail
  refine (int_any 250 _ (by omega) (by omega)).mono ?_
  rintro e w1 ⟨v1, rfl, hv1, hb1⟩
  obtain ⟨q1, Hq1⟩ : ∃ q1 : Rat, Hid (((250 : Int) : Rat) = q1) := ⟨_, rfl⟩
  rw [Hq1.out] at hv1
  obtain ⟨a1, c1, a2, c2, rfl, _, _⟩ := hv1.opened
  have Hv1 := Lib.hid hv1
  clear hv1
  go_wp2_with fail
  refine (int_any 290 _ (by omega) (by omega)).mono ?_
  rintro e w2 ⟨v2, rfl, hv2, hb2⟩
  obtain ⟨q2, Hq2⟩ : ∃ q2 : Rat, Hid (((290 : Int) : Rat) = q2) := ⟨_, rfl⟩
  rw [Hq2.out] at hv2
  obtain ⟨a3, c3, a4, c4, rfl, _, _⟩ := hv2.opened
  have hv1' := Hv1.out.below hb2
  have hal := (Below.refl w2.heap.size w2).alloc (Nat.le_refl _) (.cells #[.bool (decide (q1.num < 0)), .slice a1 (dig b64 q1.num.natAbs).length c1, .slice a2 (dig b64 (dn q1.den)).length c2, .int .i64 1, .bool (decide (q2.num < 0)), .slice a3 (dig b64 q2.num.natAbs).length c3, .slice a4 (dig b64 (dn q2.den)).length c4, .int .i64 10] 119)
  have HEs : Hid ([(q1, 1), (q2, 10)] = esA) := by show _ = esA; rw [← Hq1.out, ← Hq2.out]; rfl
  have HE0 := entsOf_two w2 _ _ _ _ _ _ 1 10 q1 q2 119 (hv1'.below hal) (hv2.below hal)
  rw [HEs.out] at HE0
  have HE := Lib.hid HE0
  have hx2 := ext_trans hb1 (ext_trans hb2 hal)
  clear HE0 hv1' hv2 Hv1 HEs Hq1 Hq2
  have hlog := logOf_three (w2.alloc (.cells #[.bool (decide (q1.num < 0)), .slice a1 (dig b64 q1.num.natAbs).length c1, .slice a2 (dig b64 (dn q1.den)).length c2, .int .i64 1, .bool (decide (q2.num < 0)), .slice a3 (dig b64 q2.num.natAbs).length c3, .slice a4 (dig b64 (dn q2.den)).length c4, .int .i64 10] 119)) 0 100 1000 1132396544 1133740032 1132396544 32
  rw [World.size_alloc] at hlog
  have hal2 := (Below.refl w2.heap.size w2).alloc (Nat.le_refl _) (.cells #[.bool (decide (q1.num < 0)), .slice a1 (dig b64 q1.num.natAbs).length c1, .slice a2 (dig b64 (dn q1.den)).length c2, .int .i64 1, .bool (decide (q2.num < 0)), .slice a3 (dig b64 q2.num.natAbs).length c3, .slice a4 (dig b64 (dn q2.den)).length c4, .int .i64 10] 119)
  have HL := Lib.hid hlog
  clear hlog hal hal2 hb1 hb2
  go_wp2_with fail
  refine (Used_any esA 200 lsA 0 200 _ _ _ (HE.out.below IsRat.belowAll ((Below.refl _ _).alloc (Nat.le_refl _) _)) HL.out szA).mono ?_
  rintro e w3 ⟨rfl, hb3⟩
  rw [awake_u1.1, awake_u1.2]
  have hx3 := ext_trans (ext_trans hx2 ((Below.refl _ _).alloc (Nat.le_refl _) _)) hb3
  go_wp2_with fail
  refine (Used_any esA 200 lsA 100 1000 _ _ _ ((HE.out.below IsRat.belowAll ((Below.refl _ _).alloc (Nat.le_refl _) _)).below IsRat.belowAll hb3) (HL.out.below hb3) szA).mono ?_
  rintro e w4 ⟨rfl, hb4⟩
  rw [awake_u2.1, awake_u2.2]
  have hx4 := ext_trans hx3 hb4
  have HJ := Lib.hid (pairsOf_three w4 0 0 0 3 3 4 106)
  clear hx2 hx3 hb3 hb4
  go_wp2_with fail
  refine (bound_any jsA 2 _ _ HJ.out).mono ?_
  rintro e w5 ⟨v, rfl, hv, hb5⟩
  rw [awake_b.1, awake_b.2.2]
  obtain ⟨av, cv, rfl, _⟩ := hv.opened
  rw [awake_b.2.1]
  have hx5 := ext_trans (ext_trans hx4 ((Below.refl _ _).alloc (Nat.le_refl _) _)) hb5
  clear hv hb5 hx4
  go_wp2_with fail
  go_ret
  exact ⟨rfl, hx5⟩

end Go.Proofs.Ytdjdnfjgklaneaa

/- THE WALK OF law06.StoreUsed. -/
namespace Go.Proofs.Ytdjdnfjgklaneaa
open Go.RowKit

theorem info_qreading : (Try.prog.info? 33).map (fun i => (i.zero, i.size, i.bytes)) = some (some (.agg #[.int .i64 0, .float .f32 0]), 2, 16) := by kernel_rfl
/-- Readings as cells. -/
def rdCells : List (Int × Nat) → List Value
  | [] => []
  | r :: l => .int .i64 r.1 :: .float .f32 r.2 :: rdCells l
theorem rdCells_append (a b : List (Int × Nat)) : rdCells (a ++ b) = rdCells a ++ rdCells b := by
  induction a with
  | nil => rfl
  | cons r a ih => simp [rdCells, ih]
theorem rdCells_take (ls : List (Int × Nat)) (i : Nat) (hi : i < ls.length) : rdCells (ls.take (i + 1)) = rdCells (ls.take i) ++ [.int .i64 (ls.getD i (0, 0)).1, .float .f32 (ls.getD i (0, 0)).2] := by
  rw [List.take_add_one, rdCells_append]
  simp [hi, rdCells]
theorem rdCells_get (ls : List (Int × Nat)) : ∀ i, i < ls.length → (rdCells ls)[i * 2]? = some (.int .i64 (ls.getD i (0, 0)).1) ∧ (rdCells ls)[i * 2 + 1]? = some (.float .f32 (ls.getD i (0, 0)).2) := by
  induction ls with
  | nil => intro i hi; simp at hi
  | cons r l ih =>
    intro i hi
    cases i with
    | zero => simp [rdCells]
    | succ i =>
      have := ih i (by simpa using hi)
      simpa [rdCells, Nat.succ_mul] using this
/-- A row that the call owns reads as a log. -/
theorem LogOf.ofRow {w : World} {base : Nat} {e : TypeId} {v : Value} {ls : List (Int × Nat)} (h : LRow w base e 2 v ls.length (rdCells ls)) : LogOf w v ls := by
  rcases Nat.eq_zero_or_pos ls.length with h0 | hp
  · rcases h.1.2 with ⟨rfl, _⟩ | ⟨g, cap, cur, rfl, _⟩
    · exact ⟨none, 0, by rw [h0], fun h => absurd h (by omega)⟩
    · exact ⟨_, _, rfl, fun h => absurd h (by omega)⟩
  · obtain ⟨g, cap, rfl⟩ := ownsRow_some h.1 hp
    have hc : ∀ j u, (rdCells ls)[j]? = some u → w.cell? ((⟨g, 0, none⟩ : Addr).add j) = some u := h.1.cells (g := g) rfl
    have hlt : g < w.heap.size := (h.lt rfl).1
    refine ⟨_, _, rfl, fun _ => ⟨g, 0, rfl, hlt, fun i hi => ?_⟩⟩
    obtain ⟨h0, h1⟩ := rdCells_get ls i hi
    have ea : ∀ j, (⟨g, 0, none⟩ : Addr).add j = ⟨g, 0 + j, none⟩ := fun j => by unfold Addr.add; split <;> simp_all
    refine ⟨?_, ?_⟩
    · rw [← ea]; exact hc _ _ h0
    · rw [show 0 + i * 2 + 1 = 0 + (i * 2 + 1) by omega, ← ea]; exact hc _ _ h1
theorem cell_new2 (w : World) (a b : Value) (t : TypeId) : ∀ j u, [a, b][j]? = some u → (w.alloc (.cells #[a, b] t)).cell? ((⟨w.heap.size, 0, none⟩ : Addr).add j) = some u := by
  intro j u hj
  match j, hj with
  | 0, hj => simp at hj; subst hj; simp [Addr.add]
  | 1, hj => simp at hj; subst hj; simp [Addr.add]
  | j + 2, hj => simp at hj
theorem lawsE_get (ts : List (Int × Int × Int)) (i : Nat) (hi : i < ts.length) : (lawsE ts).getD i (0, 0) = (fracQ (ts.getD i (0, 0, 0)).1 (ts.getD i (0, 0, 0)).2.1, (ts.getD i (0, 0, 0)).2.2) := by
  simp [lawsE, hi]
theorem lawsE_szR {ts : List (Int × Int × Int)} (hr : ∀ i, i < ts.length → i64R (ts.getD i (0, 0, 0)).1 ∧ i64R (ts.getD i (0, 0, 0)).2.1) : ∀ i, i < (lawsE ts).length → szR ((lawsE ts).getD i (0, 0)).1 274877906944 := by
  intro i hi
  have hi' : i < ts.length := by simpa [lawsE] using hi
  rw [lawsE_get ts i hi']
  obtain ⟨hn, hd⟩ := hr i hi'
  have := fracQ_szR _ _ hn.1 hn.2 hd.1 hd.2
  exact ⟨Nat.le_trans this.1 (by omega), Nat.le_trans this.2 (by omega)⟩
theorem lawsE_szQ {ts : List (Int × Int × Int)} (hr : ∀ i, i < ts.length → i64R (ts.getD i (0, 0, 0)).1 ∧ i64R (ts.getD i (0, 0, 0)).2.1) : ∀ i, i < (lawsE ts).length → szQ ((lawsE ts).getD i (0, 0)).1 17179869184 := by
  intro i hi
  have hi' : i < ts.length := by simpa [lawsE] using hi
  rw [lawsE_get ts i hi']
  obtain ⟨hn, hd⟩ := hr i hi'
  have := fracQ_szQ _ _ hn.1 hn.2 hd.1 hd.2
  exact ⟨Nat.le_trans this.1 (by omega), Nat.le_trans this.2 (by omega)⟩

set_option maxRecDepth 100000 in
set_option maxHeartbeats 4000000 in
theorem storeUsed_any (ts : List (Int × Int × Int)) (gap : Int) (ls : List (Int × Nat)) (f t : Int) (v1 v3 : Value) (w : World) (h1 : LawsOf w v1 ts) (hr : ∀ i, i < ts.length → i64R (ts.getD i (0, 0, 0)).1 ∧ i64R (ts.getD i (0, 0, 0)).2.1) (h3 : LogOf w v3 ls) :
    Calls Try.prog 3 #[v1, .int .i64 gap, v3, .int .i64 f, .int .i64 t] w (RetBool true w) := by
  have H1 := Lib.hid h1
  have H3 := Lib.hid h3
  have HR := Lib.hid hr
  obtain ⟨aot, capt, rfl, _⟩ := h1
  obtain ⟨aol, capl, rfl, hE⟩ := h3
  have HE := Lib.hid hE
  clear hr hE
  by_cases c1 : 20 < ts.length
  · go_enter Try.func3, Try.ntmps3
    go_wp2_with fail
    refine (table_long ts _ _ H1.out c1).mono ?_
    rintro e w1 ⟨rfl, hb1⟩
    go_wp2_with fail
    refine (awake_any _).mono ?_
    rintro e w2 ⟨rfl, hb2⟩
    go_wp2_with fail
    go_ret
    exact ⟨rfl, ext_trans hb1 hb2⟩
  · have hl20 : ts.length ≤ 20 := by omega
    clear c1
    by_cases c2 : 300 < ls.length
    · have t2 : decide ((ls.length : Int) > 300) = true := by simp; omega
      clear c2
      go_enter Try.func3, Try.ntmps3
      go_wp2_with fail
      refine (table_any ts _ _ H1.out hl20 HR.out).mono ?_
      rintro e w1 ⟨va, vb, rfl, hva, hvb, hb1⟩
      clear hva hvb
      go_wp2_with fail
      refine (awake_any _).mono ?_
      rintro e w2 ⟨rfl, hb2⟩
      go_wp2_with fail
      go_ret
      exact ⟨rfl, ext_trans hb1 hb2⟩
    · have t2 : decide ((ls.length : Int) > 300) = false := by simp; omega
      have hl300 : ls.length ≤ 300 := by omega
      clear c2
      obtain ⟨i0, hi0, hz0, hz1, hz2⟩ := info_parts info_qreading
      have hzd : ∀ u ∈ (Value.agg #[.int .i64 0, .float .f32 0]).cells.toList, noDig u := by
        intro u hu
        simp [Value.cells] at hu
        rcases hu with rfl | rfl
        · exact noDig_i64 _
        · exact noDig_f32 _
      have hsf := run_store_f32
      go_enter Try.func3, Try.ntmps3
      go_wp2_with fail
      refine (table_any ts _ _ H1.out hl20 HR.out).mono ?_
      rintro e w1 ⟨va, vb, rfl, hva, hvb, hb1⟩
      have HA := Lib.hid hva
      have HB := Lib.hid hvb
      have HSA := Lib.hid (lawsE_szR HR.out)
      have HSB := Lib.hid (lawsE_szQ HR.out)
      generalize lawsE ts = es at *
      obtain ⟨aa, ca, rfl, _⟩ := hva
      obtain ⟨ab, cb, rfl, _⟩ := hvb
      go_wp2_with fail
      go_loopw [14, 37] (fun mv iv wr => ∃ (i : Nat), i ≤ ls.length ∧ iv = .int .i64 i ∧ LRow wr w1.heap.size 33 2 mv i (rdCells (ls.take i)) ∧ Below w1.heap.size w1 wr)
        (fun _ iv _ => ls.length - (intOf iv).toNat)
      case atStart => exact ⟨0, Nat.zero_le _, rfl, LRow.nil _ _ _ _, Below.refl _ _⟩
      case round =>
        obtain ⟨i, hi, rfl, hL, hbel⟩ := hrel
        have hx := hb1.trans (hbel.mono hb1.size)
        by_cases hlt : i < ls.length
        · obtain ⟨b, off, rfl, hbl, hLL⟩ := HE.out (by omega)
          obtain ⟨g0, g1⟩ := (hLL i hlt).below hx hbl
          have hlt' : (i : Int) < ls.length := by omega
          have hge' : (0 : Int) ≤ i := by omega
          have hbl2 : b < wr.heap.size := Nat.lt_of_lt_of_le hbl hx.size
          have Htk := Lib.hid (rdCells_take ls i hlt)
          clear hLL
          generalize (ls.getD i (0, 0)).1 = ty at *
          generalize (ls.getD i (0, 0)).2 = bt at *
          have hx1 := (Below.refl wr.heap.size wr).alloc (Nat.le_refl _) (.cells #[.int .i64 ty, .float .f32 bt] 32)
          have hx2 := hx1.alloc hx1.size (.cells #[.int .i64 ty, .float .f32 bt] 33)
          have hcn := cell_new2 (wr.alloc (.cells #[.int .i64 ty, .float .f32 bt] 32)) (.int .i64 ty) (.float .f32 bt) 33
          rw [World.size_alloc] at hcn
          have HCN := Lib.hid hcn
          have HL2 := Lib.hid (hL.below hx2)
          clear hcn hL hx1
          go_wp2_with (at_builtin; refine wpList_append_lrow _ rfl (.tmp 41) (.tmp 43) 29 rfl w1.heap.size 33 i0 _ 2 16 Try.underlying29 hi0 hz0 hz1 hz2 rfl (by decide) hzd _ _ _ rfl HL2.out ⟨wr.heap.size + 1, 0, none⟩ 1 1 [.int .i64 ty, .float .f32 bt] rfl rfl HCN.out (by simp [Value.oneCell']) (by intro u hu; simp at hu; rcases hu with rfl | rfl; exact noDig_i64 _; exact noDig_f32 _) (by omega) (by unfold maxLen; omega) (by omega) (by simp; have := hbel.size; omega) ?_)
          intro g cap' w3 hL3 hgr hat
          have hx3 : Below w1.heap.size w1 w3 := (hbel.trans (hx2.mono hbel.size)).grown hgr (by simp; have := hbel.size; omega) (ownBlock_base HL2.out.1)
          go_wp2_with fail
          exact ⟨⟨i + 1, by omega, by go_num, by rw [Htk.out]; exact hL3, hx3⟩, meas_up hlt⟩
        · obtain rfl : i = ls.length := by omega
          rw [List.take_length] at hL
          have hlog := LogOf.ofRow hL
          have HM := Lib.hid hlog
          obtain ⟨aom, capm, rfl, _⟩ := hlog
          clear hL
          go_wp2_with fail
          refine (Used_any es gap ls f t _ _ _ (HA.out.below IsRat.belowAll hbel) (H3.out.below hx) HSA.out).mono ?_
          rintro e w4 ⟨rfl, hb4⟩
          have hx4 := below_join hbel hb4
          generalize hU : usedVal es gap ls f t = U
          generalize hV : usedErr es gap ls f t = V
          have HU := Lib.hid hU
          have HV := Lib.hid hV
          clear hU hV
          go_wp2_with fail
          refine (qUsed_any es gap ls f t _ _ _ (HB.out.below IsR.belowAll hx4) (HM.out.below hb4) HSB.out).mono ?_
          rintro e w5 ⟨rfl, hb5⟩
          rw [HU.out, HV.out]
          have hx5 := below_join hx4 hb5
          have e1 : (U == U) = true := by simp
          have e2 : (V == V) = true := by simp
          go_wp2_with fail
          refine (awake_any _).mono ?_
          rintro e w6 ⟨rfl, hb6⟩
          have hx6 := below_join hb1 (below_join hx5 hb6)
          go_wp2_with fail
          go_ret
          exact ⟨rfl, hx6⟩

end Go.Proofs.Ytdjdnfjgklaneaa

/- THE WALK OF law06.StoreTables. -/
namespace Go.Proofs.Ytdjdnfjgklaneaa
open Go.RowKit

set_option maxRecDepth 100000 in
set_option maxHeartbeats 4000000 in
theorem storeTables_any (ts : List (Int × Int × Int)) (n d : Int) (v1 : Value) (w : World) (h1 : LawsOf w v1 ts) (hr : ∀ i, i < ts.length → i64R (ts.getD i (0, 0, 0)).1 ∧ i64R (ts.getD i (0, 0, 0)).2.1) (hn : i64R n) (hd : i64R d) :
    Calls Try.prog 4 #[v1, .agg #[.int .i64 n, .int .i64 d]] w (RetBool true w) := by
  have H1 := Lib.hid h1
  have HR := Lib.hid hr
  have HN := Lib.hid hn
  have HD := Lib.hid hd
  obtain ⟨aot, capt, rfl, _⟩ := h1
  clear hr hn hd
  have hal := (Below.refl w.heap.size w).alloc (Nat.le_refl _) (.cells #[.int .i64 n, .int .i64 d] 40)
  have hB0 := blk_new w #[.int .i64 n, .int .i64 d] 40
  by_cases c1 : 20 < ts.length
  · go_enter Try.func4, Try.ntmps4
    go_wp2_with fail
    refine (table_long ts _ _ (H1.out.below hal) c1).mono ?_
    rintro e w1 ⟨rfl, hb1⟩
    go_wp2_with fail
    refine (awake_any _).mono ?_
    rintro e w2 ⟨rfl, hb2⟩
    go_wp2_with fail
    go_ret
    exact ⟨rfl, ext_trans hal (ext_trans hb1 hb2)⟩
  · have hl20 : ts.length ≤ 20 := by omega
    clear c1
    go_enter Try.func4, Try.ntmps4
    go_wp2_with fail
    refine (table_any ts _ _ (H1.out.below hal) hl20 HR.out).mono ?_
    rintro e w1 ⟨va, vb, rfl, hva, hvb, hb1⟩
    have hx1 := ext_trans hal hb1
    have hB1 := blk_keep hB0 hb1 (by simp)
    have m0 := blk_cell hB1 0 (.int .i64 n) rfl
    have m1 := blk_cell hB1 1 (.int .i64 d) rfl
    have HA := Lib.hid hva
    have HB := Lib.hid hvb
    have HSA := Lib.hid (lawsE_szR HR.out)
    have HSB := Lib.hid (lawsE_szQ HR.out)
    have hel : (lawsE ts).length ≤ 20 := by simpa [lawsE] using hl20
    generalize lawsE ts = es at *
    obtain ⟨aa, ca, rfl, _⟩ := hva
    obtain ⟨ab, cb, rfl, _⟩ := hvb
    have HTR : Hid (szR (fracQ n d) 274877906944) := by
      have := fracQ_szR n d HN.out.1 HN.out.2 HD.out.1 HD.out.2
      exact ⟨Nat.le_trans this.1 (by omega), Nat.le_trans this.2 (by omega)⟩
    have HTQ : Hid (szQ (fracQ n d) 17179869184) := by
      have := fracQ_szQ n d HN.out.1 HN.out.2 HD.out.1 HD.out.2
      exact ⟨Nat.le_trans this.1 (by omega), Nat.le_trans this.2 (by omega)⟩
    go_wp2_with fail
    refine (of_any n d _ HN.out.1 HN.out.2 HD.out.1 HD.out.2).mono ?_
    rintro e w2 ⟨vT, rfl, hT, hb2⟩
    have hB2 := blk_keep hB1 hb2 (blk_lt hB1)
    obtain ⟨a1, c1, a2, c2, rfl, _, _⟩ := hT.opened
    have HT := Lib.hid hT
    clear hT
    go_wp2_with fail
    refine (rateAt_any es (fracQ n d) _ _ _ (HA.out.below IsRat.belowAll hb2) HT.out HSA.out HTR.out (by omega)).mono ?_
    rintro e w3 ⟨rfl, hb3⟩
    have hx3 := below_join hb2 hb3
    have hB3 := blk_keep hB2 hb3 (blk_lt hB2)
    have n0 := blk_cell hB3 0 (.int .i64 n) rfl
    have n1 := blk_cell hB3 1 (.int .i64 d) rfl
    generalize hU : rateV es (fracQ n d) = U
    generalize hV : tabErr es = V
    have HU := Lib.hid hU
    have HV := Lib.hid hV
    clear hU hV m0 m1
    go_wp2_with fail
    refine (qof_any n d _ HN.out.1 HN.out.2 HD.out.1 HD.out.2).mono ?_
    rintro e w4 ⟨vQ, rfl, hQ, hb4⟩
    have hx4 := below_join hx3 hb4
    obtain ⟨d', a3, c3, a4, c4, rfl, _, _, _⟩ := hQ.opened
    have HQ := Lib.hid hQ
    clear hQ
    go_wp2_with fail
    refine (qrateAt_any es (fracQ n d) _ _ _ (HB.out.below IsR.belowAll hx4) HQ.out HSB.out HTQ.out).mono ?_
    rintro e w5 ⟨rfl, hb5⟩
    rw [HU.out, HV.out]
    have hx5 := below_join hx4 hb5
    have e1 : (U == U) = true := by simp
    have e2 : (V == V) = true := by simp
    go_wp2_with fail
    refine (checkTable_any es _ _ (HA.out.below IsRat.belowAll hx5) HSA.out).mono ?_
    rintro e w6 ⟨rfl, hb6⟩
    rw [HV.out]
    have hx6 := below_join hx5 hb6
    go_wp2_with fail
    refine (qcheckTable_any es _ _ (HB.out.below IsR.belowAll hx6) HSB.out).mono ?_
    rintro e w7 ⟨rfl, hb7⟩
    rw [HV.out]
    have hx7 := below_join hx6 hb7
    go_wp2_with fail
    refine (awake_any _).mono ?_
    rintro e w8 ⟨rfl, hb8⟩
    have hx8 := below_join hx1 (below_join hx7 hb8)
    go_wp2_with fail
    go_ret
    exact ⟨rfl, hx8⟩

end Go.Proofs.Ytdjdnfjgklaneaa
