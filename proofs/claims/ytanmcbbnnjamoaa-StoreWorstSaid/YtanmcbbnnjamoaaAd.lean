/- Part d of the lemmas and walks. -/
import Derived.Test.YtanmcbbnnjamoaaAc

namespace Go.Proofs.Ytanmcbbnnjamoaa
open Go.ChangeShapes Go.WideShapes Go.ChangeAt Go.RowKit

section
variable {H : Type} {enc : TypeId × Value → H} {P : Program} {w : World} {base : Nat} {spare : Nat → Bool} {held : Bool}
theorem trod_float {t : TypeId} {fuel : Nat} {cs : List Value} {x : DataW H × List MemPlace} {k : FloatKind} (ht : P.underlying t = some (.float k)) (h : DataW.trod enc P w base spare held fuel t cs = some x) :
  ∃ n, cs = [.float k n] ∧ x = (.lit (.float k n), []) ∧ (Lit.float k n).wf = true := by
 cases fuel with
 | zero => simp [DataW.trod] at h
 | succ n =>
  unfold DataW.trod at h
  rw [ht] at h
  split at h <;> simp_all

theorem open_rows {r : Reach} {b0 : Nat} {t e : TypeId} {k : Nat} {v : Value} {d : DataW H} {p : List MemPlace} (ht : P.underlying t = some (.slice e)) (hk : P.cellsOf e = k) (hk0 : 0 < k) (Law : List Value → Prop)
  (hlaw : ∀ n cs y, DataW.trod enc P w 0 (fun _ => true) true n e cs = some y → Law cs) (hv : Value.okWide P w r b0 t v) (h : DataW.Trod enc P w 0 (fun _ => true) true t v d p) :
  ∃ ao len cap, v = .slice ao len cap ∧ len ≤ cap ∧ cap ≤ maxLen ∧ (0 < len → ∃ b off, ao = some ⟨b, off, none⟩ ∧ b < w.heap.size ∧ ∀ i, i < len → ∃ cs : List Value, cs.length = k ∧ Law cs ∧ ∀ j, j < k → w.cell? ⟨b, off + i * k + j, none⟩ = cs[j]?) := by
 obtain ⟨ao, len, cap, rfl⟩ := okWide_slice ht hv
 refine ⟨ao, len, cap, rfl, ?_⟩
 obtain ⟨fuel, hf⟩ := h
 rcases Deep.open_slice ht hf with ⟨hcs, _⟩ | ⟨a, len', cap', m, n, D, Pl, hcs, _, hl, hm, hmm, _, hi⟩
 ·
  simp [Value.cells] at hcs
  obtain ⟨rfl, rfl, rfl⟩ := hcs
  exact ⟨Nat.le_refl _, by unfold maxLen; omega, fun h => absurd h (by omega)⟩
 ·
  simp [Value.cells] at hcs
  obtain ⟨rfl, rfl, rfl⟩ := hcs
  refine ⟨hl, hm, fun hlen => ?_⟩
  simp only [if_true] at hmm
  subst hmm
  have key : ∀ i, i < len → ∃ cs : List Value, cs.length = k ∧ Law cs ∧ ∀ j, j < k → w.cell? (a.add (i * k + j)) = cs[j]? := by
   intro i hlt
   obtain ⟨cs', hc, hT⟩ := hi i (by omega)
   rw [hk] at hc
   obtain ⟨_, hcl, hat⟩ := World.cells?_some hc
   exact ⟨cs', hcl, hlaw _ _ _ hT, fun j hj => by rw [← hat j hj, Deep.add_add]⟩
  obtain ⟨b, off, spot⟩ := a
  have hsp : spot = none := by
   obtain ⟨cs, hcl, _, hat⟩ := key 0 hlen
   have h0 := hat 0 hk0
   rw [List.getElem?_eq_getElem (by omega)] at h0
   have := World.cell?_spot h0
   simpa [Addr.add] using this
  subst hsp
  have ea : ∀ j, (⟨b, off, none⟩ : Addr).add j = ⟨b, off + j, none⟩ := fun j => by unfold Addr.add; split <;> simp_all
  refine ⟨b, off, rfl, ?_, fun i hlt => ?_⟩
  ·
   obtain ⟨cs, hcl, _, hat⟩ := key 0 hlen
   have h0 := hat 0 hk0
   rw [List.getElem?_eq_getElem (by omega), ea] at h0
   exact World.block_lt_of_cell? (h := h0)
  ·
   obtain ⟨cs, hcl, hL, hat⟩ := key i hlt
   exact ⟨cs, hcl, hL, fun j hj => by rw [← hat j hj, ea, Nat.add_assoc]⟩
end

theorem choose_list {α : Type} (n : Nat) (d : α) (p : Nat → α → Prop) (h : ∀ i, i < n → ∃ x, p i x) : ∃ l : List α, l.length = n ∧ ∀ i, i < n → p i (l.getD i d) := by
 have h2 : ∀ i, ∃ x, i < n → p i x := fun i => by
  by_cases hi : i < n
  ·
   obtain ⟨x, hx⟩ := h i hi
   exact ⟨x, fun _ => hx⟩
  ·
   exact ⟨d, fun h => absurd h hi⟩
 refine ⟨(List.range n).map fun i => Classical.choose (h2 i), by simp, fun i hi => ?_⟩
 have e : ((List.range n).map fun i => Classical.choose (h2 i)).getD i d = Classical.choose (h2 i) := by simp [hi]
 rw [e]
 exact Classical.choose_spec (h2 i) hi

section
variable {H : Type} {enc : TypeId × Value → H} {w : World}
end

theorem own_knob : ownKnob Try.prog.godebug = none := by kernel_rfl
theorem laid_out : laidOutB Try.prog = true := by kernel_rfl

end Go.Proofs.Ytanmcbbnnjamoaa

namespace Go.Proofs.Ytanmcbbnnjamoaa
open Go.ChangeShapes Go.WideShapes Go.ChangeAt Go.RowKit

inductive Leaf where
 | int (k : IntKind) | float (k : FloatKind) | bool | string
def leafOk : Leaf → Value → Prop
 | .int k, v => ∃ n, v = .int k n ∧ (Lit.int k n).wf = true
 | .float k, v => ∃ n, v = .float k n ∧ (Lit.float k n).wf = true
 | .bool, v => ∃ b, v = .bool b
 | .string, v => ∃ s : ByteArray, v = .string s ∧ s.size ≤ maxLen
def allLeaf : List Leaf → List Value → Prop
 | [], [] => True
 | l :: ls, v :: vs => leafOk l v ∧ allLeaf ls vs
 | _, _ => False
theorem allLeaf_append : ∀ {ls : List Leaf} {vs : List Value} {ls' : List Leaf} {vs' : List Value}, allLeaf ls vs → allLeaf ls' vs' → allLeaf (ls ++ ls') (vs ++ vs')
 | [], [], _, _, _, h => h
 | _ :: _, _ :: _, _, _, ⟨h1, h2⟩, h => ⟨h1, allLeaf_append h2 h⟩
theorem allLeaf_length : ∀ {ls : List Leaf} {vs : List Value}, allLeaf ls vs → vs.length = ls.length
 | [], [], _ => rfl
 | _ :: _, _ :: _, ⟨_, h⟩ => by simp [allLeaf_length h]

section
variable (P : Program)
def flatFs (fl : TypeId → Option (List Leaf)) : List Field → Nat → Option (List Leaf)
 | [], _ => some []
 | f :: fs, o => if f.offset = o then (fl f.type).bind fun l => if P.cellsOf f.type = l.length then (flatFs fl fs (o + l.length)).map (l ++ ·) else none else none
def flatN (l : List Leaf) : Nat → List Leaf
 | 0 => []
 | n + 1 => flatN l n ++ l
def flat : Nat → TypeId → Option (List Leaf)
 | 0, _ => none
 | n + 1, t => match P.underlying t with
  | some .bool => some [.bool]
  | some (.int k) => some [.int k]
  | some (.float k) => some [.float k]
  | some .string => some [.string]
  | some (.struct fs) => (flatFs P (flat n) fs.toList 0).bind fun l => if P.cellsOf t = l.length then some l else none
  | some (.array m e) => (flat n e).bind fun l => if P.cellsOf e = l.length ∧ P.cellsOf t = m * l.length then some (flatN l m) else none
  | _ => none
end
section
variable {H : Type} {enc : TypeId × Value → H} {P : Program} {w : World}
theorem flatFs_law (fl : TypeId → Option (List Leaf)) (n : Nat) (cs : List Value) (ih : ∀ t l cs y, fl t = some l → DataW.trod enc P w 0 (fun _ => true) true n t cs = some y → allLeaf l cs) :
  ∀ (fs : List Field) (o : Nat) (ls : List Leaf), flatFs P fl fs o = some ls → (∀ f ∈ fs, ∃ y, DataW.trod enc P w 0 (fun _ => true) true n f.type ((cs.drop f.offset).take (P.cellsOf f.type)) = some y) →
   allLeaf ls ((cs.drop o).take ls.length)
 | [], o, ls, h, _ => by
  simp [flatFs] at h
  subst h
  simp [allLeaf]
 | f :: fs, o, ls, h, hf => by
  unfold flatFs at h
  split at h
  ·
   rename_i ho
   subst ho
   rw [Option.bind_eq_some_iff] at h
   obtain ⟨l, h1, h2⟩ := h
   split at h2
   ·
    rename_i hc
    rw [Option.map_eq_some_iff] at h2
    obtain ⟨l2, h3, rfl⟩ := h2
    obtain ⟨y, hy⟩ := hf f (by simp)
    have a1 := ih _ _ _ _ h1 hy
    rw [hc] at a1
    have a2 := flatFs_law fl n cs ih fs _ _ h3 (fun g hg => hf g (by simp [hg]))
    rw [List.length_append, List.take_add, List.drop_drop]
    exact allLeaf_append a1 a2
   ·
    cases h2
  ·
   cases h
theorem trod_array {t e : TypeId} {fuel m : Nat} {cs : List Value} {x : DataW H × List MemPlace} (ht : P.underlying t = some (.array m e)) (h : DataW.trod enc P w 0 (fun _ => true) true fuel t cs = some x) :
  ∃ n, fuel = n + 1 ∧ cs.length = P.cellsOf t ∧ ∀ i, i < m → ∃ y, DataW.trod enc P w 0 (fun _ => true) true n e ((cs.drop (i * P.cellsOf e)).take (P.cellsOf e)) = some y := by
 cases fuel with
 | zero => simp [DataW.trod] at h
 | succ n =>
  unfold DataW.trod at h
  rw [ht] at h
  split at h <;> simp_all
  obtain ⟨hl, xs, hp, hd⟩ := h
  intro i hi
  have hlen := mapM_some_length hp
  have := mapM_some_get hp i i (by simp [hi])
  rw [this]
  simp at hlen
  exact ⟨xs[i].1, xs[i].2, by simp [hlen, hi]⟩
theorem flat_law : ∀ (k : Nat) (t : TypeId) (ls : List Leaf) (n : Nat) (cs : List Value) (y : DataW H × List MemPlace), flat P k t = some ls → DataW.trod enc P w 0 (fun _ => true) true n t cs = some y → allLeaf ls cs := by
 intro k
 induction k with
 | zero => intro t ls n cs y h; simp [flat] at h
 | succ k ih =>
  intro t ls n cs y h ht
  unfold flat at h
  split at h
  ·
   rename_i hu
   obtain ⟨b, rfl, _⟩ := DataW.trod_bool hu ht
   obtain rfl : [Leaf.bool] = ls := by simpa using h
   exact ⟨⟨b, rfl⟩, trivial⟩
  ·
   rename_i kk hu
   obtain ⟨b, rfl, _, hw⟩ := DataW.trod_int hu ht
   obtain rfl : [Leaf.int kk] = ls := by simpa using h
   exact ⟨⟨b, rfl, hw⟩, trivial⟩
  ·
   rename_i kk hu
   obtain ⟨b, rfl, _, hw⟩ := trod_float hu ht
   obtain rfl : [Leaf.float kk] = ls := by simpa using h
   exact ⟨⟨b, rfl, hw⟩, trivial⟩
  ·
   rename_i hu
   obtain ⟨s, rfl, _, hw⟩ := DataW.trod_string hu ht
   obtain rfl : [Leaf.string] = ls := by simpa using h
   exact ⟨⟨s, rfl, hw⟩, trivial⟩
  ·
   rename_i fs hu
   rw [Option.bind_eq_some_iff] at h
   obtain ⟨l, h1, h2⟩ := h
   split at h2
   ·
    rename_i hc
    obtain rfl : l = ls := by simpa using h2
    obtain ⟨xs, m, _, _, hcl, hxl, hf⟩ := DataW.trod_struct hu ht
    have := flatFs_law (enc := enc) (w := w) (flat P k) m cs (fun t l cs y a b => ih t l m cs y a b) fs.toList 0 l h1 (fun f hf' => by
     obtain ⟨i, hi, rfl⟩ := List.getElem_of_mem hf'
     simp at hi
     have e := hf i fs[i] (by simp [hi])
     exact ⟨xs[i], by simp at e ⊢; rw [e]; simp [hxl, hi]⟩)
    rw [List.drop_zero, List.take_of_length_le (by rw [hcl, hc]; exact Nat.le_refl _)] at this
    exact this
   ·
    cases h2
  ·
   rename_i m e hu
   rw [Option.bind_eq_some_iff] at h
   obtain ⟨l, h1, h2⟩ := h
   split at h2
   ·
    rename_i hc
    obtain ⟨hc1, hc2⟩ := hc
    obtain rfl : flatN l m = ls := by simpa using h2
    obtain ⟨n', _, hcl, hE⟩ := trod_array hu ht
    have key : ∀ j, j ≤ m → allLeaf (flatN l j) (cs.take (j * l.length)) := by
     intro j hj
     induction j with
     | zero => simp [flatN, allLeaf]
     | succ j ihj =>
      obtain ⟨y, hy⟩ := hE j (by omega)
      have a1 := ih _ _ _ _ _ h1 hy
      rw [hc1] at a1
      rw [Nat.succ_mul, List.take_add]
      exact allLeaf_append (ihj (by omega)) a1
    have := key m (Nat.le_refl _)
    rw [List.take_of_length_le (by rw [hcl, hc2]; exact Nat.le_refl _)] at this
    exact this
   ·
    cases h2
  ·
   cases h

theorem open_flats {r : Reach} {b0 : Nat} {t e : TypeId} {k : Nat} {ls : List Leaf} {v : Value} {d : DataW H} {p : List MemPlace} (ht : P.underlying t = some (.slice e)) (hk : P.cellsOf e = k) (hk0 : 0 < k) (hfl : flat P 8 e = some ls)
  (hv : Value.okWide P w r b0 t v) (h : DataW.Trod enc P w 0 (fun _ => true) true t v d p) :
  ∃ ao len cap, v = .slice ao len cap ∧ len ≤ cap ∧ cap ≤ maxLen ∧ (0 < len → ∃ b off, ao = some ⟨b, off, none⟩ ∧ b < w.heap.size ∧ ∀ i, i < len → ∃ cs : List Value, cs.length = k ∧ allLeaf ls cs ∧ ∀ j, j < k → w.cell? ⟨b, off + i * k + j, none⟩ = cs[j]?) :=
 open_rows ht hk hk0 (allLeaf ls) (fun n cs y hy => flat_law 8 e ls n cs y hfl hy) hv h
theorem open_flat {t : TypeId} {ls : List Leaf} {v : Value} {d : DataW H} {p : List MemPlace} (hfl : flat P 8 t = some ls) (h : DataW.Trod enc P w 0 (fun _ => true) true t v d p) : allLeaf ls v.cells.toList := by
 obtain ⟨fuel, hf⟩ := h
 exact flat_law 8 t ls fuel _ _ hfl hf
end

end Go.Proofs.Ytanmcbbnnjamoaa

namespace Go.Proofs.Ytanmcbbnnjamoaa
open Go.RowKit

set_option maxHeartbeats 1000000 in
/-- The rate at a reading's temperature: the closure's own contract. -/
theorem rateF_any (es : List (Rat × Int)) (b Bt : Nat) (ve : Value) (w : World) (hbx : Boxed w Bt 25 ve) (he : EntsOf IsRat w ve es) (hs : ∀ i, i < es.length → szR (es.getD i (0, 0)).1 274877906944) (hlen : es.length ≤ 1000000) :
  Calls Try.prog 55 #[.float .f32 b, .pointer (some ⟨Bt, 0, none⟩)] w (RetInt (rateUp es (tempQ b)) w) := by
 have hc := hbx.cell
 have hlt := hbx.lt
 have HE := Lib.hid he
 have HS := Lib.hid hs
 obtain ⟨ao, cap, rfl, _⟩ := he
 clear hs hbx
 have HT : Hid (szR (tempQ b) 274877906944) := by
  have := tempQ_szR b
  exact ⟨Nat.le_trans this.1 (by omega), Nat.le_trans this.2 (by omega)⟩
 go_enter Try.func55, Try.ntmps55
 go_wp2_with fail
 refine (exact_any b _).mono ?_
 rintro e w1 ⟨v, rfl, hv, hb1⟩
 obtain ⟨a1, c1, a2, c2, rfl, n1, n2⟩ := hv.opened
 have Hv := Lib.hid hv
 have hc1 := (hb1.cell (p := ⟨Bt, 0, none⟩) hlt).trans hc
 have hlt1 : Bt < w1.heap.size := Nat.lt_of_lt_of_le hlt hb1.size
 have hal := (Below.refl w1.heap.size w1).alloc (Nat.le_refl _) (.cells #[.bool (decide ((tempQ b).num < 0)), .slice a1 (dig b64 (tempQ b).num.natAbs).length c1, .slice a2 (dig b64 (dn (tempQ b).den)).length c2] 40)
 clear hv n1 n2 hc hlt
 go_wp2_with fail
 refine (rate_any es (tempQ b) _ _ _ (HE.out.below IsRat.belowAll (ext_trans hb1 hal)) (Hv.out.below hal) HS.out HT.out hlen).mono ?_
 rintro e w2 ⟨rfl, hb2⟩
 have hx := ext_trans (ext_trans hb1 hal) hb2
 go_wp2_with fail
 go_ret
 exact ⟨rfl, hx⟩

def RetSeq (es : List (Rat × Int)) (gap : Int) (ve vl : Value) (w : World) (e : Ending) (w' : World) : Prop :=
 e = .returned (.func (.func 56) #[] #[.pointer (some ⟨w.heap.size + 3, 0, none⟩), .pointer (some ⟨w.heap.size + 2, 0, none⟩), .pointer (some ⟨w.heap.size + 1, 0, none⟩), .pointer (some ⟨w.heap.size + 4, 0, none⟩)]) ∧
 w'.heap.size = w.heap.size + 5 ∧ Below w.heap.size w w' ∧
 Boxed w' w.heap.size 25 ve ∧ Boxed w' (w.heap.size + 1) 3 (.int .i64 gap) ∧ Boxed w' (w.heap.size + 2) 29 vl ∧ Boxed w' (w.heap.size + 3) 3 (.int .i64 (hotI es)) ∧
 Boxed w' (w.heap.size + 4) 123 (.func (.func 55) #[] #[.pointer (some ⟨w.heap.size, 0, none⟩)])

set_option maxHeartbeats 1000000 in
theorem stretches_any (es : List (Rat × Int)) (gap : Int) (ve vl : Value) (ls : List (Int × Nat)) (w : World) (he : EntsOf IsRat w ve es) (hl : LogOf w vl ls) (h0 : 0 < es.length) (h16 : es.length ≤ 16) :
  Calls Try.prog 42 #[ve, .int .i64 gap, vl] w (RetSeq es gap ve vl w) := by
 obtain ⟨aol, capl, rfl, _⟩ := hl
 obtain ⟨ao, cap, rfl, hE⟩ := he
 obtain ⟨be, offe, rfl, hble, hEE⟩ := hE h0
 obtain ⟨v0, vn, vd, _, _, _, hh, _⟩ := hEE (es.length - 1) (by omega)
 have hhot : (es.getD (es.length - 1) (0, 0)).2 = hotI es := rfl
 rw [hhot] at hh
 have e1 : (es.length : Int) - 1 = ((es.length - 1 : Nat) : Int) := by omega
 have e2 : ((es.length - 1 : Nat) : Int) < es.length := by omega
 generalize hP : es.length - 1 = P at *
 clear hP
 obtain ⟨A1, hA1⟩ : ∃ A1, A1 = w.alloc (.cells #[.slice (some ⟨be, offe, none⟩) es.length cap] 25) := ⟨_, rfl⟩
 obtain ⟨A2, hA2⟩ : ∃ A2, A2 = A1.alloc (.cells #[.int .i64 gap] 3) := ⟨_, rfl⟩
 obtain ⟨A3, hA3⟩ : ∃ A3, A3 = A2.alloc (.cells #[.slice aol ls.length capl] 29) := ⟨_, rfl⟩
 have s1 : A1.heap.size = w.heap.size + 1 := by rw [hA1]; simp
 have s2 : A2.heap.size = w.heap.size + 2 := by rw [hA2]; simp; omega
 have s3 : A3.heap.size = w.heap.size + 3 := by rw [hA3]; simp; omega
 have x1 : Below w.heap.size w A1 := by rw [hA1]; exact (Below.refl _ _).alloc (Nat.le_refl _) _
 have x2 : Below w.heap.size w A2 := by rw [hA2]; exact x1.alloc x1.size _
 have x3 : Below w.heap.size w A3 := by rw [hA3]; exact x2.alloc x2.size _
 have b1 : Boxed A1 w.heap.size 25 (.slice (some ⟨be, offe, none⟩) es.length cap) := by rw [hA1]; exact Boxed.new _ _ _
 have b2 : Boxed A2 (w.heap.size + 1) 3 (.int .i64 gap) := by rw [hA2, ← s1]; exact Boxed.new _ _ _
 have b3 : Boxed A3 (w.heap.size + 2) 29 (.slice aol ls.length capl) := by rw [hA3, ← s2]; exact Boxed.new _ _ _
 have b12 : Boxed A2 w.heap.size 25 (.slice (some ⟨be, offe, none⟩) es.length cap) := by rw [hA2]; exact b1.alloc _
 have b13 : Boxed A3 w.heap.size 25 (.slice (some ⟨be, offe, none⟩) es.length cap) := by rw [hA3]; exact b12.alloc _
 have b23 : Boxed A3 (w.heap.size + 1) 3 (.int .i64 gap) := by rw [hA3]; exact b2.alloc _
 have h3 : A3.cell? ⟨be, offe + P * 4 + 3, none⟩ = some (.int .i64 (hotI es)) := (x3.cell (p := ⟨be, _, none⟩) hble).trans hh
 have c13 := b13.cell
 clear hE hEE hhot b1 b2 b12 x1 x2
 rw [hA1] at hA2
 rw [hA2] at hA3
 have HA3 := Lib.hid hA3
 have S3 := Lib.hid s3
 clear hA1 hA2 hA3 s1 s2 s3 A1 A2
 go_enter Try.func42, Try.ntmps42
 go_wp2_with (rw [← HA3.out])
 have b4 := (Boxed.new A3 3 (.int .i64 (hotI es))).alloc (.cells #[.func (.func 55) #[] #[.pointer (some ⟨w.heap.size, 0, none⟩)]] 123)
 have b5 := Boxed.new (A3.alloc (.cells #[.int .i64 (hotI es)] 3)) 123 (.func (.func 55) #[] #[.pointer (some ⟨w.heap.size, 0, none⟩)])
 rw [World.size_alloc] at b5
 rw [S3.out] at b4 b5 ⊢
 go_ret
 exact ⟨rfl, by rw [World.size_alloc, World.size_alloc, S3.out], (x3.alloc x3.size _).alloc (Nat.le_trans x3.size (by simp)) _, (b13.alloc _).alloc _, (b23.alloc _).alloc _, (b3.alloc _).alloc _, b4, b5⟩

/-! ### The iterator -/

structure KeepCells (B : Nat) (W W' : World) : Prop where
 size : W.heap.size ≤ W'.heap.size
 same : ∀ (k : Nat) (o : Obj), k ≠ B → W.heap[k]? = some o → o.isCells = true → W'.heap[k]? = some o
def KpU (n B : Nat) (W W' : World) : Prop := Below n W W' ∧ KeepCells B W W'
theorem KpU.trans {n B : Nat} {X Y Z : World} (h : KpU n B X Y) (k : KpU n B Y Z) : KpU n B X Z :=
 ⟨h.1.trans k.1, Nat.le_trans h.2.size k.2.size, fun i o hB hi ho => k.2.same i o hB (h.2.same i o hB hi ho) ho⟩
theorem KpU.putObj {n B : Nat} {w : World} (hn : n ≤ w.heap.size) (W : World) (l : Nat) (o o' : Obj) (hl : w.heap.size ≤ l) (h : W.heap[l]? = some o) (hc : o.isCells = false) (hw : o.isWalk = false) : KpU n B W (W.putObj l o') :=
 ⟨belowK_b hn W l o o' hl h hc hw, by simp, fun k o2 _ hk ho => by
  by_cases e : k = l
  ·
   subst e; rw [h] at hk; cases hk; rw [hc] at ho; cases ho
  ·
   exact (World.putObj_heap_other e).trans hk⟩
theorem KpU.boxed {n B : Nat} {X Y : World} (h : KpU n B X Y) {b : Nat} {t : TypeId} {v : Value} (hb : Boxed X b t v) (hne : b ≠ B) : Boxed Y b t v := h.2.same b _ hne hb rfl
theorem KpU.blk {n B : Nat} {X Y : World} (h : KpU n B X Y) {b : Nat} {cs : Array Value} {t : TypeId} {fr : Nat × Nat} (hb : X.heap[b]? = some (.cells cs t fr)) (hne : b ≠ B) : Y.heap[b]? = some (.cells cs t fr) := h.2.same b _ hne hb rfl
theorem boxed_below {X Y : World} {b : Nat} {t : TypeId} {v : Value} (hb : Boxed X b t v) (h : Below X.heap.size X Y) : Boxed Y b t v := (h.block b hb.lt).trans hb

abbrev Str := { x : Int × Int × Int // 0 ≤ x.2.2 ∧ x.2.2 ≤ 1000 }
def encS (x : Str) : Array Value := #[.agg #[.int .i64 x.1.1, .int .i64 x.1.2.1], .int .i64 x.1.2.2]
def strI (es : List (Rat × Int)) (gap : Int) (ls : List (Int × Nat)) (i : Nat) : Int × Int × Int :=
 (if i = 0 then -9223372036854775808 else lastT ls i, if i < ls.length then (ls.getD i (0, 0)).1 else 9223372036854775807, if i < ls.length then rateI es gap ls i else hotI es)
theorem strI_range {es : List (Rat × Int)} {ls : List (Int × Nat)} {f t : Int} (h : GoodLog es ls f t) (gap : Int) (i : Nat) : 0 ≤ (strI es gap ls i).2.2 ∧ (strI es gap ls i).2.2 ≤ 1000 := by
 show 0 ≤ (if i < ls.length then rateI es gap ls i else hotI es) ∧ (if i < ls.length then rateI es gap ls i else hotI es) ≤ 1000
 split
 ·
  exact h.rate gap i
 ·
  exact h.hot
def strS {es : List (Rat × Int)} {ls : List (Int × Nat)} {f t : Int} (h : GoodLog es ls f t) (gap : Int) (i : Nat) : Str := ⟨strI es gap ls i, strI_range h gap i⟩
def strsTo {es : List (Rat × Int)} {ls : List (Int × Nat)} {f t : Int} (h : GoodLog es ls f t) (gap : Int) (k : Nat) : List Str := (List.range k).map (strS h gap)
theorem strsTo_succ {es : List (Rat × Int)} {ls : List (Int × Nat)} {f t : Int} (h : GoodLog es ls f t) (gap : Int) (k : Nat) : strsTo h gap (k + 1) = strsTo h gap k ++ [strS h gap k] := by simp [strsTo, List.range_succ]
theorem strsTo_length {es : List (Rat × Int)} {ls : List (Int × Nat)} {f t : Int} (h : GoodLog es ls f t) (gap : Int) (k : Nat) : (strsTo h gap k).length = k := by simp [strsTo]
def fromT (ls : List (Int × Nat)) (i : Nat) : Int := if i = 0 then -9223372036854775808 else lastT ls i
def beforeT (es : List (Rat × Int)) (ls : List (Int × Nat)) (i : Nat) : Int := if i = 0 then hotI es else rateUp es (tempQ (ls.getD (i - 1) (0, 0)).2)
theorem encS_round {es : List (Rat × Int)} {ls : List (Int × Nat)} {f t : Int} (h : GoodLog es ls f t) (gap : Int) (i : Nat) (hi : i < ls.length) :
  encS (strS h gap i) = #[.agg #[.int .i64 (fromT ls i), .int .i64 (ls.getD i (0, 0)).1], .int .i64 (rateI es gap ls i)] := by
 simp only [encS, strS, strI, fromT, if_pos hi]
theorem encS_last {es : List (Rat × Int)} {ls : List (Int × Nat)} {f t : Int} (h : GoodLog es ls f t) (gap : Int) :
  encS (strS h gap ls.length) = #[.agg #[.int .i64 (fromT ls ls.length), .int .i64 9223372036854775807], .int .i64 (hotI es)] := by
 simp only [encS, strS, strI, fromT, if_neg (Nat.lt_irrefl _)]

end Go.Proofs.Ytanmcbbnnjamoaa

namespace Go.Proofs.Ytanmcbbnnjamoaa
open Go.RowKit Go.Shelf

attribute [local go_sem] Oper.semAt_some

theorem keepA3 {n : Nat} {W a b : World} {A0 A1 A2 : Addr} {v0 v1 v2 : Value} (hn : n ≤ W.heap.size) (hb : Below a.heap.size a b)
  (h : Below n W a ∧ a.cell? A0 = some v0 ∧ a.cell? A1 = some v1 ∧ a.cell? A2 = some v2) :
  Below n W b ∧ b.cell? A0 = some v0 ∧ b.cell? A1 = some v1 ∧ b.cell? A2 = some v2 := by
 obtain ⟨h0, h1, h2, h3⟩ := h
 have e : ∀ A v, a.cell? A = some v → b.cell? A = some v := fun A v h => (hb.cell (World.block_lt_of_cell? (h := h))).trans h
 have hs := h0.size
 exact ⟨h0.trans (hb.mono (by omega)), e _ _ h1, e _ _ h2, e _ _ h3⟩
theorem below_join {w a b : World} (h : Below w.heap.size w a) (k : Below a.heap.size a b) : Below w.heap.size w b := ext_trans h k
theorem strsTo_prefix {es : List (Rat × Int)} {ls : List (Int × Nat)} {f t : Int} (h : GoodLog es ls f t) (gap : Int) {k m : Nat} (hk : k ≤ m) : strsTo h gap k <+: strsTo h gap m := by
 induction m with
 | zero =>
  have : k = 0 := by omega
  rw [this]
  exact List.prefix_refl _
 | succ m ih =>
  rcases Nat.lt_or_ge k (m + 1) with h1 | h1
  ·
   rw [strsTo_succ]
   exact (ih (by omega)).trans (List.prefix_append _ _)
  ·
   obtain rfl : k = m + 1 := by omega
   exact List.prefix_refl _

def IterPost (xs : List Str) (J Jx : List Str → World → Prop) (e : Ending) (W' : World) : Prop :=
 (∃ v, e = .returned v) ∧ ((∃ ys, ys = xs ∧ J ys W') ∨ (∃ pre, pre <+: xs ∧ Jx pre W'))

set_option maxRecDepth 100000 in
set_option maxHeartbeats 4000000 in
theorem iter_in (es : List (Rat × Int)) (gap : Int) (ls : List (Int × Nat)) (f t : Int) (hg : GoodLog es ls f t) (ve vl : Value) (w0 : World) (he : EntsOf IsRat w0 ve es) (hl : LogOf w0 vl ls)
  (hs : ∀ i, i < es.length → szR (es.getD i (0, 0)).1 274877906944) (B B1 B2 B3 B4 B5 l n : Nat) (hn : 1 ≤ n) (h1 : B1 ≠ B) (h2 : B2 ≠ B) (h3 : B3 ≠ B) (h4 : B4 ≠ B) (h5 : B5 ≠ B) (J Jx : List Str → World → Prop) (W : World) (hW : Below w0.heap.size w0 W)
  (hB : B < W.heap.size) (hlen : es.length ≤ 1000000) (hJa : AbidesFrom W.heap.size J)
  (hY : ∀ pre x W1, J pre W1 → pre.length < ls.length + 1 → YieldAt Fence.wide (n - 1) Try.prog l (encS x) W1 fun e W' =>
   (e = .returned (.bool true) ∧ J (pre ++ [x]) W' ∧ KpU w0.heap.size B W1 W') ∨ (e = .returned (.bool false) ∧ Jx (pre ++ [x]) W'))
  (b1 : Boxed W B1 3 (.int .i64 (hotI es))) (b2 : Boxed W B2 29 vl) (b3 : Boxed W B3 3 (.int .i64 gap)) (b4 : Boxed W B4 123 (.func (.func 55) #[] #[.pointer (some ⟨B5, 0, none⟩)])) (b5 : Boxed W B5 25 ve)
  (h0 : J [] W) :
  CallsIn Fence.wide n Try.prog 56 #[.func (.yield l) #[] #[], .pointer (some ⟨B1, 0, none⟩), .pointer (some ⟨B2, 0, none⟩), .pointer (some ⟨B3, 0, none⟩), .pointer (some ⟨B4, 0, none⟩)] W
   (IterPost (strsTo hg gap (ls.length + 1)) J Jx) := by
 have HY := Lib.hid hY
 have HG := Lib.hid hg
 have HJ := Lib.hid hJa
 have HE := Lib.hid he
 have HS := Lib.hid hs
 obtain ⟨aol, capl, rfl, hL⟩ := hl
 have HL := Lib.hid hL
 have c1 := b1.cell
 have c2 := b2.cell
 clear hY hJa he hs hL
 refine callsIn_of_wp Try.func56 rfl trivial ?_ rfl
 simp only [Try.ntmps56, List.size_toArray, List.length_cons, List.length_nil, Nat.reduceAdd, Nat.reduceSub, Array.replicate_succ, Array.replicate_zero, List.push_toArray, List.append_toArray, List.nil_append, List.cons_append]
 gi_wp2
 refine wpIn_wide.2 ?_
 go_region
 gi_wp2
 gi_loopw [6, 7, 14] (fun fv bv iv wr => ∃ (i : Nat), i ≤ ls.length ∧ iv = .int .i64 i ∧ fv = .int .i64 (fromT ls i) ∧ bv = .int .i64 (beforeT es ls i) ∧ J (strsTo hg gap i) wr ∧ Below w0.heap.size w0 wr ∧ W.heap.size ≤ wr.heap.size ∧
   Boxed wr B1 3 (.int .i64 (hotI es)) ∧ Boxed wr B2 29 (.slice aol ls.length capl) ∧ Boxed wr B3 3 (.int .i64 gap) ∧ Boxed wr B4 123 (.func (.func 55) #[] #[.pointer (some ⟨B5, 0, none⟩)]) ∧ Boxed wr B5 25 ve)
  (fun _ _ iv _ => ls.length - (intOf iv).toNat)
 case atStart => exact ⟨0, Nat.zero_le _, rfl, rfl, rfl, HJ.out _ _ _ none h0 (grownBy_below ((Below.refl _ _).drew) none) (fun r e => by cases e), hW.drew, Nat.le_refl _, b1, b2, b3, b4, b5⟩
 case round =>
  clear h0 b1 b2 b3 b4 b5 c1 c2 hW
  obtain ⟨i, hi, rfl, rfl, rfl, hJ, hbel, hsz, b1, b2, b3, b4, b5⟩ := hrel
  have c1 := b1.cell
  have c2 := b2.cell
  have c3 := b3.cell
  have c4 := b4.cell
  have l1 := b1.lt
  have l2 := b2.lt
  have l3 := b3.lt
  have l4 := b4.lt
  by_cases hlt : i < ls.length
  ·
   obtain ⟨b, off, rfl, hbl, hLL⟩ := HL.out (by omega)
   obtain ⟨g0, g1⟩ := (hLL i hlt).below hbel hbl
   have hbl2 : b < wr.heap.size := Nat.lt_of_lt_of_le hbl hbel.size
   have hlt' : (i : Int) < ls.length := by omega
   have hge' : (0 : Int) ≤ i := by omega
   have hLL' := Lib.hid hLL
   have HJ0 := Lib.hid hJ
   have hsf := run_store_f32
   have hneB : wr.heap.size ≠ B := by omega
   have hll := (log_ok HG.out.log).1
   have Henc := Lib.hid (encS_round HG.out gap i hlt)
   have hrI : Hid (rateI es gap ls i = if 0 < i ∧ (ls.getD i (0, 0)).1 - (ls.getD (i - 1) (0, 0)).1 ≤ gap then max (rateUp es (tempQ (ls.getD (i - 1) (0, 0)).2)) (rateUp es (tempQ (ls.getD i (0, 0)).2)) else hotI es) := rfl
   have Hfr : Hid (fromT ls (i + 1) = (ls.getD i (0, 0)).1) := by show fromT ls (i + 1) = _; unfold fromT lastT; rw [if_neg (by omega), if_neg (by omega)]; rfl
   have Hbe : Hid (beforeT es ls (i + 1) = rateUp es (tempQ (ls.getD i (0, 0)).2)) := by show beforeT es ls (i + 1) = _; unfold beforeT; rw [if_neg (by omega)]; rfl
   have hrg := (log_ok HG.out.log).2 i hlt
   generalize (ls.getD i (0, 0)).1 = ty at *
   generalize (ls.getD i (0, 0)).2 = bt at *
   clear hLL hJ
   have hN := blk_new wr #[.int .i64 ty, .float .f32 bt] 36
   have hal := (Below.refl wr.heap.size wr).alloc (Nat.le_refl _) (.cells #[.int .i64 ty, .float .f32 bt] 36)
   have s0 : (wr.alloc (.cells #[.int .i64 ty, .float .f32 bt] 36)).drew.cell? ⟨wr.heap.size, 0, none⟩ = some (.int .i64 ty) := blk_cell hN 0 _ rfl
   have s1 : (wr.alloc (.cells #[.int .i64 ty, .float .f32 bt] 36)).drew.cell? ⟨wr.heap.size, 1, none⟩ = some (.float .f32 bt) := blk_cell hN 1 _ rfl
   have hNd : (wr.alloc (.cells #[.int .i64 ty, .float .f32 bt] 36)).drew.heap[wr.heap.size]? = some (.cells #[.int .i64 ty, .float .f32 bt] 36 (0, 0)) := hN
   have hald := hal.drew
   by_cases hcase : 0 < i ∧ ty - (ls.getD (i - 1) (0, 0)).1 ≤ gap
   ·
    obtain ⟨hi0, hle⟩ := hcase
    have ti : decide (0 < i) = true := by simp [hi0]
    obtain ⟨j, hj⟩ : ∃ j, i = j + 1 := ⟨i - 1, by omega⟩
    have e3 : i - 1 = j := by omega
    have HR0 : Hid (rateI es gap ls i = max (beforeT es ls i) (rateUp es (tempQ bt))) := by
     show _ = _
     rw [hrI.out, if_pos ⟨hi0, hle⟩]
     unfold beforeT
     rw [if_neg (by omega)]
    have hrgj := (log_ok HG.out.log).2 j (by omega)
    rw [e3] at hle
    have hws : IntKind.i64.wrap (ty - (ls.getD j (0, 0)).1) = ty - (ls.getD j (0, 0)).1 := IntWalk.i64_in _ (by omega)
    have hc : decide (ty - (ls.getD j (0, 0)).1 ≤ gap) = true := decide_eq_true hle
    have e1' : IntKind.i64.wrap ((i : Int) - 1) = (j : Int) := by rw [show (i : Int) - 1 = (j : Int) by omega]; exact IntWalk.i64_in _ (by omega)
    have hj2 : (j : Int) < ls.length := by omega
    have hj0 : (0 : Int) ≤ j := by omega
    obtain ⟨k0, _⟩ := (hLL'.out j (by omega)).below hbel hbl
    generalize (ls.getD j (0, 0)).1 = tj at *
    clear hi0 hj e3 hrI hle hrgj
    gi_wp2
    refine wpIn_wide.2 ?_
    go_region_held3 (fun w' => Below wr.heap.size wr w' ∧ w'.cell? ⟨wr.heap.size, 0, none⟩ = some (.int .i64 ty) ∧ w'.cell? ⟨B2, 0, none⟩ = some (.slice (some ⟨b, off, none⟩) ls.length capl) ∧ w'.cell? ⟨b, off + j * 2, none⟩ = some (.int .i64 tj) ∧ w'.cell? ⟨B3, 0, none⟩ = some (.int .i64 gap))
     (first | exact ⟨hal.drew, s0, (hal.cell (p := ⟨B2, 0, none⟩) l2).trans c2, (hal.cell (p := ⟨b, _, none⟩) hbl2).trans k0, (hal.cell (p := ⟨B3, 0, none⟩) l3).trans c3⟩)
     (first | skip)
    rename_i hS2
    clear hS2 k0 hws hc e1' hj0 hj2

    obtain ⟨wA, hwA⟩ : ∃ wA, wA = (wr.alloc (.cells #[.int .i64 ty, .float .f32 bt] 36)).drew := ⟨_, rfl⟩
    rw [← hwA] at hNd hald s0 s1 ⊢
    have c4A := (hald.cell (p := ⟨B4, 0, none⟩) l4).trans c4
    clear hwA hN hal c1 c2 c3 c4

    gi_wp2
    refine ⟨trivial, ?_⟩
    refine (callsIn_wide.2 (rateF_any es bt B5 ve _ (boxed_below b5 hald) (HE.out.below IsRat.belowAll (below_join hbel hald)) HS.out hlen)).mono ?_
    rintro e wY ⟨rfl, hbY⟩
    have hxY := hald.trans (hbY.mono hald.size)
    have NY := blk_keep hNd hbY (blk_lt hNd)

    have hJY := HJ.out _ _ wY none HJ0.out (grownBy_below hxY none) (fun r e => by cases e)
    replace b1 := boxed_below b1 hxY
    replace b2 := boxed_below b2 hxY
    replace b3 := boxed_below b3 hxY
    replace b4 := boxed_below b4 hxY
    replace b5 := boxed_below b5 hxY
    replace hbel := below_join hbel hxY
    replace hsz := Nat.le_trans hsz hxY.size
    obtain ⟨fn, tmps, assign, body, hy, hR⟩ := HY.out _ (strS hg gap i) wY hJY (by rw [strsTo_length]; omega)

    rw [Henc.out, HR0.out] at hy
    have cY := blk_cell NY 0 (.int .i64 ty) rfl
    clear c4A s0 s1 hNd hald hbY hxY hJY
    gi_wp2

    refine hR.mono ?_
    rintro e W3 (⟨rfl, hJ3, hk3⟩ | ⟨rfl, hJx3⟩)
    ·
     have hN3 := hk3.blk NY hneB
     have b13 := hk3.boxed b1 h1
     have b23 := hk3.boxed b2 h2
     have b33 := hk3.boxed b3 h3
     have b43 := hk3.boxed b4 h4
     have b53 := hk3.boxed b5 h5
     have hbel3 := hbel.trans hk3.1
     have hsz3 := Nat.le_trans hsz hk3.2.size
     have t0 := blk_cell hN3 0 (.int .i64 ty) rfl
     have t1 := blk_cell hN3 1 (.float .f32 bt) rfl
     have t4 := b43.cell
     have hNl := blk_lt hN3
     have HJ3 := Lib.hid hJ3
     clear hk3 hR hJ3 hN3 NY b1 b2 b3 b4 b5 hbel hsz hy
     gi_wp2
     refine wpIn_wide.2 ?_
     go_region_held3 (fun w' => Below W3.heap.size W3 w' ∧ w'.cell? ⟨wr.heap.size, 0, none⟩ = some (.int .i64 ty) ∧ w'.cell? ⟨wr.heap.size, 1, none⟩ = some (.float .f32 bt) ∧ w'.cell? ⟨B4, 0, none⟩ = some (.func (.func 55) #[] #[.pointer (some ⟨B5, 0, none⟩)]))
      (first | exact ⟨(Below.refl _ _).drew, t0, t1, t4⟩ | assumption | (refine keepA3 (Nat.le_refl _) hbB ?_; assumption))
      (first | (go_at_call 55; refine (rateF_any es bt B5 ve _ (boxed_below b53 (And.left (by assumption))) (HE.out.below IsRat.belowAll (below_join hbel3 (And.left (by assumption)))) HS.out hlen).mono ?_; rintro e wB ⟨rfl, hbB⟩))
     rename_i hS2
     have hx := hS2.1
     clear hS2 hbB t0 t1 t4
     gi_wp2
     exact ⟨⟨i + 1, by omega, by go_num, by rw [Hfr.out], by rw [Hbe.out], by rw [strsTo_succ]; exact HJ.out _ _ _ none HJ3.out (grownBy_below hx none) (fun r e => by cases e), below_join hbel3 hx, Nat.le_trans hsz3 hx.size, boxed_below b13 hx, boxed_below b23 hx, boxed_below b33 hx, boxed_below b43 hx, boxed_below b53 hx⟩, meas_up hlt⟩
    ·
     gi_wp2
     refine bodyPost_ret (results_none rfl _ _ _) rfl ?_
     exact ⟨⟨_, rfl⟩, .inr ⟨strsTo hg gap i ++ [strS hg gap i], by rw [← strsTo_succ]; exact strsTo_prefix hg gap (by omega), hJx3⟩⟩
   ·
    have HR0 : Hid (rateI es gap ls i = hotI es) := by
     show _ = _
     rw [hrI.out, if_neg hcase]

    rcases Nat.eq_zero_or_pos i with hi0 | hi0
    ·
     have ti : decide (0 < i) = false := by simp [hi0]
     clear hi0 hcase hrI
     gi_wp2
     refine wpIn_wide.2 ?_
     go_region

     obtain ⟨wY, hwY⟩ : ∃ wY, wY = (wr.alloc (.cells #[.int .i64 ty, .float .f32 bt] 36)).drew := ⟨_, rfl⟩
     rw [← hwY] at hNd hald s0 s1 ⊢
     have NY := hNd
     clear hwY hN hal c1 c2 c3 c4

     have hJY := HJ.out _ _ wY none HJ0.out (grownBy_below hald none) (fun r e => by cases e)
     replace b1 := boxed_below b1 hald
     replace b2 := boxed_below b2 hald
     replace b3 := boxed_below b3 hald
     replace b4 := boxed_below b4 hald
     replace b5 := boxed_below b5 hald
     replace hbel := below_join hbel hald
     replace hsz := Nat.le_trans hsz hald.size
     obtain ⟨fn, tmps, assign, body, hy, hR⟩ := HY.out _ (strS hg gap i) wY hJY (by rw [strsTo_length]; omega)

     rw [Henc.out, HR0.out] at hy
     have cY := blk_cell NY 0 (.int .i64 ty) rfl
     clear s0 s1 hNd hald hJY
     gi_wp2

     refine hR.mono ?_
     rintro e W3 (⟨rfl, hJ3, hk3⟩ | ⟨rfl, hJx3⟩)
     ·
      have hN3 := hk3.blk NY hneB
      have b13 := hk3.boxed b1 h1
      have b23 := hk3.boxed b2 h2
      have b33 := hk3.boxed b3 h3
      have b43 := hk3.boxed b4 h4
      have b53 := hk3.boxed b5 h5
      have hbel3 := hbel.trans hk3.1
      have hsz3 := Nat.le_trans hsz hk3.2.size
      have t0 := blk_cell hN3 0 (.int .i64 ty) rfl
      have t1 := blk_cell hN3 1 (.float .f32 bt) rfl
      have t4 := b43.cell
      have hNl := blk_lt hN3
      have HJ3 := Lib.hid hJ3
      clear hk3 hR hJ3 hN3 NY b1 b2 b3 b4 b5 hbel hsz hy
      gi_wp2
      refine wpIn_wide.2 ?_
      go_region_held3 (fun w' => Below W3.heap.size W3 w' ∧ w'.cell? ⟨wr.heap.size, 0, none⟩ = some (.int .i64 ty) ∧ w'.cell? ⟨wr.heap.size, 1, none⟩ = some (.float .f32 bt) ∧ w'.cell? ⟨B4, 0, none⟩ = some (.func (.func 55) #[] #[.pointer (some ⟨B5, 0, none⟩)]))
       (first | exact ⟨(Below.refl _ _).drew, t0, t1, t4⟩ | assumption | (refine keepA3 (Nat.le_refl _) hbB ?_; assumption))
       (first | (go_at_call 55; refine (rateF_any es bt B5 ve _ (boxed_below b53 (And.left (by assumption))) (HE.out.below IsRat.belowAll (below_join hbel3 (And.left (by assumption)))) HS.out hlen).mono ?_; rintro e wB ⟨rfl, hbB⟩))
      rename_i hS2
      have hx := hS2.1
      clear hS2 hbB t0 t1 t4
      gi_wp2
      exact ⟨⟨i + 1, by omega, by go_num, by rw [Hfr.out], by rw [Hbe.out], by rw [strsTo_succ]; exact HJ.out _ _ _ none HJ3.out (grownBy_below hx none) (fun r e => by cases e), below_join hbel3 hx, Nat.le_trans hsz3 hx.size, boxed_below b13 hx, boxed_below b23 hx, boxed_below b33 hx, boxed_below b43 hx, boxed_below b53 hx⟩, meas_up hlt⟩
     ·
      gi_wp2
      refine bodyPost_ret (results_none rfl _ _ _) rfl ?_
      exact ⟨⟨_, rfl⟩, .inr ⟨strsTo hg gap i ++ [strS hg gap i], by rw [← strsTo_succ]; exact strsTo_prefix hg gap (by omega), hJx3⟩⟩
    ·
     have ti : decide (0 < i) = true := by simp [hi0]
     obtain ⟨j, hj⟩ : ∃ j, i = j + 1 := ⟨i - 1, by omega⟩
     have e3 : i - 1 = j := by omega
     have hrgj := (log_ok HG.out.log).2 j (by omega)
     rw [e3] at hcase
     have hws : IntKind.i64.wrap (ty - (ls.getD j (0, 0)).1) = ty - (ls.getD j (0, 0)).1 := IntWalk.i64_in _ (by omega)
     have hc : decide (ty - (ls.getD j (0, 0)).1 ≤ gap) = false := decide_eq_false (fun h => hcase ⟨hi0, h⟩)
     have e1' : IntKind.i64.wrap ((i : Int) - 1) = (j : Int) := by rw [show (i : Int) - 1 = (j : Int) by omega]; exact IntWalk.i64_in _ (by omega)
     have hj2 : (j : Int) < ls.length := by omega
     have hj0 : (0 : Int) ≤ j := by omega
     obtain ⟨k0, _⟩ := (hLL'.out j (by omega)).below hbel hbl
     generalize (ls.getD j (0, 0)).1 = tj at *
     clear hi0 hj e3 hrI hcase hrgj
     gi_wp2
     refine wpIn_wide.2 ?_
     go_region_held3 (fun w' => Below wr.heap.size wr w' ∧ w'.cell? ⟨wr.heap.size, 0, none⟩ = some (.int .i64 ty) ∧ w'.cell? ⟨B2, 0, none⟩ = some (.slice (some ⟨b, off, none⟩) ls.length capl) ∧ w'.cell? ⟨b, off + j * 2, none⟩ = some (.int .i64 tj) ∧ w'.cell? ⟨B3, 0, none⟩ = some (.int .i64 gap))
      (first | exact ⟨hal.drew, s0, (hal.cell (p := ⟨B2, 0, none⟩) l2).trans c2, (hal.cell (p := ⟨b, _, none⟩) hbl2).trans k0, (hal.cell (p := ⟨B3, 0, none⟩) l3).trans c3⟩)
      (first | skip)
     rename_i hS2
     clear hS2 k0 hws hc e1' hj0 hj2

     obtain ⟨wY, hwY⟩ : ∃ wY, wY = (wr.alloc (.cells #[.int .i64 ty, .float .f32 bt] 36)).drew := ⟨_, rfl⟩
     rw [← hwY] at hNd hald s0 s1 ⊢
     have NY := hNd
     clear hwY hN hal c1 c2 c3 c4

     have hJY := HJ.out _ _ wY none HJ0.out (grownBy_below hald none) (fun r e => by cases e)
     replace b1 := boxed_below b1 hald
     replace b2 := boxed_below b2 hald
     replace b3 := boxed_below b3 hald
     replace b4 := boxed_below b4 hald
     replace b5 := boxed_below b5 hald
     replace hbel := below_join hbel hald
     replace hsz := Nat.le_trans hsz hald.size
     obtain ⟨fn, tmps, assign, body, hy, hR⟩ := HY.out _ (strS hg gap i) wY hJY (by rw [strsTo_length]; omega)

     rw [Henc.out, HR0.out] at hy
     have cY := blk_cell NY 0 (.int .i64 ty) rfl
     clear s0 s1 hNd hald hJY
     gi_wp2

     refine hR.mono ?_
     rintro e W3 (⟨rfl, hJ3, hk3⟩ | ⟨rfl, hJx3⟩)
     ·
      have hN3 := hk3.blk NY hneB
      have b13 := hk3.boxed b1 h1
      have b23 := hk3.boxed b2 h2
      have b33 := hk3.boxed b3 h3
      have b43 := hk3.boxed b4 h4
      have b53 := hk3.boxed b5 h5
      have hbel3 := hbel.trans hk3.1
      have hsz3 := Nat.le_trans hsz hk3.2.size
      have t0 := blk_cell hN3 0 (.int .i64 ty) rfl
      have t1 := blk_cell hN3 1 (.float .f32 bt) rfl
      have t4 := b43.cell
      have hNl := blk_lt hN3
      have HJ3 := Lib.hid hJ3
      clear hk3 hR hJ3 hN3 NY b1 b2 b3 b4 b5 hbel hsz hy
      gi_wp2
      refine wpIn_wide.2 ?_
      go_region_held3 (fun w' => Below W3.heap.size W3 w' ∧ w'.cell? ⟨wr.heap.size, 0, none⟩ = some (.int .i64 ty) ∧ w'.cell? ⟨wr.heap.size, 1, none⟩ = some (.float .f32 bt) ∧ w'.cell? ⟨B4, 0, none⟩ = some (.func (.func 55) #[] #[.pointer (some ⟨B5, 0, none⟩)]))
       (first | exact ⟨(Below.refl _ _).drew, t0, t1, t4⟩ | assumption | (refine keepA3 (Nat.le_refl _) hbB ?_; assumption))
       (first | (go_at_call 55; refine (rateF_any es bt B5 ve _ (boxed_below b53 (And.left (by assumption))) (HE.out.below IsRat.belowAll (below_join hbel3 (And.left (by assumption)))) HS.out hlen).mono ?_; rintro e wB ⟨rfl, hbB⟩))
      rename_i hS2
      have hx := hS2.1
      clear hS2 hbB t0 t1 t4
      gi_wp2
      exact ⟨⟨i + 1, by omega, by go_num, by rw [Hfr.out], by rw [Hbe.out], by rw [strsTo_succ]; exact HJ.out _ _ _ none HJ3.out (grownBy_below hx none) (fun r e => by cases e), below_join hbel3 hx, Nat.le_trans hsz3 hx.size, boxed_below b13 hx, boxed_below b23 hx, boxed_below b33 hx, boxed_below b43 hx, boxed_below b53 hx⟩, meas_up hlt⟩
     ·
      gi_wp2
      refine bodyPost_ret (results_none rfl _ _ _) rfl ?_
      exact ⟨⟨_, rfl⟩, .inr ⟨strsTo hg gap i ++ [strS hg gap i], by rw [← strsTo_succ]; exact strsTo_prefix hg gap (by omega), hJx3⟩⟩
  ·
   obtain rfl : i = ls.length := by omega
   obtain ⟨fn, tmps, assign, body, hy, hR⟩ := HY.out _ (strS hg gap ls.length) wr hJ (by rw [strsTo_length]; omega)
   rw [encS_last] at hy
   have HR := Lib.hid hR
   clear hR
   gi_wp2
   refine HR.out.mono ?_
   rintro e W3 (⟨rfl, hJ3, hk3⟩ | ⟨rfl, hJx3⟩)
   ·
    gi_wp2
    go_end0
    exact ⟨⟨_, rfl⟩, .inl ⟨_, by rw [strsTo_succ], hJ3⟩⟩
   ·
    gi_wp2
    go_end0
    exact ⟨⟨_, rfl⟩, .inr ⟨_, by rw [← strsTo_succ]; exact List.prefix_refl _, hJx3⟩⟩

end Go.Proofs.Ytanmcbbnnjamoaa

namespace Go.Proofs.Ytanmcbbnnjamoaa
open Go.RowKit
section
variable {F : Fence} {n : Nat} {P : Program} {ops : Array Oper} {md : Region.Mode} {C : World → Prop}

theorem wpIn_of_quiet_round {o : Oper} (hnd : ∀ c, o.op ≠ .defer c) {a : Act} {K : Act → Prop} {K' : Act → World → Prop} {Q' : Exit → Act → World → Prop} {w : World} (hw : C w) (h : ∀ a w', C w' → K a → K' a w')
  (ha : o.askedIn F P a C) (hh : o.quietIn F n P a C K) : o.wpIn F n P a w K' Q' := by
 obtain ⟨v, h1, h2⟩ := hh
 have h3 := h1 w hw
 unfold Oper.quietAtIn at h3
 unfold Oper.wpIn
 refine ⟨ha w hw, ?_⟩
 rw [Oper.semAt_eq _ _ _ hnd]
 generalize (execOp a.eval o).run P w = r at *
 cases r with
 | ok x w' =>
  cases x <;> simp only [Oper.quietUponIn] at h3 <;> simp only [Oper.uponIn]
  case value u =>
   obtain ⟨e1, e2⟩ := h3
   rw [e1, e2]
   exact h _ _ hw h2
  case skip =>
   obtain ⟨e1, e2⟩ := h3
   rw [e1, ← e2]
   exact h _ _ hw h2
  case enter f args =>
   obtain ⟨e1, hd, hc⟩ := h3
   rw [e1]
   exact ⟨hd, hc.mono fun e w'' ⟨he, hw''⟩ => by subst he; exact h _ _ hw'' h2⟩
 | halt x w' => simp only [Oper.quietUponIn] at h3

theorem wpOpIn_of_qOpIn_round (hnd : ∀ (i : Nat) (o : Oper), ops[i]? = some o → ∀ c, o.op ≠ .defer c) {i : Nat} {a : Act} {K : Act → Prop} {K' : Act → World → Prop} {Q' : Exit → Act → World → Prop} {w : World} (hC : C w) (h : ∀ a w', C w' → K a → K' a w')
  (hh : qOpIn F n P ops C i K a) : wpOpIn F n P ops Q' i K' a w := by
 unfold qOpIn at hh
 unfold wpOpIn
 split
 ·
  rename_i ho; simp only [ho] at hh; exact h _ _ hC hh
 ·
  rename_i o ho
  simp only [ho] at hh
  obtain ⟨ha, hh⟩ := hh
  split
  ·
   rename_i hw; simp only [hw, if_true] at hh; exact wpIn_of_quiet_round (hnd i o ho) hC h ha hh
  ·
   rename_i hw; simp only [hw] at hh; exact ⟨ha w hC, h _ _ hC hh⟩

theorem wpAnyIn_of_quiet_round (hnd : ∀ (i : Nat) (o : Oper), ops[i]? = some o → ∀ c, o.op ≠ .defer c) {Q : Act → Prop} {Q' : Exit → Act → World → Prop} (hQ : ∀ a w, C w → Q a → Q' .normal a w) : ∀ (fuel : Nat) (listed : Array Bool) (a : Act) (w : World), C w →
  wpAnyQIn F n P md ops C Q fuel listed a → wpAnyIn F n P md ops Q' fuel listed a w
 | 0, _, _, _, hw, h => ⟨h.1, hQ _ _ hw h.2⟩
 | fuel + 1, _, _, _, hw, h => ⟨fun h0 => hQ _ _ hw (h.1 h0), fun i hi => wpOpIn_of_qOpIn_round hnd hw (fun a' w' hw' => wpAnyIn_of_quiet_round hnd hQ fuel _ a' w' hw') (h.2 i hi)⟩

def noDefer : List Oper → Bool
 | [] => true
 | o :: l => (match o.op with | .defer _ => false | _ => true) && noDefer l
theorem noDefer_spec {l : List Oper} (h : noDefer l = true) : ∀ (i : Nat) (o : Oper), l.toArray[i]? = some o → ∀ c, o.op ≠ .defer c := by
 intro i o ho c hc
 have hm : o ∈ l := List.mem_of_getElem? (by simpa using ho)
 clear ho
 induction l with
 | nil => cases hm
 | cons x l ih =>
  simp only [noDefer, Bool.and_eq_true] at h
  rcases List.mem_cons.1 hm with rfl | hm
  ·
   have := h.1
   rw [hc] at this
   cases this
  ·
   exact ih h.2 hm

theorem wpIn_region_quiet_round {id : Nat} {Q : Exit → Act → World → Prop} {a : Act} {w : World} {l : List Oper} (hnd : noDefer l = true) (hm : P.follows .mixedOrders = true) (hB : Region.lexB .any l.toArray = true)
  (h : wpQuietIn F n P l.toArray (fun w' => ∃ n, w' = w.drewN n) (fun a' => ∀ w', (∃ n, w' = w.drewN n) → Q .normal a' w') l a) : (Code.region id l.toArray true).wpIn F n P Q a w := by
 simp only [Region.lexB, Bool.and_eq_true] at hB
 refine wpIn_region_any hm (wpAnyIn_of_quiet_round (C := fun w' => ∃ n, w' = w.drewN n) (noDefer_spec hnd) (Q := fun a' => ∀ w', (∃ n, w' = w.drewN n) → Q .normal a' w') (fun _ w' hw' h => h w' hw') _ _ _ _ ⟨1, rfl⟩ ?_)
 have := wpAnyQIn_lex (F := F) (n := n) (C := fun w' => ∃ n, w' = w.drewN n) (md := .any) hB.1 l 0 (Array.replicate l.toArray.size false) a (by simp) (by simpa using hB.2) h
 simpa using this
end
end Go.Proofs.Ytanmcbbnnjamoaa

namespace Go.Proofs.Ytanmcbbnnjamoaa
open Go.RowKit Go.Shelf

attribute [local go_sem] Oper.semAt_some

theorem iter_stops (es : List (Rat × Int)) (gap : Int) (ls : List (Int × Nat)) (f t : Int) (hg : GoodLog es ls f t) (ve vl : Value) (w0 : World) (he : EntsOf IsRat w0 ve es) (hl : LogOf w0 vl ls)
  (hs : ∀ i, i < es.length → szR (es.getD i (0, 0)).1 274877906944) (B B1 B2 B3 B4 B5 n : Nat) (hn : 1 ≤ n) (h1 : B1 ≠ B) (h2 : B2 ≠ B) (h3 : B3 ≠ B) (h4 : B4 ≠ B) (h5 : B5 ≠ B) (W1 : World) (hW : Below w0.heap.size w0 W1)
  (hB : B < W1.heap.size) (hlen : es.length ≤ 1000000)
  (b1 : Boxed W1 B1 3 (.int .i64 (hotI es))) (b2 : Boxed W1 B2 29 vl) (b3 : Boxed W1 B3 3 (.int .i64 gap)) (b4 : Boxed W1 B4 123 (.func (.func 55) #[] #[.pointer (some ⟨B5, 0, none⟩)])) (b5 : Boxed W1 B5 25 ve) :
  SeqStopsK Fence.wide n Try.prog 56 #[.pointer (some ⟨B1, 0, none⟩), .pointer (some ⟨B2, 0, none⟩), .pointer (some ⟨B3, 0, none⟩), .pointer (some ⟨B4, 0, none⟩)] encS (KpU w0.heap.size B) (fun ys => ys = strsTo hg gap (ls.length + 1)) (fun pre => pre <+: strsTo hg gap (ls.length + 1)) (ls.length + 1) W1 :=
 fun l J Jx W hW1 hJ _ hY h0 =>
  iter_in es gap ls f t hg ve vl w0 he hl hs B B1 B2 B3 B4 B5 l n hn h1 h2 h3 h4 h5 J Jx W (below_join hW hW1) (Nat.lt_of_lt_of_le hB hW1.size) hlen hJ hY (boxed_below b1 hW1) (boxed_below b2 hW1) (boxed_below b3 hW1) (boxed_below b4 hW1) (boxed_below b5 hW1) h0

def addI (f t : Int) (x : Str) : Int := if max x.1.1 f < min x.1.2.1 t then (min x.1.2.1 t - max x.1.1 f) * x.1.2.2 else 0
def sumI (f t : Int) (xs : List Str) : Int := xs.foldl (fun s x => s + addI f t x) 0
theorem sumI_snoc (f t : Int) (xs : List Str) (x : Str) : sumI f t (xs ++ [x]) = sumI f t xs + addI f t x := by simp [sumI]
theorem addI_range {f t : Int} (hf : 0 ≤ f) (ht : t ≤ 1073741824) (x : Str) : 0 ≤ addI f t x ∧ addI f t x ≤ 1073741824000 := by
 unfold addI
 split
 ·
  have := mul_range x.2.1 x.2.2 (show 0 ≤ min x.1.2.1 t - max x.1.1 f by omega) (show min x.1.2.1 t - max x.1.1 f ≤ 1073741824 by omega)
  rw [Int.mul_comm]
  exact this
 ·
  omega
theorem sumI_foldl {f t : Int} (hf : 0 ≤ f) (ht : t ≤ 1073741824) (xs : List Str) (s : Int) : s ≤ xs.foldl (fun s x => s + addI f t x) s ∧ xs.foldl (fun s x => s + addI f t x) s ≤ s + 1073741824000 * xs.length := by
 induction xs generalizing s with
 | nil => simp
 | cons x xs ih =>
  have := ih (s + addI f t x)
  have := addI_range hf ht x
  simp only [List.foldl_cons, List.length_cons]
  omega
theorem sumI_range {f t : Int} (hf : 0 ≤ f) (ht : t ≤ 1073741824) (xs : List Str) : 0 ≤ sumI f t xs ∧ sumI f t xs ≤ 1073741824000 * xs.length := by
 have := sumI_foldl hf ht xs 0
 unfold sumI
 omega

theorem KeepCells.alloc (B : Nat) (W : World) (o : Obj) : KeepCells B W (W.alloc o) :=
 ⟨by simp, fun k o2 _ hk _ => (Below.heap_alloc W o k (Array.getElem?_eq_some_iff.1 hk).1).trans hk⟩
theorem KeepCells.set (B : Nat) (W : World) (v : Value) : KeepCells B W (W.setCell ⟨B, 0, none⟩ v) :=
 ⟨by simp, fun k o2 hB hk _ => (Below.heap_setCell W _ v k hB).trans hk⟩
theorem keepsN (B : Nat) (W : World) (n : Nat) : KeepsFrom B W (W.drewN n) := ⟨Nat.le_refl _, fun k o _ hk _ => hk⟩
theorem KeepCells.drewN (B : Nat) (W : World) (n : Nat) : KeepCells B W (W.drewN n) := ⟨Nat.le_refl _, fun k o2 _ hk _ => hk⟩
theorem KeepCells.setN (B : Nat) (W : World) (n : Nat) (v : Value) : KeepCells B W ((W.drewN n).setCell ⟨B, 0, none⟩ v) := ⟨(KeepCells.set B (W.drewN n) v).size, fun k o2 hB hk ho => (KeepCells.set B (W.drewN n) v).same k o2 hB hk ho⟩

set_option maxRecDepth 100000 in
set_option maxHeartbeats 4000000 in
theorem used_any (es : List (Rat × Int)) (gap : Int) (ls : List (Int × Nat)) (f t : Int) (hg : GoodLog es ls f t) (ve vl : Value) (w : World) (he : EntsOf IsRat w ve es) (hl : LogOf w vl ls)
  (hs : ∀ i, i < es.length → szR (es.getD i (0, 0)).1 274877906944) :
  Calls Try.prog 22 #[ve, .int .i64 gap, vl, .int .i64 f, .int .i64 t] w (RetInt (sumI f t (strsTo hg gap (ls.length + 1))) w) := by
 have HG := Lib.hid hg
 obtain ⟨h0, h16, _⟩ := tab_ok hg.tab
 have HE := Lib.hid he
 have HL := Lib.hid hl
 have HS := Lib.hid hs
 obtain ⟨aol, capl, rfl, _⟩ := hl
 obtain ⟨ao, cap, rfl, _⟩ := he
 clear hs
 obtain ⟨A1, hA1⟩ : ∃ A1, A1 = w.alloc (.cells #[.int .i64 f] 3) := ⟨_, rfl⟩
 obtain ⟨A2, hA2⟩ : ∃ A2, A2 = A1.alloc (.cells #[.int .i64 t] 3) := ⟨_, rfl⟩
 obtain ⟨A3, hA3⟩ : ∃ A3, A3 = A2.alloc (.cells #[.int .i64 0] 3) := ⟨_, rfl⟩
 have s1 : A1.heap.size = w.heap.size + 1 := by rw [hA1]; simp
 have s2 : A2.heap.size = w.heap.size + 2 := by rw [hA2]; simp; omega
 have s3 : A3.heap.size = w.heap.size + 3 := by rw [hA3]; simp; omega
 have x1 : Below w.heap.size w A1 := by rw [hA1]; exact (Below.refl _ _).alloc (Nat.le_refl _) _
 have x2 : Below w.heap.size w A2 := by rw [hA2]; exact x1.alloc x1.size _
 have x3 : Below w.heap.size w A3 := by rw [hA3]; exact x2.alloc x2.size _
 have b1 : Boxed A1 w.heap.size 3 (.int .i64 f) := by rw [hA1]; exact Boxed.new _ _ _
 have b2 : Boxed A2 (w.heap.size + 1) 3 (.int .i64 t) := by rw [hA2, ← s1]; exact Boxed.new _ _ _
 have b3 : Boxed A3 (w.heap.size + 2) 3 (.int .i64 0) := by rw [hA3, ← s2]; exact Boxed.new _ _ _
 have b12 : Boxed A2 w.heap.size 3 (.int .i64 f) := by rw [hA2]; exact b1.alloc _
 have b13 : Boxed A3 w.heap.size 3 (.int .i64 f) := by rw [hA3]; exact b12.alloc _
 have b23 : Boxed A3 (w.heap.size + 1) 3 (.int .i64 t) := by rw [hA3]; exact b2.alloc _
 clear b1 b2 b12 x1 x2
 rw [hA1] at hA2
 rw [hA2] at hA3
 have HA3 := Lib.hid hA3
 have S3 := Lib.hid s3
 clear hA1 hA2 hA3 s1 s2 s3 A1 A2
 refine (callsIn_wide (n := 3)).1 ?_
 refine callsIn_of_wp_marks Try.func22 rfl trivial ?_ rfl
 simp only [Try.ntmps22, List.size_toArray, List.length_cons, List.length_nil, Nat.reduceAdd, Nat.reduceSub, Array.replicate_succ, Array.replicate_zero, List.push_toArray, List.append_toArray, List.nil_append, List.cons_append]
 gi_wp2
 refine ⟨trivial, ?_⟩
 rw [← HA3.out]
 refine (callsIn_wide.2 (stretches_any es gap _ _ ls _ (HE.out.below IsRat.belowAll x3) (HL.out.below x3) h0 h16)).mono ?_
 rintro e W1 ⟨rfl, hsz, hb1, c5, c3, c2, c1, c4⟩
 rw [S3.out] at hsz hb1 c1 c2 c3 c4 c5 ⊢
 have hW1 : Below w.heap.size w W1 := x3.trans (hb1.mono (by omega))
 have d3 : Boxed W1 (w.heap.size + 1 + 1) 3 (.int .i64 0) := (hb1.block _ (by omega)).trans b3
 have d2 : Boxed W1 (w.heap.size + 1) 3 (.int .i64 t) := (hb1.block _ (by omega)).trans b23
 have d1 : Boxed W1 w.heap.size 3 (.int .i64 f) := (hb1.block _ (by omega)).trans b13
 clear b3 b13 b23 x3 hb1 HA3 S3
 gi_wp2
 refine wpIn_rangeFunc_ownH rfl (by omega) (gf := 56) (lb := #[.pointer (some ⟨w.heap.size + 3 + 3, 0, none⟩), .pointer (some ⟨w.heap.size + 3 + 2, 0, none⟩), .pointer (some ⟨w.heap.size + 3 + 1, 0, none⟩), .pointer (some ⟨w.heap.size + 3 + 4, 0, none⟩)]) rfl trivial (enters_of Try.func56 (by kernel_rfl) rfl)
  (iter_stops es gap ls f t hg _ _ w HE.out HL.out HS.out (w.heap.size + 1 + 1) _ _ _ _ _ (3 - 1) (by omega) (by omega) (by omega) (by omega) (by omega) (by omega) W1 hW1 (by omega) (by omega) c1 c2 c3 c4 c5)
  (fun h k => KpU.trans h k) (fun W l o o' hl h hc hw => KpU.putObj hW1.size W l o o' hl h hc hw) (Below.refl _ _) (fun _ => rfl)
  (fun pre W => ((Boxed W (w.heap.size + 1 + 1) 3 (.int .i64 (sumI f t pre)) ∧ Boxed W w.heap.size 3 (.int .i64 f)) ∧ Boxed W (w.heap.size + 1) 3 (.int .i64 t)) ∧ Below w.heap.size w W)
  (fun _ _ _ => False)
  (OwnFrom.and (OwnFrom.and (OwnFrom.and (Own.from (boxed_own _ _ _) _) (Own.from (boxed_own _ _ _) _)) (Own.from (boxed_own _ _ _) _)) (ownFrom_below (Nat.le_refl _) hW1.size))
  (fun _ _ _ _ _ hs _ _ => hs)
  ⟨⟨⟨d3, d1⟩, d2⟩, hW1⟩
  (fun x a' W => ∃ Bx, w.heap.size + 1 + 1 < Bx ∧ W.heap[Bx]? = some (.cells #[.int .i64 x.1.1, .int .i64 x.1.2.1] 111 (0, 0)) ∧ a' = { tmps := #[.slice ao es.length cap, .int .i64 gap, .slice aol ls.length capl, .int .i64 f, .int .i64 t, undef, undef, undef, .pointer (some ⟨w.heap.size, 0, none⟩), .pointer (some ⟨w.heap.size + 1, 0, none⟩), .int .i64 0, .pointer (some ⟨w.heap.size + 1 + 1, 0, none⟩), .pointer (some ⟨Bx, 0, none⟩), .int .i64 x.1.2.2, undef, undef, .slice ao es.length cap, .int .i64 gap, .slice aol ls.length capl, .func (.func 56) #[] #[.pointer (some ⟨w.heap.size + 3 + 3, 0, none⟩), .pointer (some ⟨w.heap.size + 3 + 2, 0, none⟩), .pointer (some ⟨w.heap.size + 3 + 1, 0, none⟩), .pointer (some ⟨w.heap.size + 3 + 4, 0, none⟩)], .agg #[.int .i64 x.1.1, .int .i64 x.1.2.1], .int .i64 x.1.2.2, undef, undef, undef, undef, undef, undef, undef, undef, undef, undef, undef, undef, undef, undef, undef, undef, undef, undef, undef], defers := [] })
  (fun x a' _ X Y row hs hg hr => by
   obtain ⟨Bx, h1, h2, h3⟩ := hs
   refine ⟨Bx, h1, (hg.block Bx (Array.getElem?_eq_some_iff.1 h2).1 (fun e => ?_)).trans h2, h3⟩
   obtain ⟨o, ho, hc⟩ := (hr Bx e.symm).2
   rw [h2] at ho; cases ho; cases hc)
  ?assign ?body ?done ?stop
 case assign =>
  rintro l pre x W K ⟨⟨⟨e3, e1⟩, e2⟩, hx⟩ hK
  have hsz2 := e3.lt
  simp only [encS]
  gi_wp2
  exact hK _ _ ((KeepsOthers.alloc _ _).from _) ⟨(Below.refl _ W).alloc hx.size _, KeepCells.alloc _ _ _⟩ ⟨⟨⟨e3.alloc _, e1.alloc _⟩, e2.alloc _⟩, hx.alloc hx.size _⟩ ⟨W.heap.size, hsz2, World.alloc_heap_new W _, rfl⟩
 case body =>
  rintro l pre x a' W hl ⟨r, hr⟩ ⟨⟨⟨e3, e1⟩, e2⟩, hx⟩ ⟨Bx, hBx, bX, rfl⟩ hlt
  have k3 := e3.cell
  have f3 := e3.frozen
  have k2 := e2.cell
  have k1 := e1.cell
  have l3 := e3.lt
  have l2 := e2.lt
  have l1 := e1.lt
  have m0 := blk_cell bX 0 (.int .i64 x.1.1) rfl
  have m1 := blk_cell bX 1 (.int .i64 x.1.2.1) rfl
  have hsum := sumI_range HG.out.f0 HG.out.t1 pre
  have hll := (log_ok HG.out.log).1
  have hadd := Lib.hid (sumI_snoc f t pre x)
  have hfr := HG.out.f0
  have htr := HG.out.t1
  have Hax : Hid (addI f t x = if max x.1.1 f < min x.1.2.1 t then (min x.1.2.1 t - max x.1.1 f) * x.1.2.2 else 0) := rfl
  obtain ⟨⟨p, q, r⟩, hr1, hr2⟩ := x
  dsimp only at m0 m1 hr1 hr2 Hax ⊢
  clear d1 d2 d3 c1 c2 c3 c4 c5
  by_cases hab : max p f < min q t
  ·
   have tt : decide (max p f < min q t) = true := decide_eq_true hab
   have hm := mul_range hr1 hr2 (show 0 ≤ min q t - max p f by omega) (show min q t - max p f ≤ 1073741824 by omega)
   rw [Int.mul_comm] at hm
   have hw1 : IntKind.i64.wrap (min q t - max p f) = min q t - max p f := IntWalk.i64_in _ (by omega)
   have hw2 : IntKind.i64.wrap ((min q t - max p f) * r) = (min q t - max p f) * r := IntWalk.i64_in _ (by omega)
   have hw3 : IntKind.i64.wrap (sumI f t pre + (min q t - max p f) * r) = sumI f t pre + (min q t - max p f) * r := IntWalk.i64_in _ (by omega)
   have Ha := Hax.out
   rw [if_pos hab] at Ha
   rw [Ha] at hadd
   clear Ha Hax hab hm hsum hll hlt hfr htr
   gi_wp2
   refine wpIn_region_quiet_round (by kernel_rfl) (by kernel_rfl) (by kernel_rfl) ?_
   repeat (gi_big_quiet_step (fail))
   refine wpQuietIn_nil ?_
   intro _ hw'
   obtain ⟨nq, hw''⟩ := hw'
   subst hw''
   gi_wp2
   exact ⟨(keepsN _ W nq).trans ((KeepsOthers.setCell (W.drewN nq) _ _).from _), ⟨(below_dn (Below.refl _ _) nq).setCell (p := ⟨w.heap.size + 1 + 1, 0, none⟩) (by simp; omega) _, KeepCells.setN _ W nq _⟩, ⟨⟨by rw [hadd.out]; exact Boxed.set _ (W := W.drewN nq) e3, Boxed.other (W := W.drewN nq) e1 (by omega) _⟩, Boxed.other (W := W.drewN nq) e2 (by omega) _⟩, (below_dn hx nq).setCell (p := ⟨w.heap.size + 1 + 1, 0, none⟩) (by simp; omega) _⟩
  ·
   have tt : decide (max p f < min q t) = false := decide_eq_false hab
   have Ha := Hax.out
   rw [if_neg hab] at Ha
   rw [Ha, Int.add_zero] at hadd
   clear Ha Hax hab hsum hll hlt hfr htr
   gi_wp2
   refine wpIn_region_quiet_round (by kernel_rfl) (by kernel_rfl) (by kernel_rfl) ?_
   repeat (gi_big_quiet_step (fail))
   refine wpQuietIn_nil ?_
   intro _ hw'
   obtain ⟨nq, hw''⟩ := hw'
   subst hw''
   gi_wp2
   exact ⟨keepsN _ W nq, ⟨below_dn (Below.refl _ _) nq, KeepCells.drewN _ W nq⟩, ⟨⟨by rw [hadd.out]; exact e3, e1⟩, e2⟩, below_dn hx nq⟩
 case done =>
  rintro D ys W hD rfl ⟨⟨⟨e3, e1⟩, e2⟩, hx⟩ hK
  have k3 := e3.cell
  gi_wp2
  refine ⟨by simp, .inl ⟨_, _, rfl, run_takeDeferred hK, ?_⟩⟩
  exact ⟨_, results_tmp rfl _ _ _, rfl, hx.trans (belowK_b (w := w) (Nat.le_refl _) W D _ _ (by omega) hK rfl rfl)⟩
 case stop =>
  rintro D c pre W _ _ h _
  exact h.elim

end Go.Proofs.Ytanmcbbnnjamoaa

namespace Go.Proofs.Ytanmcbbnnjamoaa
open Go.RowKit

/-! ### The sums agree -/
def addP (f t a b r : Int) : Int := if max a f < min b t then (min b t - max a f) * r else 0
theorem addI_round {es : List (Rat × Int)} {ls : List (Int × Nat)} {f t : Int} (h : GoodLog es ls f t) (gap : Int) (i : Nat) (hi : i < ls.length) :
  addI f t (strS h gap i) = rateI es gap ls i * bothI f t (lastT ls i) (ls.getD i (0, 0)).1 := by
 have hf := h.f0
 have hla := h.last i (by omega)
 have e : max (if i = 0 then (-9223372036854775808 : Int) else lastT ls i) f = max f (lastT ls i) := by
  split
  ·
   rename_i h0
   have : lastT ls i = 0 := by unfold lastT; rw [if_pos h0]
   omega
  ·
   omega
 show addP f t (strI es gap ls i).1 (strI es gap ls i).2.1 (strI es gap ls i).2.2 = _
 unfold strI bothI addP
 dsimp only
 rw [if_pos hi, if_pos hi, e]
 generalize (ls.getD i (0, 0)).1 = ty
 generalize rateI es gap ls i = R
 have e2 : min ty t = min t ty := by omega
 rw [e2]
 split
 ·
  rw [Int.mul_comm]
  congr 1
  omega
 ·
  have : max 0 (min t ty - max f (lastT ls i)) = 0 := by omega
  rw [this, Int.mul_zero]
theorem addI_last {es : List (Rat × Int)} {ls : List (Int × Nat)} {f t : Int} (h : GoodLog es ls f t) (gap : Int) :
  addI f t (strS h gap ls.length) = hotI es * bothI f t (lastT ls ls.length) 1073741825 := by
 have hf := h.f0
 have ht := h.t1
 have hla := h.last ls.length (by omega)
 have e : max (if ls.length = 0 then (-9223372036854775808 : Int) else lastT ls ls.length) f = max f (lastT ls ls.length) := by
  split
  ·
   rename_i h0
   have : lastT ls ls.length = 0 := by unfold lastT; rw [if_pos h0]
   omega
  ·
   omega
 show addP f t (strI es gap ls ls.length).1 (strI es gap ls ls.length).2.1 (strI es gap ls ls.length).2.2 = _
 unfold strI bothI addP
 dsimp only
 rw [if_neg (Nat.lt_irrefl _), if_neg (Nat.lt_irrefl _), e]
 have e2 : min 9223372036854775807 t = min t 1073741825 := by omega
 rw [e2]
 generalize hotI es = R
 split
 ·
  rw [Int.mul_comm]
  congr 1
  omega
 ·
  have : max 0 (min t 1073741825 - max f (lastT ls ls.length)) = 0 := by omega
  rw [this, Int.mul_zero]
theorem sumI_used {es : List (Rat × Int)} {ls : List (Int × Nat)} {f t : Int} (h : GoodLog es ls f t) (gap : Int) (k : Nat) (hk : k ≤ ls.length) : sumI f t (strsTo h gap k) = usedI es gap ls f t k := by
 induction k with
 | zero => rfl
 | succ k ih => rw [strsTo_succ, sumI_snoc, ih (by omega), addI_round h gap k (by omega)]; rfl
theorem sumI_all {es : List (Rat × Int)} {ls : List (Int × Nat)} {f t : Int} (h : GoodLog es ls f t) (gap : Int) : sumI f t (strsTo h gap (ls.length + 1)) = usedAll es gap ls f t := by
 rw [strsTo_succ, sumI_snoc, sumI_used h gap _ (Nat.le_refl _), addI_last]
 rfl

/-! ### What Used tells -/
def usedErr (es : List (Rat × Int)) (gap : Int) (ls : List (Int × Nat)) (f t : Int) : Int :=
 if tabErr es ≠ 0 then tabErr es else if gapB gap = false then 1 else if logErr ls ≠ 0 then logErr ls else if timeB f = false ∨ timeB t = false then 1 else if t < f then 7 else 0
def usedVal (es : List (Rat × Int)) (gap : Int) (ls : List (Int × Nat)) (f t : Int) : Int := if usedErr es gap ls f t = 0 then usedAll es gap ls f t else 0
theorem timeB_spec {n : Int} (h : timeB n = true) : 0 ≤ n ∧ n ≤ 1073741824 := by
 unfold timeB at h
 simpa using h
def UsedIs (es : List (Rat × Int)) (gap : Int) (ls : List (Int × Nat)) (f t v e : Int) : Prop := usedVal es gap ls f t = v ∧ usedErr es gap ls f t = e
theorem used_tab {es : List (Rat × Int)} {gap : Int} {ls : List (Int × Nat)} {f t : Int} (h : tabErr es ≠ 0) : UsedIs es gap ls f t 0 (tabErr es) := by
 have e : usedErr es gap ls f t = tabErr es := by unfold usedErr; rw [if_pos h]
 exact ⟨by unfold usedVal; rw [e, if_neg h], e⟩
theorem used_gap {es : List (Rat × Int)} {gap : Int} {ls : List (Int × Nat)} {f t : Int} (h : tabErr es = 0) (h2 : gapB gap = false) : UsedIs es gap ls f t 0 1 := by
 have e : usedErr es gap ls f t = 1 := by unfold usedErr; rw [if_neg (fun h3 => h3 h), if_pos h2]
 exact ⟨by unfold usedVal; rw [e, if_neg (by decide)], e⟩
theorem used_log {es : List (Rat × Int)} {gap : Int} {ls : List (Int × Nat)} {f t : Int} (h : tabErr es = 0) (h2 : gapB gap = true) (h3 : logErr ls ≠ 0) : UsedIs es gap ls f t 0 (logErr ls) := by
 have e : usedErr es gap ls f t = logErr ls := by unfold usedErr; rw [if_neg (fun h3 => h3 h), if_neg (by rw [h2]; decide), if_pos h3]
 exact ⟨by unfold usedVal; rw [e, if_neg h3], e⟩
theorem used_time {es : List (Rat × Int)} {gap : Int} {ls : List (Int × Nat)} {f t : Int} (h : tabErr es = 0) (h2 : gapB gap = true) (h3 : logErr ls = 0) (h4 : timeB f = false ∨ timeB t = false) : UsedIs es gap ls f t 0 1 := by
 have e : usedErr es gap ls f t = 1 := by unfold usedErr; rw [if_neg (fun h3 => h3 h), if_neg (by rw [h2]; decide), if_neg (fun h => h h3), if_pos h4]
 exact ⟨by unfold usedVal; rw [e, if_neg (by decide)], e⟩
theorem used_order {es : List (Rat × Int)} {gap : Int} {ls : List (Int × Nat)} {f t : Int} (h : tabErr es = 0) (h2 : gapB gap = true) (h3 : logErr ls = 0) (h4 : timeB f = true) (h5 : timeB t = true) (h6 : t < f) : UsedIs es gap ls f t 0 7 := by
 have e : usedErr es gap ls f t = 7 := by unfold usedErr; rw [if_neg (fun h3 => h3 h), if_neg (by rw [h2]; decide), if_neg (fun h => h h3), if_neg (by rw [h4, h5]; decide), if_pos h6]
 exact ⟨by unfold usedVal; rw [e, if_neg (by decide)], e⟩
theorem used_good {es : List (Rat × Int)} {gap : Int} {ls : List (Int × Nat)} {f t : Int} (h : tabErr es = 0) (h2 : gapB gap = true) (h3 : logErr ls = 0) (h4 : timeB f = true) (h5 : timeB t = true) (h6 : ¬ t < f) : UsedIs es gap ls f t (usedAll es gap ls f t) 0 := by
 have e : usedErr es gap ls f t = 0 := by unfold usedErr; rw [if_neg (fun h3 => h3 h), if_neg (by rw [h2]; decide), if_neg (fun h => h h3), if_neg (by rw [h4, h5]; decide), if_neg h6]
 exact ⟨by unfold usedVal; rw [e, if_pos rfl], e⟩
theorem goodLog_of {es : List (Rat × Int)} {ls : List (Int × Nat)} {f t : Int} (h : tabErr es = 0) (h3 : logErr ls = 0) (h4 : timeB f = true) (h5 : timeB t = true) : GoodLog es ls f t :=
 ⟨h, h3, (timeB_spec h4).1, (timeB_spec h4).2, (timeB_spec h5).1, (timeB_spec h5).2⟩

set_option maxHeartbeats 2000000 in
theorem Used_any (es : List (Rat × Int)) (gap : Int) (ls : List (Int × Nat)) (f t : Int) (ve vl : Value) (w : World) (he : EntsOf IsRat w ve es) (hl : LogOf w vl ls) (hs : ∀ i, i < es.length → szR (es.getD i (0, 0)).1 274877906944) :
  Calls Try.prog 8 #[ve, .int .i64 gap, vl, .int .i64 f, .int .i64 t] w (RetIE (usedVal es gap ls f t) (usedErr es gap ls f t) w) := by
 have HE := Lib.hid he
 have HL := Lib.hid hl
 have HS := Lib.hid hs
 obtain ⟨aol, capl, rfl, _⟩ := hl
 obtain ⟨ao, cap, rfl, _⟩ := he
 clear hs
 by_cases h0 : tabErr es = 0
 ·
  have t0 : (tabErr es != 0) = false := by simp [h0]
  have H0 := Lib.hid h0
  clear h0
  cases hgp : gapB gap with
  | false =>
   have Hv := Lib.hid (used_gap (ls := ls) (f := f) (t := t) H0.out hgp)

   go_enter Try.func8, Try.ntmps8
   go_wp2_with fail
   refine (checkTable_any es _ _ HE.out HS.out).mono ?_
   rintro e w1 ⟨rfl, hb1⟩
   generalize tabErr es = te at *
   go_wp2_with fail

   refine (gap_any gap _).mono ?_
   rintro e w2 ⟨rfl, rfl⟩
   rw [hgp]
   go_wp2_with fail

   go_ret2
   exact ⟨by rw [Hv.out.1, Hv.out.2]; rfl, hb1⟩
  | true =>
   have Hg := Lib.hid hgp
   by_cases h1 : logErr ls = 0
   ·
    have t1 : (logErr ls != 0) = false := by simp [h1]
    have H1 := Lib.hid h1
    clear h1
    cases htf : timeB f with
    | false =>
     have Hv := Lib.hid (used_time (f := f) (t := t) H0.out Hg.out H1.out (.inl htf))

     go_enter Try.func8, Try.ntmps8
     go_wp2_with fail
     refine (checkTable_any es _ _ HE.out HS.out).mono ?_
     rintro e w1 ⟨rfl, hb1⟩
     generalize tabErr es = te at *
     go_wp2_with fail

     refine (gap_any gap _).mono ?_
     rintro e w2 ⟨rfl, rfl⟩
     rw [hgp]
     go_wp2_with fail

     refine (checkLog_any ls _ _ (HL.out.below hb1)).mono ?_
     rintro e w2 ⟨rfl, hb2⟩
     have hx2 := ext_trans hb1 hb2
     generalize logErr ls = le at *
     go_wp2_with fail

     refine (time_any f _).mono ?_
     rintro e w3 ⟨rfl, rfl⟩
     rw [htf]
     go_wp2_with fail

     go_ret2
     exact ⟨by rw [Hv.out.1, Hv.out.2]; rfl, hx2⟩
    | true =>
     cases htt : timeB t with
     | false =>
      have Hv := Lib.hid (used_time (f := f) (t := t) H0.out Hg.out H1.out (.inr htt))

      go_enter Try.func8, Try.ntmps8
      go_wp2_with fail
      refine (checkTable_any es _ _ HE.out HS.out).mono ?_
      rintro e w1 ⟨rfl, hb1⟩
      generalize tabErr es = te at *
      go_wp2_with fail

      refine (gap_any gap _).mono ?_
      rintro e w2 ⟨rfl, rfl⟩
      rw [hgp]
      go_wp2_with fail

      refine (checkLog_any ls _ _ (HL.out.below hb1)).mono ?_
      rintro e w2 ⟨rfl, hb2⟩
      have hx2 := ext_trans hb1 hb2
      generalize logErr ls = le at *
      go_wp2_with fail

      refine (time_any f _).mono ?_
      rintro e w3 ⟨rfl, rfl⟩
      rw [htf]
      go_wp2_with fail

      refine (time_any t _).mono ?_
      rintro e w3 ⟨rfl, rfl⟩
      rw [htt]
      go_wp2_with fail

      go_ret2
      exact ⟨by rw [Hv.out.1, Hv.out.2]; rfl, hx2⟩
     | true =>
      by_cases hft : t < f
      ·
       have Hv := Lib.hid (used_order (f := f) (t := t) H0.out Hg.out H1.out htf htt hft)
       have tt : decide (f > t) = true := decide_eq_true hft
       clear hft

       go_enter Try.func8, Try.ntmps8
       go_wp2_with fail
       refine (checkTable_any es _ _ HE.out HS.out).mono ?_
       rintro e w1 ⟨rfl, hb1⟩
       generalize tabErr es = te at *
       go_wp2_with fail

       refine (gap_any gap _).mono ?_
       rintro e w2 ⟨rfl, rfl⟩
       rw [hgp]
       go_wp2_with fail

       refine (checkLog_any ls _ _ (HL.out.below hb1)).mono ?_
       rintro e w2 ⟨rfl, hb2⟩
       have hx2 := ext_trans hb1 hb2
       generalize logErr ls = le at *
       go_wp2_with fail

       refine (time_any f _).mono ?_
       rintro e w3 ⟨rfl, rfl⟩
       rw [htf]
       go_wp2_with fail

       refine (time_any t _).mono ?_
       rintro e w3 ⟨rfl, rfl⟩
       rw [htt]
       go_wp2_with fail

       go_ret2
       exact ⟨by rw [Hv.out.1, Hv.out.2]; rfl, hx2⟩
      ·
       have Hv := Lib.hid (used_good (f := f) (t := t) H0.out Hg.out H1.out htf htt hft)
       have HG := Lib.hid (goodLog_of H0.out H1.out htf htt)
       have tt : decide (f > t) = false := decide_eq_false hft
       clear hft

       go_enter Try.func8, Try.ntmps8
       go_wp2_with fail
       refine (checkTable_any es _ _ HE.out HS.out).mono ?_
       rintro e w1 ⟨rfl, hb1⟩
       generalize tabErr es = te at *
       go_wp2_with fail

       refine (gap_any gap _).mono ?_
       rintro e w2 ⟨rfl, rfl⟩
       rw [hgp]
       go_wp2_with fail

       refine (checkLog_any ls _ _ (HL.out.below hb1)).mono ?_
       rintro e w2 ⟨rfl, hb2⟩
       have hx2 := ext_trans hb1 hb2
       generalize logErr ls = le at *
       go_wp2_with fail

       refine (time_any f _).mono ?_
       rintro e w3 ⟨rfl, rfl⟩
       rw [htf]
       go_wp2_with fail

       refine (time_any t _).mono ?_
       rintro e w3 ⟨rfl, rfl⟩
       rw [htt]
       go_wp2_with fail

       refine (used_any es gap ls f t HG.out _ _ _ (HE.out.below IsRat.belowAll hx2) (HL.out.below hx2) HS.out).mono ?_
       rintro e w4 ⟨rfl, hb4⟩
       rw [sumI_all]
       have hx4 := ext_trans hx2 hb4
       go_wp2_with fail

       go_ret2
       exact ⟨by rw [Hv.out.1, Hv.out.2]; rfl, hx4⟩
   ·
    have t1 : (logErr ls != 0) = true := by simp [h1]
    have Hv := Lib.hid (used_log (f := f) (t := t) H0.out Hg.out h1)
    clear h1

    go_enter Try.func8, Try.ntmps8
    go_wp2_with fail
    refine (checkTable_any es _ _ HE.out HS.out).mono ?_
    rintro e w1 ⟨rfl, hb1⟩
    generalize tabErr es = te at *
    go_wp2_with fail

    refine (gap_any gap _).mono ?_
    rintro e w2 ⟨rfl, rfl⟩
    rw [hgp]
    go_wp2_with fail

    refine (checkLog_any ls _ _ (HL.out.below hb1)).mono ?_
    rintro e w2 ⟨rfl, hb2⟩
    have hx2 := ext_trans hb1 hb2
    generalize logErr ls = le at *
    go_wp2_with fail

    go_ret2
    exact ⟨by rw [Hv.out.1, Hv.out.2]; rfl, hx2⟩
 ·
  have t0 : (tabErr es != 0) = true := by simp [h0]
  have Hv := Lib.hid (used_tab (gap := gap) (ls := ls) (f := f) (t := t) h0)
  clear h0

  go_enter Try.func8, Try.ntmps8
  go_wp2_with fail
  refine (checkTable_any es _ _ HE.out HS.out).mono ?_
  rintro e w1 ⟨rfl, hb1⟩
  generalize tabErr es = te at *
  go_wp2_with fail

  go_ret2
  exact ⟨by rw [Hv.out.1, Hv.out.2]; rfl, hb1⟩

end Go.Proofs.Ytanmcbbnnjamoaa

namespace Go.Proofs.Ytanmcbbnnjamoaa
open Go.RowKit

/-! ### It adds up -/
theorem bothI_add {f m t : Int} (h1 : f ≤ m) (h2 : m ≤ t) (a b : Int) : bothI f t a b = bothI f m a b + bothI m t a b := by unfold bothI; omega
theorem bothI_cut (f t : Int) {a c b : Int} (h1 : a ≤ c) (h2 : c ≤ b) : bothI f t a b = bothI f t a c + bothI f t c b := by unfold bothI; omega
theorem usedI_add (es : List (Rat × Int)) (gap : Int) (ls : List (Int × Nat)) {f m t : Int} (h1 : f ≤ m) (h2 : m ≤ t) : ∀ k, usedI es gap ls f t k = usedI es gap ls f m k + usedI es gap ls m t k
 | 0 => rfl
 | k + 1 => by simp only [usedI]; rw [usedI_add es gap ls h1 h2 k, bothI_add h1 h2, Int.mul_add]; omega
theorem usedAll_add (es : List (Rat × Int)) (gap : Int) (ls : List (Int × Nat)) {f m t : Int} (h1 : f ≤ m) (h2 : m ≤ t) : usedAll es gap ls f t = usedAll es gap ls f m + usedAll es gap ls m t := by
 unfold usedAll; rw [usedI_add es gap ls h1 h2, bothI_add h1 h2, Int.mul_add]; omega
theorem usedAll_same (es : List (Rat × Int)) (gap : Int) (ls : List (Int × Nat)) (f : Int) : usedAll es gap ls f f = 0 := by
 have := usedAll_add es gap ls (Int.le_refl f) (Int.le_refl f)
 omega

/-! ### Second by second -/
def atS (es : List (Rat × Int)) (gap : Int) (ls : List (Int × Nat)) (s : Int) : Nat → Int
 | 0 => hotI es
 | k + 1 => if lastT ls k ≤ s ∧ s < (ls.getD k (0, 0)).1 then rateI es gap ls k else atS es gap ls s k
theorem lastT_succ (ls : List (Int × Nat)) (k : Nat) : lastT ls (k + 1) = (ls.getD k (0, 0)).1 := by simp [lastT]
theorem atS_hot {es : List (Rat × Int)} {gap : Int} {ls : List (Int × Nat)} {s : Int} (hA : ∀ k, k < ls.length → lastT ls k ≤ (ls.getD k (0, 0)).1) : ∀ k, k ≤ ls.length → lastT ls k ≤ s → atS es gap ls s k = hotI es
 | 0, _, _ => rfl
 | k + 1, hk, h => by
  rw [lastT_succ] at h
  unfold atS
  rw [if_neg (by omega)]
  exact atS_hot hA k (by omega) (by have := hA k (by omega); omega)
theorem usedI_one {es : List (Rat × Int)} {gap : Int} {ls : List (Int × Nat)} {s : Int} (h0 : 0 ≤ s) (hA : ∀ k, k < ls.length → lastT ls k ≤ (ls.getD k (0, 0)).1) :
  ∀ k, k ≤ ls.length → usedI es gap ls s (s + 1) k = if s < lastT ls k then atS es gap ls s k else 0
 | 0, _ => by rw [if_neg (by simp [lastT]; omega)]; rfl
 | k + 1, hk => by
  have ih := usedI_one (es := es) (gap := gap) h0 hA k (by omega)
  have ha := hA k (by omega)
  rw [lastT_succ]
  simp only [usedI, atS]
  rw [ih]
  by_cases c1 : s < lastT ls k
  ·
   rw [if_pos c1, if_neg (by omega : ¬ (lastT ls k ≤ s ∧ _)), if_pos (by omega), show bothI s (s + 1) (lastT ls k) (ls.getD k (0, 0)).1 = 0 by unfold bothI; omega]
   omega
  ·
   rw [if_neg c1]
   by_cases c2 : s < (ls.getD k (0, 0)).1
   ·
    rw [if_pos c2, if_pos (by omega), show bothI s (s + 1) (lastT ls k) (ls.getD k (0, 0)).1 = 1 by unfold bothI; omega]
    omega
   ·
    rw [if_neg c2, show bothI s (s + 1) (lastT ls k) (ls.getD k (0, 0)).1 = 0 by unfold bothI; omega]
    omega
theorem usedAll_one {es : List (Rat × Int)} {gap : Int} {ls : List (Int × Nat)} {s : Int} (h0 : 0 ≤ s) (h1 : s < 1073741825) (hA : ∀ k, k < ls.length → lastT ls k ≤ (ls.getD k (0, 0)).1) :
  usedAll es gap ls s (s + 1) = atS es gap ls s ls.length := by
 unfold usedAll
 rw [usedI_one h0 hA _ (Nat.le_refl _)]
 by_cases c : s < lastT ls ls.length
 ·
  rw [if_pos c, show bothI s (s + 1) (lastT ls ls.length) 1073741825 = 0 by unfold bothI; omega]; omega
 ·
  rw [if_neg c, show bothI s (s + 1) (lastT ls ls.length) 1073741825 = 1 by unfold bothI; omega, atS_hot hA _ (Nat.le_refl _) (by omega)]; omega
def sumG (g : Int → Int) (f : Int) : Nat → Int
 | 0 => 0
 | n + 1 => sumG g f n + g (f + n)
theorem used_ge {es : List (Rat × Int)} {gap : Int} {ls : List (Int × Nat)} {g : Int → Int} {f : Int} (h0 : 0 ≤ f) (hA : ∀ k, k < ls.length → lastT ls k ≤ (ls.getD k (0, 0)).1)
  (hg : ∀ s, g s ≤ atS es gap ls s ls.length) : ∀ n : Nat, f + n ≤ 1073741824 → sumG g f n ≤ usedAll es gap ls f (f + n)
 | 0, _ => by
  rw [show f + ((0 : Nat) : Int) = f by omega, usedAll_same]
  exact Int.le_refl _
 | n + 1, h => by
  have ih := used_ge h0 hA hg n (by omega)
  have h2 := usedAll_one (es := es) (gap := gap) (s := f + n) (by omega) (by omega) hA
  have h3 := hg (f + n)
  rw [show f + ((n + 1 : Nat) : Int) = f + n + 1 by omega, usedAll_add es gap ls (f := f) (m := f + n) (t := f + n + 1) (by omega) (by omega), h2]
  show sumG g f n + g (f + n) ≤ _
  omega

/-! ### One more reading -/
def insL (ls : List (Int × Nat)) (i : Nat) (r : Int × Nat) : List (Int × Nat) := ls.take i ++ r :: ls.drop i
theorem insL_length (ls : List (Int × Nat)) (i : Nat) (r : Int × Nat) (hi : i ≤ ls.length) : (insL ls i r).length = ls.length + 1 := by simp [insL]; omega
theorem insL_get (ls : List (Int × Nat)) (i : Nat) (r : Int × Nat) (hi : i ≤ ls.length) (k : Nat) : (insL ls i r).getD k (0, 0) = if k < i then ls.getD k (0, 0) else if k = i then r else ls.getD (k - 1) (0, 0) := by
 simp only [insL, List.getD, List.getElem?_append, List.length_take, Nat.min_eq_left hi]
 split
 ·
  rename_i h
  rw [List.getElem?_take_of_lt h]
 ·
  split
  ·
   rename_i h; subst h; simp
  ·
   obtain ⟨d, hd⟩ : ∃ d, k - i = d + 1 := ⟨k - i - 1, by omega⟩
   rw [hd]
   simp only [List.getElem?_cons_succ, List.getElem?_drop]
   rw [show i + d = k - 1 by omega]
section
variable {es : List (Rat × Int)} {gap : Int} {ls : List (Int × Nat)} {i : Nat} {r : Int × Nat} {f t : Int}
theorem ins_last (hi : i ≤ ls.length) {k : Nat} (hk : k ≤ i) : lastT (insL ls i r) k = lastT ls k := by
 unfold lastT
 split
 ·
  rfl
 ·
  rw [insL_get ls i r hi, if_pos (by omega)]
theorem ins_last2 (hi : i ≤ ls.length) {k : Nat} (hk : i < k) : lastT (insL ls i r) (k + 1) = lastT ls k := by
 unfold lastT
 rw [if_neg (by omega), if_neg (by omega), insL_get ls i r hi, if_neg (by omega), if_neg (by omega)]
 rfl
theorem ins_lo (hi : i ≤ ls.length) : ∀ k, k ≤ i → usedI es gap (insL ls i r) f t k = usedI es gap ls f t k
 | 0, _ => rfl
 | k + 1, hk => by
  simp only [usedI]
  have g1 := insL_get ls i r hi k
  rw [if_pos (by omega)] at g1
  have g2 := insL_get ls i r hi (k - 1)
  rw [if_pos (by omega)] at g2
  have : rateI es gap (insL ls i r) k = rateI es gap ls k := by
   unfold rateI
   rw [g1, g2]
  rw [ins_lo hi k (by omega), ins_last hi (by omega), g1, this]
theorem ins_rate2 (hi : i ≤ ls.length) {k : Nat} (hk : i < k) : rateI es gap (insL ls i r) (k + 1) = rateI es gap ls k := by
 have g1 := insL_get ls i r hi (k + 1)
 rw [if_neg (by omega), if_neg (by omega), show k + 1 - 1 = k by omega] at g1
 have g2 := insL_get ls i r hi k
 rw [if_neg (by omega), if_neg (by omega)] at g2
 unfold rateI
 rw [show k + 1 - 1 = k by omega, g1, g2]
 by_cases c : (ls.getD k (0, 0)).1 - (ls.getD (k - 1) (0, 0)).1 ≤ gap
 ·
  rw [if_pos ⟨by omega, c⟩, if_pos ⟨by omega, c⟩]
 ·
  rw [if_neg (fun h => c h.2), if_neg (fun h => c h.2)]
theorem ins_mid (h0 : 0 < i) (hi : i < ls.length) (ha : (ls.getD (i - 1) (0, 0)).1 ≤ r.1) (hb : r.1 ≤ (ls.getD i (0, 0)).1) (hg : (ls.getD i (0, 0)).1 - (ls.getD (i - 1) (0, 0)).1 ≤ gap)
  (hr : rateUp es (tempQ r.2) ≤ max (rateUp es (tempQ (ls.getD (i - 1) (0, 0)).2)) (rateUp es (tempQ (ls.getD i (0, 0)).2))) :
  usedI es gap (insL ls i r) f t (i + 2) ≤ usedI es gap ls f t (i + 1) := by
 have e1 : usedI es gap (insL ls i r) f t (i + 2) = usedI es gap (insL ls i r) f t i + rateI es gap (insL ls i r) i * bothI f t (lastT (insL ls i r) i) ((insL ls i r).getD i (0, 0)).1
   + rateI es gap (insL ls i r) (i + 1) * bothI f t (lastT (insL ls i r) (i + 1)) ((insL ls i r).getD (i + 1) (0, 0)).1 := rfl
 have e2 : usedI es gap ls f t (i + 1) = usedI es gap ls f t i + rateI es gap ls i * bothI f t (lastT ls i) (ls.getD i (0, 0)).1 := rfl
 rw [e1, e2, ins_lo (by omega) i (Nat.le_refl _), ins_last (by omega) (Nat.le_refl _), lastT_succ]
 have g0 := insL_get ls i r (by omega) i
 rw [if_neg (by omega), if_pos rfl] at g0
 have g1 := insL_get ls i r (by omega) (i + 1)
 rw [if_neg (by omega), if_neg (by omega), show i + 1 - 1 = i by omega] at g1
 have gm := insL_get ls i r (by omega) (i - 1)
 rw [if_pos (by omega)] at gm
 have hl : lastT ls i = (ls.getD (i - 1) (0, 0)).1 := by unfold lastT; rw [if_neg (by omega)]
 have R : rateI es gap ls i = max (rateUp es (tempQ (ls.getD (i - 1) (0, 0)).2)) (rateUp es (tempQ (ls.getD i (0, 0)).2)) := by unfold rateI; rw [if_pos ⟨h0, hg⟩]
 have R1 : rateI es gap (insL ls i r) i ≤ rateI es gap ls i := by
  rw [R]
  unfold rateI
  rw [g0, gm, if_pos ⟨h0, by omega⟩]
  omega
 have R2 : rateI es gap (insL ls i r) (i + 1) ≤ rateI es gap ls i := by
  rw [R]
  unfold rateI
  rw [show i + 1 - 1 = i by omega, g0, g1, if_pos ⟨by omega, by omega⟩]
  omega
 rw [g0, g1, hl, bothI_cut f t ha hb, Int.mul_add]
 have n1 : 0 ≤ bothI f t (ls.getD (i - 1) (0, 0)).1 r.1 := by unfold bothI; omega
 have n2 : 0 ≤ bothI f t r.1 (ls.getD i (0, 0)).1 := by unfold bothI; omega
 have m1 := Int.mul_le_mul_of_nonneg_right R1 n1
 have m2 := Int.mul_le_mul_of_nonneg_right R2 n2
 omega
theorem ins_hi (hi : i < ls.length) (hm : usedI es gap (insL ls i r) f t (i + 2) ≤ usedI es gap ls f t (i + 1)) : ∀ k, i < k → usedI es gap (insL ls i r) f t (k + 1) ≤ usedI es gap ls f t k
 | 0, h => absurd h (by omega)
 | k + 1, h => by
  by_cases c : k = i
  ·
   subst c; exact hm
  ·
   have ih := ins_hi hi hm k (by omega)
   show usedI es gap (insL ls i r) f t (k + 1) + rateI es gap (insL ls i r) (k + 1) * bothI f t (lastT (insL ls i r) (k + 1)) ((insL ls i r).getD (k + 1) (0, 0)).1 ≤ usedI es gap ls f t k + rateI es gap ls k * bothI f t (lastT ls k) (ls.getD k (0, 0)).1
   rw [ins_rate2 (by omega) (by omega), ins_last2 (by omega) (by omega), insL_get ls i r (by omega), if_neg (by omega), if_neg (by omega), show k + 1 - 1 = k by omega]
   omega
theorem ins_all (h0 : 0 < i) (hi : i < ls.length) (ha : (ls.getD (i - 1) (0, 0)).1 ≤ r.1) (hb : r.1 ≤ (ls.getD i (0, 0)).1) (hg : (ls.getD i (0, 0)).1 - (ls.getD (i - 1) (0, 0)).1 ≤ gap)
  (hr : rateUp es (tempQ r.2) ≤ max (rateUp es (tempQ (ls.getD (i - 1) (0, 0)).2)) (rateUp es (tempQ (ls.getD i (0, 0)).2))) :
  usedAll es gap (insL ls i r) f t ≤ usedAll es gap ls f t := by
 have := ins_hi hi (ins_mid (f := f) (t := t) h0 hi ha hb hg hr) ls.length hi
 unfold usedAll
 rw [insL_length ls i r (by omega), ins_last2 (by omega) hi]
 omega
end

/-! ### Floats that are whole numbers -/
abbrev deg (n : Int) : Nat := floatOfInt .f32 n
theorem deg_add_all : ∀ n : Fin 256, floatBits .add .f32 (deg 200) (deg (n.val : Int)) = some (deg (200 + (n.val : Int))) := by decide +kernel
theorem deg_sub0 : ∀ a : Fin 256, ∀ c : Fin 4, floatBits .sub .f32 (deg (200 + (a.val : Int))) (deg (0 + (c.val : Int))) = some (deg (200 + (a.val : Int) - (0 + (c.val : Int)))) := by decide +kernel
theorem deg_sub1 : ∀ a : Fin 256, ∀ c : Fin 4, floatBits .sub .f32 (deg (200 + (a.val : Int))) (deg (4 + (c.val : Int))) = some (deg (200 + (a.val : Int) - (4 + (c.val : Int)))) := by decide +kernel
theorem deg_sub2 : ∀ a : Fin 256, ∀ c : Fin 4, floatBits .sub .f32 (deg (200 + (a.val : Int))) (deg (8 + (c.val : Int))) = some (deg (200 + (a.val : Int) - (8 + (c.val : Int)))) := by decide +kernel
theorem deg_sub3 : ∀ a : Fin 256, ∀ c : Fin 4, floatBits .sub .f32 (deg (200 + (a.val : Int))) (deg (12 + (c.val : Int))) = some (deg (200 + (a.val : Int) - (12 + (c.val : Int)))) := by decide +kernel
theorem deg_sub4 : ∀ a : Fin 256, ∀ c : Fin 4, floatBits .sub .f32 (deg (200 + (a.val : Int))) (deg (16 + (c.val : Int))) = some (deg (200 + (a.val : Int) - (16 + (c.val : Int)))) := by decide +kernel
theorem deg_sub5 : ∀ a : Fin 256, ∀ c : Fin 4, floatBits .sub .f32 (deg (200 + (a.val : Int))) (deg (20 + (c.val : Int))) = some (deg (200 + (a.val : Int) - (20 + (c.val : Int)))) := by decide +kernel
theorem deg_sub6 : ∀ a : Fin 256, ∀ c : Fin 4, floatBits .sub .f32 (deg (200 + (a.val : Int))) (deg (24 + (c.val : Int))) = some (deg (200 + (a.val : Int) - (24 + (c.val : Int)))) := by decide +kernel
theorem deg_sub7 : ∀ a : Fin 256, ∀ c : Fin 4, floatBits .sub .f32 (deg (200 + (a.val : Int))) (deg (28 + (c.val : Int))) = some (deg (200 + (a.val : Int) - (28 + (c.val : Int)))) := by decide +kernel
theorem deg_sub8 : ∀ a : Fin 256, ∀ c : Fin 4, floatBits .sub .f32 (deg (200 + (a.val : Int))) (deg (32 + (c.val : Int))) = some (deg (200 + (a.val : Int) - (32 + (c.val : Int)))) := by decide +kernel
theorem deg_sub9 : ∀ a : Fin 256, ∀ c : Fin 4, floatBits .sub .f32 (deg (200 + (a.val : Int))) (deg (36 + (c.val : Int))) = some (deg (200 + (a.val : Int) - (36 + (c.val : Int)))) := by decide +kernel
theorem deg_sub10 : ∀ a : Fin 256, ∀ c : Fin 4, floatBits .sub .f32 (deg (200 + (a.val : Int))) (deg (40 + (c.val : Int))) = some (deg (200 + (a.val : Int) - (40 + (c.val : Int)))) := by decide +kernel
theorem deg_sub11 : ∀ a : Fin 256, ∀ c : Fin 4, floatBits .sub .f32 (deg (200 + (a.val : Int))) (deg (44 + (c.val : Int))) = some (deg (200 + (a.val : Int) - (44 + (c.val : Int)))) := by decide +kernel
theorem deg_sub12 : ∀ a : Fin 256, ∀ c : Fin 4, floatBits .sub .f32 (deg (200 + (a.val : Int))) (deg (48 + (c.val : Int))) = some (deg (200 + (a.val : Int) - (48 + (c.val : Int)))) := by decide +kernel
theorem deg_sub13 : ∀ a : Fin 256, ∀ c : Fin 4, floatBits .sub .f32 (deg (200 + (a.val : Int))) (deg (52 + (c.val : Int))) = some (deg (200 + (a.val : Int) - (52 + (c.val : Int)))) := by decide +kernel
theorem deg_sub14 : ∀ a : Fin 256, ∀ c : Fin 4, floatBits .sub .f32 (deg (200 + (a.val : Int))) (deg (56 + (c.val : Int))) = some (deg (200 + (a.val : Int) - (56 + (c.val : Int)))) := by decide +kernel
theorem deg_sub15 : ∀ a : Fin 256, ∀ c : Fin 4, floatBits .sub .f32 (deg (200 + (a.val : Int))) (deg (60 + (c.val : Int))) = some (deg (200 + (a.val : Int) - (60 + (c.val : Int)))) := by decide +kernel
theorem deg_sub_nat (a c : Nat) (h0 : a < 256) (h1 : c < 64) : floatBits .sub .f32 (deg (200 + (a : Int))) (deg (c : Int)) = some (deg (200 + (a : Int) - (c : Int))) := by
 obtain ⟨k, d, hd, rfl⟩ : ∃ k d, d < 4 ∧ c = 4 * k + d := ⟨c / 4, c % 4, by omega, by omega⟩
 have hk : k < 16 := by omega
 match k, hk with
 | 0, _ => have h := deg_sub0 ⟨a, h0⟩ ⟨d, hd⟩; dsimp only at h; rw [show ((4 * 0 + d : Nat) : Int) = 0 + (d : Int) by omega]; exact h
 | 1, _ => have h := deg_sub1 ⟨a, h0⟩ ⟨d, hd⟩; dsimp only at h; rw [show ((4 * 1 + d : Nat) : Int) = 4 + (d : Int) by omega]; exact h
 | 2, _ => have h := deg_sub2 ⟨a, h0⟩ ⟨d, hd⟩; dsimp only at h; rw [show ((4 * 2 + d : Nat) : Int) = 8 + (d : Int) by omega]; exact h
 | 3, _ => have h := deg_sub3 ⟨a, h0⟩ ⟨d, hd⟩; dsimp only at h; rw [show ((4 * 3 + d : Nat) : Int) = 12 + (d : Int) by omega]; exact h
 | 4, _ => have h := deg_sub4 ⟨a, h0⟩ ⟨d, hd⟩; dsimp only at h; rw [show ((4 * 4 + d : Nat) : Int) = 16 + (d : Int) by omega]; exact h
 | 5, _ => have h := deg_sub5 ⟨a, h0⟩ ⟨d, hd⟩; dsimp only at h; rw [show ((4 * 5 + d : Nat) : Int) = 20 + (d : Int) by omega]; exact h
 | 6, _ => have h := deg_sub6 ⟨a, h0⟩ ⟨d, hd⟩; dsimp only at h; rw [show ((4 * 6 + d : Nat) : Int) = 24 + (d : Int) by omega]; exact h
 | 7, _ => have h := deg_sub7 ⟨a, h0⟩ ⟨d, hd⟩; dsimp only at h; rw [show ((4 * 7 + d : Nat) : Int) = 28 + (d : Int) by omega]; exact h
 | 8, _ => have h := deg_sub8 ⟨a, h0⟩ ⟨d, hd⟩; dsimp only at h; rw [show ((4 * 8 + d : Nat) : Int) = 32 + (d : Int) by omega]; exact h
 | 9, _ => have h := deg_sub9 ⟨a, h0⟩ ⟨d, hd⟩; dsimp only at h; rw [show ((4 * 9 + d : Nat) : Int) = 36 + (d : Int) by omega]; exact h
 | 10, _ => have h := deg_sub10 ⟨a, h0⟩ ⟨d, hd⟩; dsimp only at h; rw [show ((4 * 10 + d : Nat) : Int) = 40 + (d : Int) by omega]; exact h
 | 11, _ => have h := deg_sub11 ⟨a, h0⟩ ⟨d, hd⟩; dsimp only at h; rw [show ((4 * 11 + d : Nat) : Int) = 44 + (d : Int) by omega]; exact h
 | 12, _ => have h := deg_sub12 ⟨a, h0⟩ ⟨d, hd⟩; dsimp only at h; rw [show ((4 * 12 + d : Nat) : Int) = 48 + (d : Int) by omega]; exact h
 | 13, _ => have h := deg_sub13 ⟨a, h0⟩ ⟨d, hd⟩; dsimp only at h; rw [show ((4 * 13 + d : Nat) : Int) = 52 + (d : Int) by omega]; exact h
 | 14, _ => have h := deg_sub14 ⟨a, h0⟩ ⟨d, hd⟩; dsimp only at h; rw [show ((4 * 14 + d : Nat) : Int) = 56 + (d : Int) by omega]; exact h
 | 15, _ => have h := deg_sub15 ⟨a, h0⟩ ⟨d, hd⟩; dsimp only at h; rw [show ((4 * 15 + d : Nat) : Int) = 60 + (d : Int) by omega]; exact h
 | k + 16, hk => exact absurd hk (by omega)
theorem deg_ok_all : ∀ n : Fin 400, tempOk (deg (100 + (n.val : Int))) = true ∧ tempQ (deg (100 + (n.val : Int))) = (((100 + (n.val : Int) : Int)) : Rat) := by decide +kernel
theorem deg_read_all : ∀ n : Fin 256, FloatKind.f32.format.read (deg (200 + (n.val : Int))) = if n.val < 56 then .number false ((200 + n.val) * 65536) (-16) else .number false ((200 + n.val) * 32768) (-15) := by decide +kernel
theorem compare_ints (a b c d : Int) (h1 : a < b ↔ c < d) (h2 : a = b ↔ c = d) : compare a b = compare c d := by
 simp only [compare, compareOfLessAndEq, h1, h2]
theorem deg_order_nat (a b : Nat) (h0 : a < 256) (h1 : b < 256) : FloatKind.f32.format.order (deg (200 + (a : Int))) (deg (200 + (b : Int))) = some (compare (a : Int) (b : Int)) := by
 show Ieee.Datum.order (FloatKind.f32.format.read _) (FloatKind.f32.format.read _) = _
 have ha := deg_read_all ⟨a, h0⟩
 have hb := deg_read_all ⟨b, h1⟩
 dsimp only at ha hb
 rw [ha, hb]
 split <;> split
 all_goals
  simp only [Ieee.Datum.order, Ieee.signed, Nat.shiftLeft_eq, show ((-16 : Int) - min (-16) (-16)).toNat = 0 by decide, show ((-15 : Int) - min (-15) (-15)).toNat = 0 by decide, show ((-16 : Int) - min (-16) (-15)).toNat = 0 by decide, show ((-15 : Int) - min (-16) (-15)).toNat = 1 by decide, show ((-16 : Int) - min (-15) (-16)).toNat = 0 by decide, show ((-15 : Int) - min (-15) (-16)).toNat = 1 by decide]
  congr 1
  apply compare_ints
  all_goals
   simp
   try omega

end Go.Proofs.Ytanmcbbnnjamoaa

namespace Go.Proofs.Ytanmcbbnnjamoaa
open Go.RowKit

def esA : List (Rat × Int) := [(((250 : Int) : Rat), 1), (((290 : Int) : Rat), 10)]
def lsA : List (Int × Nat) := [(0, 1132396544), (100, 1133740032), (1000, 1132396544)]
def jsA : List (Int × Int) := [(0, 3), (0, 3), (0, 4)]
theorem awake_u1 : usedVal esA 200 lsA 0 200 = 2000 ∧ usedErr esA 200 lsA 0 200 = 0 := by decide +kernel
theorem awake_u2 : usedVal esA 200 lsA 100 1000 = 9000 ∧ usedErr esA 200 lsA 100 1000 = 0 := by decide +kernel
theorem awake_b : boundN jsA 2 = 5 ∧ (boundL jsA 2).length = 3 ∧ jobsErr jsA 2 = 0 := by decide +kernel

theorem szA : ∀ i, i < esA.length → szR (esA.getD i (0, 0)).1 274877906944 := by
 intro i hi
 have h1 : ∀ n d : Int, i64R n → i64R d → szR (fracQ n d) 274877906944 := fun n d hn hd => by
  have := fracQ_szR n d hn.1 hn.2 hd.1 hd.2
  exact ⟨Nat.le_trans this.1 (by omega), Nat.le_trans this.2 (by omega)⟩
 match i, hi with
 | 0, _ => exact h1 250 0 (by unfold i64R; omega) (by unfold i64R; omega)
 | 1, _ => exact h1 290 0 (by unfold i64R; omega) (by unfold i64R; omega)

theorem entsOf_two {R : World → Value → Rat → Prop} (w : World) (v0 v1 v2 u0 u1 u2 : Value) (r s : Int) (q p : Rat) (T : TypeId)
  (h : R (w.alloc (.cells #[v0, v1, v2, .int .i64 r, u0, u1, u2, .int .i64 s] T)) (.agg #[v0, v1, v2]) q) (k : R (w.alloc (.cells #[v0, v1, v2, .int .i64 r, u0, u1, u2, .int .i64 s] T)) (.agg #[u0, u1, u2]) p) :
  EntsOf R (w.alloc (.cells #[v0, v1, v2, .int .i64 r, u0, u1, u2, .int .i64 s] T)) (.slice (some ⟨w.heap.size, 0, none⟩) 2 2) [(q, r), (p, s)] := by
 refine ⟨_, _, rfl, fun _ => ⟨w.heap.size, 0, rfl, by simp, fun i hi => ?_⟩⟩
 have hN := blk_new w #[v0, v1, v2, .int .i64 r, u0, u1, u2, .int .i64 s] T
 match i, hi with
 | 0, _ => exact ⟨v0, v1, v2, blk_cell hN 0 _ rfl, blk_cell hN 1 _ rfl, blk_cell hN 2 _ rfl, blk_cell hN 3 _ rfl, h⟩
 | 1, _ => exact ⟨u0, u1, u2, blk_cell hN 4 _ rfl, blk_cell hN 5 _ rfl, blk_cell hN 6 _ rfl, blk_cell hN 7 _ rfl, k⟩
theorem logOf_three (w : World) (t0 t1 t2 : Int) (b0 b1 b2 : Nat) (T : TypeId) :
  LogOf (w.alloc (.cells #[.int .i64 t0, .float .f32 b0, .int .i64 t1, .float .f32 b1, .int .i64 t2, .float .f32 b2] T)) (.slice (some ⟨w.heap.size, 0, none⟩) 3 3) [(t0, b0), (t1, b1), (t2, b2)] := by
 refine ⟨_, _, rfl, fun _ => ⟨w.heap.size, 0, rfl, by simp, fun i hi => ?_⟩⟩
 have hN := blk_new w #[.int .i64 t0, .float .f32 b0, .int .i64 t1, .float .f32 b1, .int .i64 t2, .float .f32 b2] T
 match i, hi with
 | 0, _ => exact ⟨blk_cell hN 0 _ rfl, blk_cell hN 1 _ rfl⟩
 | 1, _ => exact ⟨blk_cell hN 2 _ rfl, blk_cell hN 3 _ rfl⟩
 | 2, _ => exact ⟨blk_cell hN 4 _ rfl, blk_cell hN 5 _ rfl⟩
theorem pairsOf_three (w : World) (t0 t1 t2 b0 b1 b2 : Int) (T : TypeId) :
  PairsOf (w.alloc (.cells #[.int .i64 t0, .int .i64 b0, .int .i64 t1, .int .i64 b1, .int .i64 t2, .int .i64 b2] T)) (.slice (some ⟨w.heap.size, 0, none⟩) 3 3) [(t0, b0), (t1, b1), (t2, b2)] := by
 refine ⟨_, _, rfl, fun _ => ⟨w.heap.size, 0, rfl, by simp, fun i hi => ?_⟩⟩
 have hN := blk_new w #[.int .i64 t0, .int .i64 b0, .int .i64 t1, .int .i64 b1, .int .i64 t2, .int .i64 b2] T
 match i, hi with
 | 0, _ => exact ⟨blk_cell hN 0 _ rfl, blk_cell hN 1 _ rfl⟩
 | 1, _ => exact ⟨blk_cell hN 2 _ rfl, blk_cell hN 3 _ rfl⟩
 | 2, _ => exact ⟨blk_cell hN 4 _ rfl, blk_cell hN 5 _ rfl⟩

set_option maxRecDepth 100000 in
set_option maxHeartbeats 4000000 in
theorem awake_any (w : World) : Calls Try.prog 5 #[] w (RetBool true w) := by
 go_enter Try.func5, Try.ntmps5
 go_wp2_with fail
 refine (int_any 250 _ (by omega) (by omega)).mono ?_
 rintro e w1 ⟨v1, rfl, hv1, hb1⟩
 obtain ⟨q1, Hq1⟩ : ∃ q1 : Rat, Hid (((250 : Int) : Rat) = q1) := ⟨_, rfl⟩
 rw [Hq1.out] at hv1
 obtain ⟨a1, c1, a2, c2, rfl, _, _⟩ := hv1.opened
 have Hv1 := Lib.hid hv1
 clear hv1
 go_wp2_with fail
 refine (int_any 290 _ (by omega) (by omega)).mono ?_
 rintro e w2 ⟨v2, rfl, hv2, hb2⟩
 obtain ⟨q2, Hq2⟩ : ∃ q2 : Rat, Hid (((290 : Int) : Rat) = q2) := ⟨_, rfl⟩
 rw [Hq2.out] at hv2
 obtain ⟨a3, c3, a4, c4, rfl, _, _⟩ := hv2.opened
 have hv1' := Hv1.out.below hb2
 have hal := (Below.refl w2.heap.size w2).alloc (Nat.le_refl _) (.cells #[.bool (decide (q1.num < 0)), .slice a1 (dig b64 q1.num.natAbs).length c1, .slice a2 (dig b64 (dn q1.den)).length c2, .int .i64 1, .bool (decide (q2.num < 0)), .slice a3 (dig b64 q2.num.natAbs).length c3, .slice a4 (dig b64 (dn q2.den)).length c4, .int .i64 10] 63)
 have HEs : Hid ([(q1, 1), (q2, 10)] = esA) := by show _ = esA; rw [← Hq1.out, ← Hq2.out]; rfl
 have HE0 := entsOf_two w2 _ _ _ _ _ _ 1 10 q1 q2 63 (hv1'.below hal) (hv2.below hal)
 rw [HEs.out] at HE0
 have HE := Lib.hid HE0
 have hx2 := ext_trans hb1 (ext_trans hb2 hal)
 clear HE0 hv1' hv2 Hv1 HEs Hq1 Hq2
 have hlog := logOf_three (w2.alloc (.cells #[.bool (decide (q1.num < 0)), .slice a1 (dig b64 q1.num.natAbs).length c1, .slice a2 (dig b64 (dn q1.den)).length c2, .int .i64 1, .bool (decide (q2.num < 0)), .slice a3 (dig b64 q2.num.natAbs).length c3, .slice a4 (dig b64 (dn q2.den)).length c4, .int .i64 10] 63)) 0 100 1000 1132396544 1133740032 1132396544 36
 rw [World.size_alloc] at hlog
 have hal2 := (Below.refl w2.heap.size w2).alloc (Nat.le_refl _) (.cells #[.bool (decide (q1.num < 0)), .slice a1 (dig b64 q1.num.natAbs).length c1, .slice a2 (dig b64 (dn q1.den)).length c2, .int .i64 1, .bool (decide (q2.num < 0)), .slice a3 (dig b64 q2.num.natAbs).length c3, .slice a4 (dig b64 (dn q2.den)).length c4, .int .i64 10] 63)
 have HL := Lib.hid hlog
 clear hlog hal hal2 hb1 hb2
 go_wp2_with fail
 refine (Used_any esA 200 lsA 0 200 _ _ _ (HE.out.below IsRat.belowAll ((Below.refl _ _).alloc (Nat.le_refl _) _)) HL.out szA).mono ?_
 rintro e w3 ⟨rfl, hb3⟩
 rw [awake_u1.1, awake_u1.2]
 have hx3 := ext_trans (ext_trans hx2 ((Below.refl _ _).alloc (Nat.le_refl _) _)) hb3
 go_wp2_with fail
 refine (Used_any esA 200 lsA 100 1000 _ _ _ ((HE.out.below IsRat.belowAll ((Below.refl _ _).alloc (Nat.le_refl _) _)).below IsRat.belowAll hb3) (HL.out.below hb3) szA).mono ?_
 rintro e w4 ⟨rfl, hb4⟩
 rw [awake_u2.1, awake_u2.2]
 have hx4 := ext_trans hx3 hb4
 have HJ := Lib.hid (pairsOf_three w4 0 0 0 3 3 4 68)
 clear hx2 hx3 hb3 hb4
 go_wp2_with fail
 refine (bound_any jsA 2 _ _ HJ.out).mono ?_
 rintro e w5 ⟨v, rfl, hv, hb5⟩
 rw [awake_b.1, awake_b.2.2]
 obtain ⟨av, cv, rfl, _⟩ := hv.opened
 rw [awake_b.2.1]
 have hx5 := ext_trans (ext_trans hx4 ((Below.refl _ _).alloc (Nat.le_refl _) _)) hb5
 clear hv hb5 hx4
 go_wp2_with fail
 go_ret
 exact ⟨rfl, hx5⟩

end Go.Proofs.Ytanmcbbnnjamoaa

namespace Go.Proofs.Ytanmcbbnnjamoaa
open Go.RowKit

def rdCells : List (Int × Nat) → List Value
 | [] => []
 | r :: l => .int .i64 r.1 :: .float .f32 r.2 :: rdCells l
theorem rdCells_append (a b : List (Int × Nat)) : rdCells (a ++ b) = rdCells a ++ rdCells b := by
 induction a with
 | nil => rfl
 | cons r a ih => simp [rdCells, ih]
theorem rdCells_take (ls : List (Int × Nat)) (i : Nat) (hi : i < ls.length) : rdCells (ls.take (i + 1)) = rdCells (ls.take i) ++ [.int .i64 (ls.getD i (0, 0)).1, .float .f32 (ls.getD i (0, 0)).2] := by
 rw [List.take_add_one, rdCells_append]
 simp [hi, rdCells]
theorem rdCells_get (ls : List (Int × Nat)) : ∀ i, i < ls.length → (rdCells ls)[i * 2]? = some (.int .i64 (ls.getD i (0, 0)).1) ∧ (rdCells ls)[i * 2 + 1]? = some (.float .f32 (ls.getD i (0, 0)).2) := by
 induction ls with
 | nil => intro i hi; simp at hi
 | cons r l ih =>
  intro i hi
  cases i with
  | zero => simp [rdCells]
  | succ i =>
   have := ih i (by simpa using hi)
   simpa [rdCells, Nat.succ_mul] using this
theorem LogOf.ofRow {w : World} {base : Nat} {e : TypeId} {v : Value} {ls : List (Int × Nat)} (h : LRow w base e 2 v ls.length (rdCells ls)) : LogOf w v ls := by
 rcases Nat.eq_zero_or_pos ls.length with h0 | hp
 ·
  rcases h.1.2 with ⟨rfl, _⟩ | ⟨g, cap, cur, rfl, _⟩
  ·
   exact ⟨none, 0, by rw [h0], fun h => absurd h (by omega)⟩
  ·
   exact ⟨_, _, rfl, fun h => absurd h (by omega)⟩
 ·
  obtain ⟨g, cap, rfl⟩ := ownsRow_some h.1 hp
  have hc : ∀ j u, (rdCells ls)[j]? = some u → w.cell? ((⟨g, 0, none⟩ : Addr).add j) = some u := h.1.cells (g := g) rfl
  have hlt : g < w.heap.size := (h.lt rfl).1
  refine ⟨_, _, rfl, fun _ => ⟨g, 0, rfl, hlt, fun i hi => ?_⟩⟩
  obtain ⟨h0, h1⟩ := rdCells_get ls i hi
  have ea : ∀ j, (⟨g, 0, none⟩ : Addr).add j = ⟨g, 0 + j, none⟩ := fun j => by unfold Addr.add; split <;> simp_all
  refine ⟨?_, ?_⟩
  ·
   rw [← ea]; exact hc _ _ h0
  ·
   rw [show 0 + i * 2 + 1 = 0 + (i * 2 + 1) by omega, ← ea]; exact hc _ _ h1
theorem cell_new2 (w : World) (a b : Value) (t : TypeId) : ∀ j u, [a, b][j]? = some u → (w.alloc (.cells #[a, b] t)).cell? ((⟨w.heap.size, 0, none⟩ : Addr).add j) = some u := by
 intro j u hj
 match j, hj with
 | 0, hj => simp at hj; subst hj; simp [Addr.add]
 | 1, hj => simp at hj; subst hj; simp [Addr.add]
 | j + 2, hj => simp at hj
theorem lawsE_get (ts : List (Int × Int × Int)) (i : Nat) (hi : i < ts.length) : (lawsE ts).getD i (0, 0) = (fracQ (ts.getD i (0, 0, 0)).1 (ts.getD i (0, 0, 0)).2.1, (ts.getD i (0, 0, 0)).2.2) := by
 simp [lawsE, hi]
theorem lawsE_szR {ts : List (Int × Int × Int)} (hr : ∀ i, i < ts.length → i64R (ts.getD i (0, 0, 0)).1 ∧ i64R (ts.getD i (0, 0, 0)).2.1) : ∀ i, i < (lawsE ts).length → szR ((lawsE ts).getD i (0, 0)).1 274877906944 := by
 intro i hi
 have hi' : i < ts.length := by simpa [lawsE] using hi
 rw [lawsE_get ts i hi']
 obtain ⟨hn, hd⟩ := hr i hi'
 have := fracQ_szR _ _ hn.1 hn.2 hd.1 hd.2
 exact ⟨Nat.le_trans this.1 (by omega), Nat.le_trans this.2 (by omega)⟩
end Go.Proofs.Ytanmcbbnnjamoaa

namespace Go.Proofs.Ytanmcbbnnjamoaa
open Go.RowKit

theorem LRow.lit {w : World} {base : Nat} {e : TypeId} {size : Nat} (hb : base ≤ w.heap.size) (cs : Array Value) (n : Nat) (hm : n ≤ maxLen) (hs : cs.size = n * size) (hd : ∀ u ∈ cs.toList, noDig u) :
  LRow (w.alloc (.cells cs e)) base e size (.slice (some ⟨w.heap.size, 0, none⟩) n n) n cs.toList := by
 refine ⟨⟨by simpa using hs, .inr ⟨w.heap.size, n, cs, rfl, hb, heap_alloc_new w _, Nat.le_refl _, hm, hs, List.take_of_length_le (by rw [Array.length_toList, hs]; exact Nat.le_refl _)⟩⟩, fun g hg => ?_⟩
 obtain rfl : w.heap.size = g := by simpa [Value.ownBlock] using hg
 exact NoDig.of_block (heap_alloc_new w _) hd

end Go.Proofs.Ytanmcbbnnjamoaa

namespace Go.Proofs.Ytanmcbbnnjamoaa
open Go.RowKit

theorem deg_add (n : Int) (h0 : 0 ≤ n) (h1 : n ≤ 255) : floatBits .add .f32 (deg 200) (deg n) = some (deg (200 + n)) := by
 obtain ⟨m, rfl⟩ : ∃ m : Nat, n = m := ⟨n.toNat, by omega⟩
 exact deg_add_all ⟨m, by omega⟩
theorem deg_sub (a c : Int) (h0 : 200 ≤ a) (h1 : a ≤ 455) (h2 : 0 ≤ c) (h3 : c < 64) : floatBits .sub .f32 (deg a) (deg c) = some (deg (a - c)) := by
 obtain ⟨m, rfl⟩ : ∃ m : Nat, a = 200 + m := ⟨(a - 200).toNat, by omega⟩
 obtain ⟨k, rfl⟩ : ∃ k : Nat, c = k := ⟨c.toNat, by omega⟩
 exact deg_sub_nat m k (by omega) (by omega)
theorem deg_ok (n : Int) (h0 : 100 ≤ n) (h1 : n < 500) : tempOk (deg n) = true ∧ tempQ (deg n) = (n : Rat) := by
 obtain ⟨m, rfl⟩ : ∃ m : Nat, n = 100 + m := ⟨(n - 100).toNat, by omega⟩
 exact deg_ok_all ⟨m, by omega⟩
theorem deg_order (a b : Int) (h0 : 200 ≤ a) (h1 : a ≤ 455) (h2 : 200 ≤ b) (h3 : b ≤ 455) : FloatKind.f32.format.order (deg a) (deg b) = some (compare a b) := by
 obtain ⟨m, rfl⟩ : ∃ m : Nat, a = 200 + m := ⟨(a - 200).toNat, by omega⟩
 obtain ⟨k, rfl⟩ : ∃ k : Nat, b = 200 + k := ⟨(b - 200).toNat, by omega⟩
 rw [deg_order_nat m k (by omega) (by omega)]
 congr 1
 exact compare_ints _ _ _ _ (by omega) (by omega)
theorem run_deg_max {P : Program} (w : World) (ts : Array TypeId) (t : TypeId) (a b : Int) (h0 : 200 ≤ a) (h1 : a ≤ 455) (h2 : 200 ≤ b) (h3 : b ≤ 455) :
  (Builtin.max_ ts t #[.float .f32 (deg a), .float .f32 (deg b)]).run P w = .ok (.float .f32 (deg (max a b))) w := by
 have h := deg_order a b h0 h1 h2 h3
 by_cases c1 : a < b
 ·
  have e : max a b = b := by omega
  rw [e]
  simp [Builtin.max_, Builtin.max2, h, compare, compareOfLessAndEq, c1]
 ·
  by_cases c2 : a = b
  ·
   subst c2
   rw [show max a a = a by omega]
   simp [Builtin.max_, Builtin.max2, h, compare, compareOfLessAndEq]
  ·
   have e : max a b = a := by omega
   rw [e]
   simp [Builtin.max_, Builtin.max2, h, compare, compareOfLessAndEq, c1, c2]

/-! ### The table -/
def tsK : List (Int × Int × Int) := [(0, 0, 0), (250, 0, 1), (290, 0, 10), (350, 0, 100)]
def esK : List (Rat × Int) := lawsE tsK
def rateK (n : Int) : Int := if 350 ≤ n then 100 else if 290 ≤ n then 10 else if 250 ≤ n then 1 else 0
theorem cmpR_ints (a b : Int) : cmpR (a : Rat) (b : Rat) ≤ 0 ↔ a ≤ b := by
 unfold cmpR
 simp only [Rat.intCast_lt_intCast]
 split
 ·
  omega
 ·
  split <;> omega
theorem esK_is : esK = [(((0 : Int) : Rat), 0), (((250 : Int) : Rat), 1), (((290 : Int) : Rat), 10), (((350 : Int) : Rat), 100)] := rfl
theorem rateUp_K (n : Int) : rateUp esK (n : Rat) = rateK n := by
 rw [esK_is]
 unfold rateUp rateK
 simp only [List.foldl_cons, List.foldl_nil, cmpR_ints]
 repeat' split
 all_goals first | rfl | omega
theorem tabK : tabErr esK = 0 := by decide +kernel
theorem hotK : hotI esK = 100 := by decide +kernel
theorem rateK_mono {a b : Int} (h : a ≤ b) : rateK a ≤ rateK b := by
 unfold rateK
 (repeat' split) <;> omega
theorem rateK_range (a : Int) : 0 ≤ rateK a ∧ rateK a ≤ 100 := by
 unfold rateK
 (repeat' split) <;> omega
theorem szK : ∀ i, i < esK.length → szR (esK.getD i (0, 0)).1 274877906944 := lawsE_szR (ts := tsK) (fun i hi => by
 match i, hi with
 | 0, _ => exact ⟨⟨by decide, by decide⟩, by decide, by decide⟩
 | 1, _ => exact ⟨⟨by decide, by decide⟩, by decide, by decide⟩
 | 2, _ => exact ⟨⟨by decide, by decide⟩, by decide, by decide⟩
 | 3, _ => exact ⟨⟨by decide, by decide⟩, by decide, by decide⟩)

/-! ### The log -/
def wT (ps : List (Int × Int)) : Nat → Int
 | 0 => 0
 | i + 1 => wT ps i + (1 + (ps.getD i (0, 0)).1 % 16)
def tmpI (ps : List (Int × Int)) (i : Nat) : Int := 200 + (ps.getD i (0, 0)).2
def wLog (ps : List (Int × Int)) : List (Int × Nat) := (List.range ps.length).map fun i => (wT ps (i + 1), deg (tmpI ps i))
theorem wLog_length (ps : List (Int × Int)) : (wLog ps).length = ps.length := by simp [wLog]
theorem wLog_get (ps : List (Int × Int)) (i : Nat) (hi : i < ps.length) : (wLog ps).getD i (0, 0) = (wT ps (i + 1), deg (tmpI ps i)) := by simp [wLog, List.getD, hi]
theorem wT_range (ps : List (Int × Int)) : ∀ i, 0 ≤ wT ps i ∧ wT ps i ≤ 16 * i
 | 0 => by simp [wT]
 | i + 1 => by have := wT_range ps i; simp only [wT]; omega
theorem wLast (ps : List (Int × Int)) (k : Nat) (hk : k ≤ ps.length) : lastT (wLog ps) k = wT ps k := by
 unfold lastT
 split
 ·
  rename_i h; subst h; rfl
 ·
  rw [wLog_get ps (k - 1) (by omega), show k - 1 + 1 = k by omega]
theorem wT_step (ps : List (Int × Int)) (k : Nat) : wT ps k + 1 ≤ wT ps (k + 1) := by simp only [wT]; omega
theorem wAsc (ps : List (Int × Int)) : ∀ k, k < (wLog ps).length → lastT (wLog ps) k ≤ ((wLog ps).getD k (0, 0)).1 := fun k hk => by
 rw [wLog_length] at hk
 rw [wLast ps k (by omega), wLog_get ps k hk]
 have := wT_step ps k
 dsimp only
 omega
def bytes2 (ps : List (Int × Int)) : Prop := ∀ i, i < ps.length → 0 ≤ (ps.getD i (0, 0)).2 ∧ (ps.getD i (0, 0)).2 ≤ 255
theorem firstErr_none {f : Nat → Int} : ∀ {n : Nat}, (∀ i, i < n → f i = 0) → firstErr f n = 0
 | 0, _ => rfl
 | n + 1, h => by
  unfold firstErr
  rw [if_pos (firstErr_none fun i hi => h i (by omega))]
  exact h n (by omega)
theorem wLog_ok {ps : List (Int × Int)} (hb : bytes2 ps) (hl : ps.length ≤ 12) : logErr (wLog ps) = 0 := by
 unfold logErr
 rw [if_neg (by rw [wLog_length]; omega)]
 refine firstErr_none fun i hi => ?_
 rw [wLog_length] at hi
 unfold rdErr
 rw [wLog_get ps i hi]
 have h1 := wT_range ps (i + 1)
 have h2 := hb i hi
 have h3 := deg_ok (tmpI ps i) (by unfold tmpI; omega) (by unfold tmpI; omega)
 have h4 : timeB (wT ps (i + 1)) = true := by unfold timeB; rw [decide_eq_true (by omega), decide_eq_true (by omega)]; rfl
 dsimp only
 rw [if_neg (by rw [h4, h3.1]; simp), if_neg]
 rintro ⟨h5, h6⟩
 rw [wLog_get ps (i - 1) (by omega), show i - 1 + 1 = i by omega] at h6
 have := wT_step ps i
 dsimp only at h6
 omega

/-! ### The true temperatures -/
def wTemp (ps : List (Int × Int)) (cold gap s : Int) : Nat → Int
 | 0 => 200 + cold
 | k + 1 => if 0 < k ∧ wT ps k ≤ s ∧ s < wT ps (k + 1) ∧ wT ps (k + 1) - wT ps k ≤ gap then max (tmpI ps (k - 1)) (tmpI ps k) - cold % 64 else wTemp ps cold gap s k
theorem wTemp_range {ps : List (Int × Int)} {cold gap s : Int} (hb : bytes2 ps) (h0 : 0 ≤ cold) (h1 : cold ≤ 255) : ∀ k, k ≤ ps.length → 137 ≤ wTemp ps cold gap s k ∧ wTemp ps cold gap s k ≤ 455
 | 0, _ => by simp only [wTemp]; omega
 | k + 1, hk => by
  have ih := wTemp_range (gap := gap) (s := s) hb h0 h1 k (by omega)
  simp only [wTemp]
  split
  ·
   have a := hb k (by omega)
   have b := hb (k - 1) (by omega)
   unfold tmpI
   omega
  ·
   exact ih
theorem wTemp_rate {ps : List (Int × Int)} {cold gap s : Int} (hb : bytes2 ps) (h0 : 0 ≤ cold) : ∀ k, k ≤ ps.length → rateK (wTemp ps cold gap s k) ≤ atS esK gap (wLog ps) s k
 | 0, _ => by
  have := rateK_range (wTemp ps cold gap s 0)
  show _ ≤ hotI esK
  rw [hotK]
  omega
 | k + 1, hk => by
  have ih := wTemp_rate (cold := cold) (gap := gap) (s := s) hb h0 k (by omega)
  have hr := rateK_range (wTemp ps cold gap s k)
  simp only [wTemp, atS]
  rw [wLast ps k (by omega), wLog_get ps k (by omega)]
  dsimp only
  by_cases c1 : wT ps k ≤ s ∧ s < wT ps (k + 1)
  ·
   rw [if_pos c1]
   unfold rateI
   rw [wLog_get ps k (by omega)]
   by_cases c2 : 0 < k
   ·
    rw [wLog_get ps (k - 1) (by omega), show k - 1 + 1 = k by omega]
    dsimp only
    by_cases c3 : wT ps (k + 1) - wT ps k ≤ gap
    ·
     rw [if_pos ⟨c2, c1.1, c1.2, c3⟩, if_pos ⟨c2, c3⟩]
     have a := hb k (by omega)
     have b := hb (k - 1) (by omega)
     rw [(deg_ok (tmpI ps k) (by unfold tmpI; omega) (by unfold tmpI; omega)).2, (deg_ok (tmpI ps (k - 1)) (by unfold tmpI; omega) (by unfold tmpI; omega)).2, rateUp_K, rateUp_K]
     rcases Int.le_total (tmpI ps (k - 1)) (tmpI ps k) with h | h
     ·
      have := rateK_mono (show max (tmpI ps (k - 1)) (tmpI ps k) - cold % 64 ≤ tmpI ps k by omega)
      omega
     ·
      have := rateK_mono (show max (tmpI ps (k - 1)) (tmpI ps k) - cold % 64 ≤ tmpI ps (k - 1) by omega)
      omega
    ·
     rw [if_neg (fun h => c3 h.2.2.2), if_neg (fun h => c3 h.2), hotK]
     omega
   ·
    rw [if_neg (fun h => c2 h.1), if_neg (fun h => c2 h.1), hotK]
    omega
  ·
   rw [if_neg c1, if_neg (fun h => c1 ⟨h.2.1, h.2.2.1⟩)]
   exact ih

/-! ### What the law finds -/
theorem w_good {ps : List (Int × Int)} (hb : bytes2 ps) (hl : ps.length ≤ 12) {gap f t : Int} (hg : 1 ≤ gap) (hg2 : gap ≤ 20) (hf : 0 ≤ f) (h : f ≤ t) (ht : t ≤ 1000) : UsedIs esK gap (wLog ps) f t (usedAll esK gap (wLog ps) f t) 0 := by
 refine used_good tabK (by unfold gapB; rw [decide_eq_true (by omega), decide_eq_true (by omega)]; rfl) (wLog_ok hb hl) ?_ ?_ (by omega)
 ·
  unfold timeB; rw [decide_eq_true (by omega), decide_eq_true (by omega)]; rfl
 ·
  unfold timeB; rw [decide_eq_true (by omega), decide_eq_true (by omega)]; rfl
theorem w_lost {ps : List (Int × Int)} {cold gap f : Int} (hb : bytes2 ps) (h0 : 0 ≤ cold) (hf : 0 ≤ f) (n : Nat) (hn : f + n ≤ 1000) :
  sumG (fun s => rateK (wTemp ps cold gap s ps.length)) f n ≤ usedAll esK gap (wLog ps) f (f + n) :=
 used_ge hf (wAsc ps) (fun s => by have := wTemp_rate (cold := cold) (gap := gap) (s := s) hb h0 ps.length (Nat.le_refl _); rw [wLog_length]; exact this) n (by omega)
theorem w_sum_range (ps : List (Int × Int)) (cold gap f : Int) : ∀ n : Nat, 0 ≤ sumG (fun s => rateK (wTemp ps cold gap s ps.length)) f n ∧ sumG (fun s => rateK (wTemp ps cold gap s ps.length)) f n ≤ 100 * n
 | 0 => by simp [sumG]
 | n + 1 => by
  have := w_sum_range ps cold gap f n
  have := rateK_range (wTemp ps cold gap (f + n) ps.length)
  simp only [sumG]
  omega
def wMore (ps : List (Int × Int)) (cold : Int) (i : Nat) : List (Int × Nat) := insL (wLog ps) i (wT ps i + 1, deg (max (tmpI ps (i - 1)) (tmpI ps i) - cold % 64))
theorem w_more {ps : List (Int × Int)} (hb : bytes2 ps) (hl : ps.length ≤ 12) {cold gap f t : Int} (h0 : 0 ≤ cold) (hg : 1 ≤ gap) (hg2 : gap ≤ 20) (hf : 0 ≤ f) (h : f ≤ t) (ht : t ≤ 1000) {i : Nat} (hi0 : 0 < i) (hi : i < ps.length)
  (h2 : 2 ≤ wT ps (i + 1) - wT ps i) (h3 : wT ps (i + 1) - wT ps i ≤ gap) :
  UsedIs esK gap (wMore ps cold i) f t (usedAll esK gap (wMore ps cold i) f t) 0 ∧ usedAll esK gap (wMore ps cold i) f t ≤ usedAll esK gap (wLog ps) f t := by
 have hiL : i ≤ (wLog ps).length := by rw [wLog_length]; omega
 have a := hb i hi
 have b := hb (i - 1) (by omega)
 have eA : tmpI ps i = 200 + (ps.getD i (0, 0)).2 := rfl
 have eB : tmpI ps (i - 1) = 200 + (ps.getD (i - 1) (0, 0)).2 := rfl
 have hT := deg_ok (max (tmpI ps (i - 1)) (tmpI ps i) - cold % 64) (by omega) (by omega)
 have g1 : (wLog ps).getD (i - 1) (0, 0) = (wT ps i, deg (tmpI ps (i - 1))) := by rw [wLog_get ps (i - 1) (by omega), show i - 1 + 1 = i by omega]
 have g2 := wLog_get ps i hi
 refine ⟨?_, ?_⟩
 ·
  refine used_good tabK (by unfold gapB; rw [decide_eq_true (by omega), decide_eq_true (by omega)]; rfl) ?_ ?_ ?_ (by omega)
  ·
   have hn : (wMore ps cold i).length = ps.length + 1 := by unfold wMore; rw [insL_length _ _ _ hiL, wLog_length]
   unfold logErr
   rw [if_neg (by omega), hn]
   refine firstErr_none fun k hk => ?_
   have hget := fun k => insL_get (wLog ps) i (wT ps i + 1, deg (max (tmpI ps (i - 1)) (tmpI ps i) - cold % 64)) hiL k
   have ok : ∀ m, m < ps.length → timeB (wT ps (m + 1)) = true ∧ tempOk (deg (tmpI ps m)) = true := fun m hm => by
    have h1 := wT_range ps (m + 1)
    have h2 := hb m hm
    exact ⟨by unfold timeB; rw [decide_eq_true (by omega), decide_eq_true (by omega)]; rfl, (deg_ok (tmpI ps m) (by unfold tmpI; omega) (by unfold tmpI; omega)).1⟩
   unfold rdErr
   show (if timeB ((wMore ps cold i).getD k (0, 0)).1 = false ∨ tempOk ((wMore ps cold i).getD k (0, 0)).2 = false then (1 : Int) else if 0 < k ∧ ((wMore ps cold i).getD k (0, 0)).1 ≤ ((wMore ps cold i).getD (k - 1) (0, 0)).1 then 7 else 0) = 0
   unfold wMore
   have e0 := hget k
   have e1 := hget (k - 1)
   by_cases c1 : k < i
   ·
    rw [if_pos c1, wLog_get ps k (by omega)] at e0
    rw [if_pos (by omega)] at e1
    rw [e0, e1]
    dsimp only
    rw [if_neg (by rw [(ok k (by omega)).1, (ok k (by omega)).2]; simp), if_neg]
    rintro ⟨h5, h6⟩
    rw [wLog_get ps (k - 1) (by omega), show k - 1 + 1 = k by omega] at h6
    have := wT_step ps k
    dsimp only at h6
    omega
   ·
    rw [if_neg c1] at e0
    by_cases c2 : k = i
    ·
     subst c2
     rw [if_pos rfl] at e0
     rw [if_pos (by omega), g1] at e1
     rw [e0, e1]
     have h1 := wT_range ps k
     dsimp only
     rw [if_neg (by rw [hT.1, show timeB (wT ps k + 1) = true by unfold timeB; rw [decide_eq_true (by omega), decide_eq_true (by omega)]; rfl]; simp), if_neg (by omega)]
    ·
     rw [if_neg c2, wLog_get ps (k - 1) (by omega)] at e0
     rw [if_neg (by omega)] at e1
     rw [e0, e1]
     dsimp only
     rw [if_neg (by rw [(ok (k - 1) (by omega)).1, (ok (k - 1) (by omega)).2]; simp), if_neg]
     rintro ⟨h5, h6⟩
     rw [show k - 1 + 1 = k by omega] at h6
     by_cases c3 : k - 1 = i
     ·
      rw [if_pos c3] at h6
      rw [show k = i + 1 by omega] at h6
      dsimp only at h6
      omega
     ·
      rw [if_neg c3, wLog_get ps (k - 1 - 1) (by omega), show k - 1 - 1 + 1 = k - 1 by omega] at h6
      have := wT_step ps (k - 1)
      rw [show k - 1 + 1 = k by omega] at this
      dsimp only at h6
      omega
  ·
   unfold timeB; rw [decide_eq_true (by omega), decide_eq_true (by omega)]; rfl
  ·
   unfold timeB; rw [decide_eq_true (by omega), decide_eq_true (by omega)]; rfl
 ·
  refine ins_all hi0 (by rw [wLog_length]; exact hi) ?_ ?_ ?_ ?_
  ·
   rw [g1]; dsimp only; omega
  ·
   rw [g2]; dsimp only; omega
  ·
   rw [g1, g2]; dsimp only; omega
  ·
   rw [g1, g2]
   dsimp only
   rw [hT.2, (deg_ok (tmpI ps i) (by omega) (by omega)).2, (deg_ok (tmpI ps (i - 1)) (by omega) (by omega)).2, rateUp_K, rateUp_K, rateUp_K]
   rcases Int.le_total (tmpI ps (i - 1)) (tmpI ps i) with h | h
   ·
    have := rateK_mono (show max (tmpI ps (i - 1)) (tmpI ps i) - cold % 64 ≤ tmpI ps i by omega)
    omega
   ·
    have := rateK_mono (show max (tmpI ps (i - 1)) (tmpI ps i) - cold % 64 ≤ tmpI ps (i - 1) by omega)
    omega

end Go.Proofs.Ytanmcbbnnjamoaa

namespace Go.Proofs.Ytanmcbbnnjamoaa
open Go.RowKit

def pairCells : List (Int × Int) → List Value
 | [] => []
 | r :: l => .int .i64 r.1 :: .int .i64 r.2 :: pairCells l
theorem pairCells_get (ls : List (Int × Int)) : ∀ i, i < ls.length → (pairCells ls)[i * 2]? = some (.int .i64 (ls.getD i (0, 0)).1) ∧ (pairCells ls)[i * 2 + 1]? = some (.int .i64 (ls.getD i (0, 0)).2) := by
 induction ls with
 | nil => intro i hi; simp at hi
 | cons r l ih =>
  intro i hi
  cases i with
  | zero => simp [pairCells]
  | succ i =>
   have := ih i (by simpa using hi)
   simpa [pairCells, Nat.succ_mul] using this
theorem PairsOf.ofRow {w : World} {base : Nat} {e : TypeId} {v : Value} {ls : List (Int × Int)} (h : LRow w base e 2 v ls.length (pairCells ls)) : PairsOf w v ls := by
 rcases Nat.eq_zero_or_pos ls.length with h0 | hp
 ·
  rcases h.1.2 with ⟨rfl, _⟩ | ⟨g, cap, cur, rfl, _⟩
  ·
   exact ⟨none, 0, by rw [h0], fun h => absurd h (by omega)⟩
  ·
   exact ⟨_, _, rfl, fun h => absurd h (by omega)⟩
 ·
  obtain ⟨g, cap, rfl⟩ := ownsRow_some h.1 hp
  have hc : ∀ j u, (pairCells ls)[j]? = some u → w.cell? ((⟨g, 0, none⟩ : Addr).add j) = some u := h.1.cells (g := g) rfl
  have hlt : g < w.heap.size := (h.lt rfl).1
  refine ⟨_, _, rfl, fun _ => ⟨g, 0, rfl, hlt, fun i hi => ?_⟩⟩
  obtain ⟨h0, h1⟩ := pairCells_get ls i hi
  have ea : ∀ j, (⟨g, 0, none⟩ : Addr).add j = ⟨g, 0 + j, none⟩ := fun j => by unfold Addr.add; split <;> simp_all
  refine ⟨?_, ?_⟩
  ·
   rw [← ea]; exact hc _ _ h0
  ·
   rw [show 0 + i * 2 + 1 = 0 + (i * 2 + 1) by omega, ← ea]; exact hc _ _ h1
end Go.Proofs.Ytanmcbbnnjamoaa

namespace Go.Proofs.Ytanmcbbnnjamoaa
open Go.RowKit

theorem PairsOf.nil (w : World) : PairsOf w (.slice none 0 0) [] := ⟨none, 0, rfl, fun h => absurd h (by simp)⟩

end Go.Proofs.Ytanmcbbnnjamoaa

namespace Go.Proofs.Ytanmcbbnnjamoaa
open Go.RowKit

def CapOk (v : Value) : Prop := ∃ a l c, v = .slice a l c ∧ l ≤ c ∧ c ≤ maxLen

end Go.Proofs.Ytanmcbbnnjamoaa

namespace Go.Proofs.Ytanmcbbnnjamoaa
open Go.RowKit

theorem capOk_row {w : World} {base : Nat} {e : TypeId} {size : Nat} {v : Value} {n : Nat} {xs : List Value} (h : LRow w base e size v n xs) : CapOk v := by
 rcases h.1.2 with ⟨rfl, rfl⟩ | ⟨g, cap, cur, rfl, _, _, h1, h2, _⟩
 ·
  exact ⟨_, _, _, rfl, Nat.le_refl _, by unfold maxLen; omega⟩
 ·
  exact ⟨_, _, _, rfl, h1, h2⟩
end Go.Proofs.Ytanmcbbnnjamoaa

namespace Go.Proofs.Ytanmcbbnnjamoaa
open Go.RowKit

def StepAt (w : World) (b o : Nat) (r : Int × Int) : Prop := w.cell? ⟨b, o, none⟩ = some (.int .u8 r.1) ∧ w.cell? ⟨b, o + 1, none⟩ = some (.int .u8 r.2)
def byteR (x : Int) : Prop := 0 ≤ x ∧ x ≤ 255
def StepsOf2 (w : World) (v : Value) (ps : List (Int × Int)) : Prop :=
 ∃ ao cap, v = .slice ao ps.length cap ∧ (0 < ps.length → ∃ b off, ao = some ⟨b, off, none⟩ ∧ b < w.heap.size ∧ ∀ i, i < ps.length → StepAt w b (off + i * 2) (ps.getD i (0, 0)) ∧ byteR (ps.getD i (0, 0)).1 ∧ byteR (ps.getD i (0, 0)).2)
theorem StepAt.below {w w' : World} {b o : Nat} {r : Int × Int} (h : StepAt w b o r) (hb : Below w.heap.size w w') (hl : b < w.heap.size) : StepAt w' b o r :=
 ⟨(hb.cell (p := ⟨b, o, none⟩) hl).trans h.1, (hb.cell (p := ⟨b, o + 1, none⟩) hl).trans h.2⟩
theorem StepsOf2.below {w w' : World} {v : Value} {ps : List (Int × Int)} (h : StepsOf2 w v ps) (hb : Below w.heap.size w w') : StepsOf2 w' v ps := by
 obtain ⟨ao, cap, rfl, h⟩ := h
 refine ⟨ao, cap, rfl, fun hl => ?_⟩
 obtain ⟨b, off, rfl, hlt, h⟩ := h hl
 exact ⟨b, off, rfl, Nat.lt_of_lt_of_le hlt hb.size, fun i hi => ⟨(h i hi).1.below hb hlt, (h i hi).2⟩⟩
theorem StepsOf2.bytes {w : World} {v : Value} {ps : List (Int × Int)} (h : StepsOf2 w v ps) : bytes2 ps := fun i hi => by
 obtain ⟨ao, cap, rfl, h⟩ := h
 obtain ⟨b, off, _, _, h⟩ := h (by omega)
 exact (h i hi).2.2

def RetKnown (w : World) (e : Ending) (w' : World) : Prop := ∃ va vb, e = .returned (.tuple #[va, vb]) ∧ EntsOf IsRat w' va esK ∧ Below w.heap.size w w'
theorem laws_four (w : World) (T : TypeId) :
  LawsOf (w.alloc (.cells #[.int .i64 0, .int .i64 0, .int .i64 0, .int .i64 250, .int .i64 0, .int .i64 1, .int .i64 290, .int .i64 0, .int .i64 10, .int .i64 350, .int .i64 0, .int .i64 100] T)) (.slice (some ⟨w.heap.size, 0, none⟩) 4 4) tsK := by
 have hN := blk_new w #[.int .i64 0, .int .i64 0, .int .i64 0, .int .i64 250, .int .i64 0, .int .i64 1, .int .i64 290, .int .i64 0, .int .i64 10, .int .i64 350, .int .i64 0, .int .i64 100] T
 refine ⟨_, _, rfl, fun _ => ⟨_, 0, rfl, by simp, fun i hi => ?_⟩⟩
 match i, hi with
 | 0, _ => exact ⟨blk_cell hN 0 _ rfl, blk_cell hN 1 _ rfl, blk_cell hN 2 _ rfl⟩
 | 1, _ => exact ⟨blk_cell hN 3 _ rfl, blk_cell hN 4 _ rfl, blk_cell hN 5 _ rfl⟩
 | 2, _ => exact ⟨blk_cell hN 6 _ rfl, blk_cell hN 7 _ rfl, blk_cell hN 8 _ rfl⟩
 | 3, _ => exact ⟨blk_cell hN 9 _ rfl, blk_cell hN 10 _ rfl, blk_cell hN 11 _ rfl⟩
theorem tsK_r : ∀ i, i < tsK.length → i64R (tsK.getD i (0, 0, 0)).1 ∧ i64R (tsK.getD i (0, 0, 0)).2.1 := fun i hi => by
 match i, hi with
 | 0, _ => exact ⟨⟨by decide, by decide⟩, by decide, by decide⟩
 | 1, _ => exact ⟨⟨by decide, by decide⟩, by decide, by decide⟩
 | 2, _ => exact ⟨⟨by decide, by decide⟩, by decide, by decide⟩
 | 3, _ => exact ⟨⟨by decide, by decide⟩, by decide, by decide⟩

set_option maxHeartbeats 1000000 in
theorem known_any (w : World) : Calls Try.prog 6 #[] w (RetKnown w) := by
 have HL := Lib.hid (laws_four w 75)
 have hal := (Below.refl w.heap.size w).alloc (Nat.le_refl _) (.cells #[.int .i64 0, .int .i64 0, .int .i64 0, .int .i64 250, .int .i64 0, .int .i64 1, .int .i64 290, .int .i64 0, .int .i64 10, .int .i64 350, .int .i64 0, .int .i64 100] 75)
 go_enter Try.func6, Try.ntmps6
 go_wp2_with fail
 refine (table_any tsK _ _ HL.out (by decide) tsK_r).mono ?_
 rintro e w1 ⟨va, vb, rfl, hA, hB, hb⟩
 obtain ⟨aa, ca, rfl, _⟩ := (show ∃ ao cap, va = .slice ao (lawsE tsK).length cap ∧ True by obtain ⟨a, b, h, _⟩ := hA; exact ⟨a, b, h, trivial⟩)
 obtain ⟨ab, cb, rfl, _⟩ := (show ∃ ao cap, vb = .slice ao (lawsE tsK).length cap ∧ True by obtain ⟨a, b, h, _⟩ := hB; exact ⟨a, b, h, trivial⟩)
 have HA := Lib.hid hA
 have hx := ext_trans hal hb
 clear hA hB hb hal
 go_wp2_with fail
 go_ret2
 exact ⟨_, _, rfl, HA.out, hx⟩

theorem info_reading : (Try.prog.info? 36).map (fun i => (i.zero, i.size, i.bytes)) = some (some (.agg #[.int .i64 0, .float .f32 0]), 2, 16) := by kernel_rfl
theorem zdR : ∀ u ∈ (Value.agg #[.int .i64 0, .float .f32 0]).cells.toList, noDig u := by
 intro u hu
 simp [Value.cells] at hu
 rcases hu with rfl | rfl
 ·
  exact noDig_i64 _
 ·
  exact noDig_f32 _
theorem run_add_f32 (n : Int) (r : Nat) (h : floatBits .add .f32 1128792064 (FloatKind.f32.nearest n) = some r) (w : World) : (binOp .add 34 (.float .f32 1128792064) (.float .f32 (floatOfInt .f32 n))).run Try.prog w = .ok (.float .f32 r) w := run_float_arith w .add 34 .f32 _ _ r h
theorem deg200 : deg 200 = 1128792064 := by decide +kernel
def RetLog (ps : List (Int × Int)) (w : World) (e : Ending) (w' : World) : Prop := ∃ v, e = .returned v ∧ LogOf w' v (wLog ps) ∧ CapOk v ∧ Below w.heap.size w w'

set_option maxRecDepth 100000 in
set_option maxHeartbeats 4000000 in
theorem logged_any (ps : List (Int × Int)) (vp : Value) (w : World) (hp : StepsOf2 w vp ps) (hl : ps.length ≤ 12) : Calls Try.prog 7 #[vp] w (RetLog ps w) := by
 have HP := Lib.hid hp
 obtain ⟨aop, capp, rfl, hP⟩ := hp
 obtain ⟨i0, hi0, hz0, hz1, hz2⟩ := info_parts info_reading
 have hzd := zdR
 have hsf := run_store_f32
 clear hP
 go_enter Try.func7, Try.ntmps7
 go_wp2_with fail
 go_loopw [3, 4, 9] (fun mv tv iv wr => ∃ (i : Nat), i ≤ ps.length ∧ iv = .int .i64 i ∧ tv = .int .i64 (wT ps i) ∧ LRow wr w.heap.size 36 2 mv i (rdCells ((wLog ps).take i)) ∧ Below w.heap.size w wr)
  (fun _ _ iv _ => ps.length - (intOf iv).toNat)
 case atStart => exact ⟨0, Nat.zero_le _, rfl, rfl, LRow.nil _ _ _ _, Below.refl _ _⟩
 case round =>
  obtain ⟨i, hi, rfl, rfl, hL, hbel⟩ := hrel
  by_cases hlt : i < ps.length
  ·
   obtain ⟨ao', cap', ea, hPE⟩ := HP.out
   simp only [Value.slice.injEq, true_and] at ea
   obtain ⟨rfl, rfl⟩ := ea
   obtain ⟨b, off, rfl, hbl, hPP⟩ := hPE (by omega)
   obtain ⟨hg, ⟨hx0, hx1⟩, ⟨hy0, hy1⟩⟩ := hPP i hlt
   obtain ⟨k0, k1⟩ := hg.below hbel hbl
   have hlt' : (i : Int) < ps.length := by omega
   have hge' : (0 : Int) ≤ i := by omega
   have hbl2 : b < wr.heap.size := Nat.lt_of_lt_of_le hbl hbel.size
   have Htk : Hid (rdCells ((wLog ps).take (i + 1)) = rdCells ((wLog ps).take i) ++ [.int .i64 ((wLog ps).getD i (0, 0)).1, .float .f32 ((wLog ps).getD i (0, 0)).2]) := rdCells_take _ i (by rw [wLog_length]; exact hlt)
   rw [wLog_get ps i hlt] at Htk
   unfold tmpI at Htk
   have Ht1 : Hid (wT ps (i + 1) = wT ps i + (1 + (ps.getD i (0, 0)).1 % 16)) := rfl
   rw [Ht1.out] at Htk
   have htr := wT_range ps i
   have hdm := deg_add (ps.getD i (0, 0)).2 hy0 hy1
   rw [deg200] at hdm
   have hq := run_add_f32 _ _ hdm
   clear hPP hPE hdm hg
   generalize wT ps i = T at *
   generalize (ps.getD i (0, 0)).1 = x at *
   generalize (ps.getD i (0, 0)).2 = y at *
   generalize deg (200 + y) = D at *
   have hx1' := (Below.refl wr.heap.size wr).alloc (Nat.le_refl _) (.cells #[.int .u8 x, .int .u8 y] 77)
   have hx2' := hx1'.alloc hx1'.size (.cells #[.int .i64 (T + (1 + x % 16)), .float .f32 D] 36)
   have hcn := cell_new2 (wr.alloc (.cells #[.int .u8 x, .int .u8 y] 77)) (.int .i64 (T + (1 + x % 16))) (.float .f32 D) 36
   rw [World.size_alloc] at hcn
   have HCN := Lib.hid hcn
   have HL2 := Lib.hid (hL.below hx2')
   clear hcn hL hx1'
   go_wp2_with (at_builtin; refine wpList_append_lrow _ rfl (.tmp 20) (.tmp 27) 29 rfl w.heap.size 36 i0 _ 2 16 Try.underlying29 hi0 hz0 hz1 hz2 rfl (by decide) hzd _ _ _ rfl HL2.out ⟨wr.heap.size + 1, 0, none⟩ 1 1 _ rfl rfl HCN.out (by simp [Value.oneCell']) (by intro u hu; simp at hu; rcases hu with rfl | rfl; exact noDig_i64 _; exact noDig_f32 _) (by omega) (by unfold maxLen; omega) (by omega) (by simp; have := hbel.size; omega) ?_)
   intro g cap' w3 hL3 hgr hat
   have hx3 : Below w.heap.size w w3 := (hbel.trans (hx2'.mono hbel.size)).grown hgr (by simp; have := hbel.size; omega) (ownBlock_base HL2.out.1)
   go_wp2_with fail
   exact ⟨⟨i + 1, by omega, by go_num, by rw [Ht1.out], by rw [Htk.out]; exact hL3, hx3⟩, meas_up hlt⟩
  ·
   obtain rfl : i = ps.length := by omega
   rw [← wLog_length ps, List.take_length] at hL
   have hP0 := LogOf.ofRow hL
   have hC := capOk_row hL
   have HA := Lib.hid hP0
   obtain ⟨aoa, capa, rfl, _⟩ := hP0
   clear hL
   go_wp2_with fail
   go_ret
   exact ⟨_, rfl, HA.out, hC, hbel⟩

end Go.Proofs.Ytanmcbbnnjamoaa
