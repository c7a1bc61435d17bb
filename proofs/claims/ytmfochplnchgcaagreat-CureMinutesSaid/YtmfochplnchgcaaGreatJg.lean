/- Part g of the lemmas and walks. -/
import Derived.Test.YtmfochplnchgcaaGreatJf

namespace Go.Proofs.YtmfochplnchgcaaGreat
open Go.RowKit

/-- An entry: from which temperature on, the least and the greatest rate. -/
abbrev Ent := Int × Rat × Rat
/-- Seven cells read as an entry. -/
def Ent7 (R : World → Value → Rat → Prop) (w : World) (b o : Nat) (e : Ent) : Prop :=
  ∃ x y : R3, w.cell? ⟨b, o, none⟩ = some (.int .i64 e.1) ∧ w.cell? ⟨b, o + 1, none⟩ = some (.bool x.b) ∧ w.cell? ⟨b, o + 2, none⟩ = some (.slice x.a x.n x.c) ∧ w.cell? ⟨b, o + 3, none⟩ = some (.slice x.d x.m x.e) ∧ w.cell? ⟨b, o + 4, none⟩ = some (.bool y.b) ∧ w.cell? ⟨b, o + 5, none⟩ = some (.slice y.a y.n y.c) ∧ w.cell? ⟨b, o + 6, none⟩ = some (.slice y.d y.m y.e) ∧ R w x.val e.2.1 ∧ R w y.val e.2.2
def TabOf (R : World → Value → Rat → Prop) (w : World) (v : Value) (es : List Ent) : Prop :=
  ∃ ao cap, v = .slice ao es.length cap ∧ (0 < es.length → ∃ b off, ao = some ⟨b, off, none⟩ ∧ b < w.heap.size ∧ ∀ i, i < es.length → Ent7 R w b (off + i * 7) (es.getD i (0, 0, 0)))
theorem Ent7.below {R : World → Value → Rat → Prop} (hR : ∀ w w' v q, R w v q → Below w.heap.size w w' → R w' v q) {w w' : World} {b o : Nat} {e : Ent} (h : Ent7 R w b o e) (hb : Below w.heap.size w w') (hl : b < w.heap.size) : Ent7 R w' b o e := by
  obtain ⟨x, y, h0, h1, h2, h3, h4, h5, h6, h7, h8⟩ := h
  have c : ∀ j v, w.cell? ⟨b, j, none⟩ = some v → w'.cell? ⟨b, j, none⟩ = some v := fun j v h => (hb.cell (p := ⟨b, j, none⟩) hl).trans h
  exact ⟨x, y, c _ _ h0, c _ _ h1, c _ _ h2, c _ _ h3, c _ _ h4, c _ _ h5, c _ _ h6, hR _ _ _ _ h7 hb, hR _ _ _ _ h8 hb⟩
theorem TabOf.below {R : World → Value → Rat → Prop} (hR : ∀ w w' v q, R w v q → Below w.heap.size w w' → R w' v q) {w w' : World} {v : Value} {es : List Ent} (h : TabOf R w v es) (hb : Below w.heap.size w w') : TabOf R w' v es := by
  obtain ⟨ao, cap, rfl, h⟩ := h
  refine ⟨ao, cap, rfl, fun hl => ?_⟩
  obtain ⟨b, off, rfl, hlt, h⟩ := h hl
  exact ⟨b, off, rfl, Nat.lt_of_lt_of_le hlt hb.size, fun i hi => (h i hi).below hR hb hlt⟩
/-- The values xs, seven by seven, read as the entries es. -/
def EntRow (R : World → Value → Rat → Prop) (w : World) (xs : List Value) (es : List Ent) : Prop :=
  xs.length = es.length * 7 ∧ ∀ j, j < es.length → ∃ x y : R3, xs[j * 7]? = some (.int .i64 (es.getD j (0, 0, 0)).1) ∧ xs[j * 7 + 1]? = some (.bool x.b) ∧ xs[j * 7 + 2]? = some (.slice x.a x.n x.c) ∧ xs[j * 7 + 3]? = some (.slice x.d x.m x.e) ∧ xs[j * 7 + 4]? = some (.bool y.b) ∧ xs[j * 7 + 5]? = some (.slice y.a y.n y.c) ∧ xs[j * 7 + 6]? = some (.slice y.d y.m y.e) ∧ R w x.val (es.getD j (0, 0, 0)).2.1 ∧ R w y.val (es.getD j (0, 0, 0)).2.2
theorem EntRow.mono {R : World → Value → Rat → Prop} {w w' : World} {xs : List Value} {es : List Ent} (h : EntRow R w xs es) (hr : ∀ v q, R w v q → R w' v q) : EntRow R w' xs es :=
  ⟨h.1, fun j hj => by obtain ⟨x, y, h0, h1, h2, h3, h4, h5, h6, h7, h8⟩ := h.2 j hj; exact ⟨x, y, h0, h1, h2, h3, h4, h5, h6, hr _ _ h7, hr _ _ h8⟩⟩
theorem EntRow.nil (R : World → Value → Rat → Prop) (w : World) : EntRow R w [] [] := ⟨rfl, fun j hj => absurd hj (by simp)⟩
theorem EntRow.snoc {R : World → Value → Rat → Prop} {w : World} {xs : List Value} {es : List Ent} (h : EntRow R w xs es) {f : Int} {x y : R3} {lo hi : Rat} (h1 : R w x.val lo) (h2 : R w y.val hi) :
    EntRow R w (xs ++ [.int .i64 f, .bool x.b, .slice x.a x.n x.c, .slice x.d x.m x.e, .bool y.b, .slice y.a y.n y.c, .slice y.d y.m y.e]) (es ++ [(f, lo, hi)]) := by
  obtain ⟨hl, h⟩ := h
  refine ⟨by simp [hl]; omega, fun j hj => ?_⟩
  rcases Nat.lt_or_ge j es.length with hj1 | hj1
  · obtain ⟨x', y', g0, g1, g2, g3, g4, g5, g6, g7, g8⟩ := h j hj1
    have e : ∀ k, k < 7 → (xs ++ [.int .i64 f, .bool x.b, .slice x.a x.n x.c, .slice x.d x.m x.e, .bool y.b, .slice y.a y.n y.c, .slice y.d y.m y.e])[j * 7 + k]? = xs[j * 7 + k]? := fun k hk => List.getElem?_append_left (by omega)
    have e2 : (es ++ [(f, lo, hi)]).getD j (0, 0, 0) = es.getD j (0, 0, 0) := by simp [List.getD, List.getElem?_append_left hj1]
    rw [e2]
    exact ⟨x', y', by rw [← g0]; exact e 0 (by omega), by rw [← g1]; exact e 1 (by omega), by rw [← g2]; exact e 2 (by omega), by rw [← g3]; exact e 3 (by omega), by rw [← g4]; exact e 4 (by omega), by rw [← g5]; exact e 5 (by omega), by rw [← g6]; exact e 6 (by omega), g7, g8⟩
  · obtain rfl : j = es.length := by simp at hj; omega
    have e : ∀ k, (xs ++ [.int .i64 f, .bool x.b, .slice x.a x.n x.c, .slice x.d x.m x.e, .bool y.b, .slice y.a y.n y.c, .slice y.d y.m y.e])[es.length * 7 + k]? = ([.int .i64 f, .bool x.b, .slice x.a x.n x.c, .slice x.d x.m x.e, .bool y.b, .slice y.a y.n y.c, .slice y.d y.m y.e] : List Value)[k]? := fun k => by rw [List.getElem?_append_right (by omega), hl]; congr 1; omega
    have e2 : (es ++ [(f, lo, hi)]).getD es.length (0, 0, 0) = (f, lo, hi) := by simp [List.getD]
    rw [e2]
    exact ⟨x, y, e 0, e 1, e 2, e 3, e 4, e 5, e 6, h1, h2⟩
theorem TabOf.ofRow {R : World → Value → Rat → Prop} {w : World} {base : Nat} {e : TypeId} {v : Value} {xs : List Value} {es : List Ent} (h : LRow w base e 7 v es.length xs) (ht : EntRow R w xs es) : TabOf R w v es := by
  rcases Nat.eq_zero_or_pos es.length with h0 | hp
  · rcases h.1.2 with ⟨rfl, _⟩ | ⟨g, cap, cur, rfl, _⟩
    · exact ⟨none, 0, by rw [h0], fun h => absurd h (by omega)⟩
    · exact ⟨_, _, rfl, fun h => absurd h (by omega)⟩
  · obtain ⟨g, cap, rfl⟩ := ownsRow_some h.1 hp
    have hc : ∀ j u, xs[j]? = some u → w.cell? ((⟨g, 0, none⟩ : Addr).add j) = some u := h.1.cells (g := g) rfl
    have hlt : g < w.heap.size := (h.lt rfl).1
    refine ⟨_, _, rfl, fun _ => ⟨g, 0, rfl, hlt, fun i hi => ?_⟩⟩
    obtain ⟨x, y, h0, h1, h2, h3, h4, h5, h6, h7, h8⟩ := ht.2 i hi
    have ea : ∀ j, (⟨g, 0, none⟩ : Addr).add j = ⟨g, 0 + j, none⟩ := fun j => by unfold Addr.add; split <;> simp_all
    have ec : ∀ k u, xs[i * 7 + k]? = some u → w.cell? ⟨g, 0 + i * 7 + k, none⟩ = some u := fun k u h => by rw [show 0 + i * 7 + k = 0 + (i * 7 + k) by omega, ← ea]; exact hc _ _ h
    exact ⟨x, y, ec 0 _ h0, ec 1 _ h1, ec 2 _ h2, ec 3 _ h3, ec 4 _ h4, ec 5 _ h5, ec 6 _ h6, h7, h8⟩
/-- The two tables so far. -/
structure TE (w0 w : World) (va vb : Value) (xsA xsB : List Value) (esA esB : List Ent) : Prop where
  x : Below w0.heap.size w0 w
  la : LRow w w0.heap.size 107 7 va esA.length xsA
  lb : LRow w w0.heap.size 109 7 vb esB.length xsB
  ta : EntRow IsRat w xsA esA
  tb : EntRow IsR w xsB esB
theorem TE.below {w0 w w' : World} {va vb : Value} {xsA xsB : List Value} {esA esB : List Ent} (h : TE w0 w va vb xsA xsB esA esB) (hb : Below w.heap.size w w') : TE w0 w' va vb xsA xsB esA esB :=
  ⟨ext_trans h.x hb, h.la.below hb, h.lb.below hb, h.ta.mono fun _ _ hr => hr.below hb, h.tb.mono fun _ _ hr => hr.below hb⟩
theorem TE.alloc {w0 w : World} {va vb : Value} {xsA xsB : List Value} {esA esB : List Ent} (h : TE w0 w va vb xsA xsB esA esB) (o : Obj) : TE w0 (w.alloc o) va vb xsA xsB esA esB := h.below ((Below.refl _ _).alloc (Nat.le_refl _) _)
theorem TE.appendA {w0 w w' : World} {va vb va' : Value} {xsA xsB : List Value} {esA esB : List Ent} (h : TE w0 w va vb xsA xsB esA esB) {f : Int} {x y : R3} {lo hi : Rat} (h1 : IsRat w x.val lo) (h2 : IsRat w y.val hi)
    (hL : LRow w' w0.heap.size 107 7 va' (esA.length + 1) (xsA ++ [.int .i64 f, .bool x.b, .slice x.a x.n x.c, .slice x.d x.m x.e, .bool y.b, .slice y.a y.n y.c, .slice y.d y.m y.e])) (hg : w.grownBy w' va.ownBlock) : TE w0 w' va' vb (xsA ++ [.int .i64 f, .bool x.b, .slice x.a x.n x.c, .slice x.d x.m x.e, .bool y.b, .slice y.a y.n y.c, .slice y.d y.m y.e]) xsB (esA ++ [(f, lo, hi)]) esB := by
  have hnd : ∀ g, va.ownBlock = some g → NoDig w g := h.la.2
  exact ⟨h.x.grown hg h.x.size (ownBlock_base3 h.la.1), by rw [List.length_append]; exact hL, h.lb.grown hg (LRow.apart3 h.la h.lb (by decide)), (h.ta.mono fun _ _ hr => hr.grown3 hg hnd).snoc (h1.grown3 hg hnd) (h2.grown3 hg hnd), h.tb.mono fun _ _ hr => hr.grown3 hg hnd⟩
theorem TE.appendB {w0 w w' : World} {va vb vb' : Value} {xsA xsB : List Value} {esA esB : List Ent} (h : TE w0 w va vb xsA xsB esA esB) {f : Int} {x y : R3} {lo hi : Rat} (h1 : IsR w x.val lo) (h2 : IsR w y.val hi)
    (hL : LRow w' w0.heap.size 109 7 vb' (esB.length + 1) (xsB ++ [.int .i64 f, .bool x.b, .slice x.a x.n x.c, .slice x.d x.m x.e, .bool y.b, .slice y.a y.n y.c, .slice y.d y.m y.e])) (hg : w.grownBy w' vb.ownBlock) : TE w0 w' va vb' xsA (xsB ++ [.int .i64 f, .bool x.b, .slice x.a x.n x.c, .slice x.d x.m x.e, .bool y.b, .slice y.a y.n y.c, .slice y.d y.m y.e]) esA (esB ++ [(f, lo, hi)]) := by
  have hnd : ∀ g, vb.ownBlock = some g → NoDig w g := h.lb.2
  exact ⟨h.x.grown hg h.x.size (ownBlock_base3 h.lb.1), h.la.grown hg (LRow.apart3 h.lb h.la (by decide)), by rw [List.length_append]; exact hL, h.ta.mono fun _ _ hr => hr.grown3 hg hnd, (h.tb.mono fun _ _ hr => hr.grown3 hg hnd).snoc (h1.grown3 hg hnd) (h2.grown3 hg hnd)⟩
theorem cell_new7 (w : World) (a b c d e f g : Value) (t : TypeId) : ∀ j u, [a, b, c, d, e, f, g][j]? = some u → (w.alloc (.cells #[a, b, c, d, e, f, g] t)).cell? ((⟨w.heap.size, 0, none⟩ : Addr).add j) = some u := by
  intro j u hj
  match j, hj with
  | 0, hj => simp at hj; subst hj; simp [Addr.add]
  | 1, hj => simp at hj; subst hj; simp [Addr.add]
  | 2, hj => simp at hj; subst hj; simp [Addr.add]
  | 3, hj => simp at hj; subst hj; simp [Addr.add]
  | 4, hj => simp at hj; subst hj; simp [Addr.add]
  | 5, hj => simp at hj; subst hj; simp [Addr.add]
  | 6, hj => simp at hj; subst hj; simp [Addr.add]
  | j + 7, hj => simp at hj
theorem info_cent : (Tryz.prog.info? 107).map (fun i => (i.zero, i.size, i.bytes)) = some (some (.agg #[.int .i64 0, .bool false, .slice none 0 0, .slice none 0 0, .bool false, .slice none 0 0, .slice none 0 0]), 7, 120) := by kernel_rfl
theorem info_rent : (Tryz.prog.info? 109).map (fun i => (i.zero, i.size, i.bytes)) = some (some (.agg #[.int .i64 0, .bool false, .slice none 0 0, .slice none 0 0, .bool false, .slice none 0 0, .slice none 0 0]), 7, 120) := by kernel_rfl
/-- An entry as it is drawn: from, two fractions. -/
abbrev RawE := Int × (Int × Int) × (Int × Int)
def RawAt (w : World) (b o : Nat) (r : RawE) : Prop :=
  w.cell? ⟨b, o, none⟩ = some (.int .i64 r.1) ∧ w.cell? ⟨b, o + 1, none⟩ = some (.int .i64 r.2.1.1) ∧ w.cell? ⟨b, o + 2, none⟩ = some (.int .i64 r.2.1.2) ∧ w.cell? ⟨b, o + 3, none⟩ = some (.int .i64 r.2.2.1) ∧ w.cell? ⟨b, o + 4, none⟩ = some (.int .i64 r.2.2.2)
def RawsOf (w : World) (v : Value) (rs : List RawE) : Prop :=
  ∃ ao cap, v = .slice ao rs.length cap ∧ (0 < rs.length → ∃ b off, ao = some ⟨b, off, none⟩ ∧ b < w.heap.size ∧ ∀ i, i < rs.length → RawAt w b (off + i * 5) (rs.getD i (0, (0, 0), (0, 0))))
theorem RawAt.below {w w' : World} {b o : Nat} {r : RawE} {n : Nat} (h : RawAt w b o r) (hb : Below n w w') (hl : b < n) : RawAt w' b o r := by
  obtain ⟨h0, h1, h2, h3, h4⟩ := h
  have c : ∀ j v, w.cell? ⟨b, j, none⟩ = some v → w'.cell? ⟨b, j, none⟩ = some v := fun j v h => (hb.cell (p := ⟨b, j, none⟩) hl).trans h
  exact ⟨c _ _ h0, c _ _ h1, c _ _ h2, c _ _ h3, c _ _ h4⟩
theorem RawsOf.below {w w' : World} {v : Value} {rs : List RawE} (h : RawsOf w v rs) (hb : Below w.heap.size w w') : RawsOf w' v rs := by
  obtain ⟨ao, cap, rfl, h⟩ := h
  refine ⟨ao, cap, rfl, fun hl => ?_⟩
  obtain ⟨b, off, rfl, hlt, h⟩ := h hl
  exact ⟨b, off, rfl, Nat.lt_of_lt_of_le hlt hb.size, fun i hi => (h i hi).below hb hlt⟩
def rawR (r : RawE) : Prop := i64P r.2.1 ∧ i64P r.2.2
def loE (r : RawE) : Rat := loQ (fracQ r.2.1.1 r.2.1.2) (fracQ r.2.2.1 r.2.2.2)
def hiE (r : RawE) : Rat := hiQ (fracQ r.2.1.1 r.2.1.2) (fracQ r.2.2.1 r.2.2.2)
def entsE (rs : List RawE) : List Ent := rs.map fun r => (r.1, loE r, hiE r)
theorem entsE_take (rs : List RawE) (i : Nat) (hi : i < rs.length) : entsE (rs.take (i + 1)) = entsE (rs.take i) ++ [((rs.getD i (0, (0, 0), (0, 0))).1, loE (rs.getD i (0, (0, 0), (0, 0))), hiE (rs.getD i (0, (0, 0), (0, 0))))] := by
  unfold entsE
  rw [List.take_add_one, List.map_append]
  simp [hi]
theorem entsE_length (rs : List RawE) (i : Nat) (hi : i ≤ rs.length) : (entsE (rs.take i)).length = i := by simp [entsE]; omega
def rowLight (r : RawE) : Bool := lightUp [r.2.1, r.2.2] 2
def litUp (rs : List RawE) : Nat → Bool
  | 0 => true
  | i + 1 => litUp rs i && rowLight (rs.getD i (0, (0, 0), (0, 0)))
theorem litUp_false {rs : List RawE} {i n : Nat} (hi : i < n) (h : rowLight (rs.getD i (0, (0, 0), (0, 0))) = false) : litUp rs n = false := by
  induction n with
  | zero => omega
  | succ n ih =>
    show (litUp rs n && _) = false
    rcases Nat.lt_or_ge i n with hn | hn
    · rw [ih hn]
      rfl
    · rw [show n = i from by omega, h]
      simp
def tabOk (rs : List RawE) : Bool := decide (rs.length ≤ 20) && litUp rs rs.length
def RetTabs (rs : List RawE) (w : World) (e : Ending) (w' : World) : Prop :=
  (tabOk rs = true ∧ ∃ va vb, e = .returned (.tuple #[va, vb, .bool true]) ∧ TabOf IsRat w' va (entsE rs) ∧ TabOf IsR w' vb (entsE rs) ∧ Below w.heap.size w w') ∨
  (tabOk rs = false ∧ e = .returned (.tuple #[.slice none 0 0, .slice none 0 0, .bool false]) ∧ Below w.heap.size w w')
def boxW (f n0 d0 n1 d1 : Int) (B : Nat) (w : World) : Prop := w.heap[B]? = some (.cells #[.int .i64 f, .int .i64 n0, .int .i64 d0, .int .i64 n1, .int .i64 d1] 105 (0, 0))
theorem boxW.all {f n0 d0 n1 d1 : Int} {B : Nat} {w : World} (h : boxW f n0 d0 n1 d1 B w) : boxW f n0 d0 n1 d1 B w ∧ w.cell? ⟨B, 0, none⟩ = some (.int .i64 f) ∧ w.cell? ⟨B, 1, none⟩ = some (.int .i64 n0) ∧ w.cell? ⟨B, 2, none⟩ = some (.int .i64 d0) ∧ w.cell? ⟨B, 3, none⟩ = some (.int .i64 n1) ∧ w.cell? ⟨B, 4, none⟩ = some (.int .i64 d1) :=
  ⟨h, blk_cell h 0 _ rfl, blk_cell h 1 _ rfl, blk_cell h 2 _ rfl, blk_cell h 3 _ rfl, blk_cell h 4 _ rfl⟩
theorem boxW.below {f n0 d0 n1 d1 : Int} {B : Nat} {a b : World} (hb : Below a.heap.size a b) (h : boxW f n0 d0 n1 d1 B a ∧ a.cell? ⟨B, 0, none⟩ = some (.int .i64 f) ∧ a.cell? ⟨B, 1, none⟩ = some (.int .i64 n0) ∧ a.cell? ⟨B, 2, none⟩ = some (.int .i64 d0) ∧ a.cell? ⟨B, 3, none⟩ = some (.int .i64 n1) ∧ a.cell? ⟨B, 4, none⟩ = some (.int .i64 d1)) : boxW f n0 d0 n1 d1 B b ∧ b.cell? ⟨B, 0, none⟩ = some (.int .i64 f) ∧ b.cell? ⟨B, 1, none⟩ = some (.int .i64 n0) ∧ b.cell? ⟨B, 2, none⟩ = some (.int .i64 d0) ∧ b.cell? ⟨B, 3, none⟩ = some (.int .i64 n1) ∧ b.cell? ⟨B, 4, none⟩ = some (.int .i64 d1) :=
  boxW.all (blk_keep h.1 hb (blk_lt h.1))
theorem boxW.grown {f n0 d0 n1 d1 : Int} {B : Nat} {a b : World} {row : Option Nat} (hg : a.grownBy b row) (hne : some B ≠ row) (h : boxW f n0 d0 n1 d1 B a ∧ a.cell? ⟨B, 0, none⟩ = some (.int .i64 f) ∧ a.cell? ⟨B, 1, none⟩ = some (.int .i64 n0) ∧ a.cell? ⟨B, 2, none⟩ = some (.int .i64 d0) ∧ a.cell? ⟨B, 3, none⟩ = some (.int .i64 n1) ∧ a.cell? ⟨B, 4, none⟩ = some (.int .i64 d1)) : boxW f n0 d0 n1 d1 B b ∧ b.cell? ⟨B, 0, none⟩ = some (.int .i64 f) ∧ b.cell? ⟨B, 1, none⟩ = some (.int .i64 n0) ∧ b.cell? ⟨B, 2, none⟩ = some (.int .i64 d0) ∧ b.cell? ⟨B, 3, none⟩ = some (.int .i64 n1) ∧ b.cell? ⟨B, 4, none⟩ = some (.int .i64 d1) :=
  boxW.all ((hg.block B (blk_lt h.1) hne).trans h.1)
theorem pairsW {f n0 d0 n1 d1 : Int} {B : Nat} {w : World} (h : boxW f n0 d0 n1 d1 B w) : PairsOf w (.slice (some ⟨B, 1, none⟩) 2 2) [(n0, d0), (n1, d1)] := by
  refine ⟨_, 2, rfl, fun _ => ⟨B, 1, rfl, blk_lt h, fun i hi => ?_⟩⟩
  match i, hi with
  | 0, _ => exact ⟨blk_cell h 1 _ rfl, blk_cell h 2 _ rfl⟩
  | 1, _ => exact ⟨blk_cell h 3 _ rfl, blk_cell h 4 _ rfl⟩
  | i + 2, hi => simp at hi; omega
set_option maxRecDepth 100000 in
set_option maxHeartbeats 4000000 in
theorem table5_any (rs : List RawE) (v : Value) (w : World) (h : RawsOf w v rs) (hr : ∀ i, i < rs.length → rawR (rs.getD i (0, (0, 0), (0, 0)))) : Calls Tryz.prog 14 #[v] w (RetTabs rs w) := by
  have HF := Lib.hid h
  obtain ⟨ao, cap, rfl, hE⟩ := h
  have HE := Lib.hid hE
  have HR := Lib.hid hr
  obtain ⟨iA, hiA, hzA, hsA, hyA⟩ := info_parts info_cent
  obtain ⟨iB, hiB, hzB, hsB, hyB⟩ := info_parts info_rent
  have hzd : ∀ u ∈ (Value.agg #[.int .i64 0, .bool false, .slice none 0 0, .slice none 0 0, .bool false, .slice none 0 0, .slice none 0 0]).cells.toList, noDig u := by
    intro u hu
    simp [Value.cells] at hu
    rcases hu with rfl | rfl | rfl | rfl | rfl
    all_goals first | exact noDig_i64 _ | exact noDig_bool _ | exact noDig_slice _ _ _
  clear hE hr
  go_enter Tryz.func14, Tryz.ntmps14
  go_wp2_with fail
  go_loopw [5, 6, 11] (fun va vb iv wr => ∃ (i : Nat) (xsA xsB : List Value), i ≤ rs.length ∧ iv = .int .i64 i ∧ Hid (litUp rs i = true) ∧ i ≤ 20 ∧ TE w wr va vb xsA xsB (entsE (rs.take i)) (entsE (rs.take i)))
    (fun _ _ iv _ => rs.length - (intOf iv).toNat)
  case atStart => exact ⟨0, [], [], Nat.zero_le _, rfl, rfl, by omega, Below.refl _ _, LRow.nil _ _ _ _, LRow.nil _ _ _ _, EntRow.nil _ _, EntRow.nil _ _⟩
  case round =>
    obtain ⟨i, xsA, xsB, hi, rfl, HOK, hi20, hT⟩ := hrel
    have HT := Lib.hid hT
    by_cases hlt : i < rs.length
    · obtain ⟨b, off, rfl, hbl, hEE⟩ := HE.out (by omega)
      obtain ⟨g0, g1, g2, g3, g4⟩ := (hEE i hlt).below hT.x hbl
      have hlt' : (i : Int) < rs.length := by omega
      have hge' : (0 : Int) ≤ i := by omega
      have hbl2 : b < wr.heap.size := Nat.lt_of_lt_of_le hbl hT.x.size
      have Htk := Lib.hid (entsE_take rs i hlt)
      have hln := entsE_length rs i hi
      have hrr := HR.out i hlt
      have hra : i64P ((rs.getD i (0, (0, 0), (0, 0))).2.1.1, (rs.getD i (0, (0, 0), (0, 0))).2.1.2) := hrr.1
      have hrb : i64P ((rs.getD i (0, (0, 0), (0, 0))).2.2.1, (rs.getD i (0, (0, 0), (0, 0))).2.2.2) := hrr.2
      have HLT := Lib.hid hlt
      have HNO : Hid (rowLight (rs.getD i (0, (0, 0), (0, 0))) = false → tabOk rs = false) := fun h => by
        unfold tabOk
        rw [litUp_false HLT.out h]
        simp
      have HNX : Hid (rowLight (rs.getD i (0, (0, 0), (0, 0))) = true → litUp rs (i + 1) = true) := fun h => by
        show (litUp rs i && rowLight (rs.getD i (0, (0, 0), (0, 0)))) = true
        rw [HOK.out, h]
        rfl
      have HRL : Hid (rowLight (rs.getD i (0, (0, 0), (0, 0))) = lightUp [((rs.getD i (0, (0, 0), (0, 0))).2.1.1, (rs.getD i (0, (0, 0), (0, 0))).2.1.2), ((rs.getD i (0, (0, 0), (0, 0))).2.2.1, (rs.getD i (0, (0, 0), (0, 0))).2.2.2)] 2) := rfl
      have HLO : Hid (loE (rs.getD i (0, (0, 0), (0, 0))) = loQ (fracQ (rs.getD i (0, (0, 0), (0, 0))).2.1.1 (rs.getD i (0, (0, 0), (0, 0))).2.1.2) (fracQ (rs.getD i (0, (0, 0), (0, 0))).2.2.1 (rs.getD i (0, (0, 0), (0, 0))).2.2.2)) := rfl
      have HHI : Hid (hiE (rs.getD i (0, (0, 0), (0, 0))) = hiQ (fracQ (rs.getD i (0, (0, 0), (0, 0))).2.1.1 (rs.getD i (0, (0, 0), (0, 0))).2.1.2) (fracQ (rs.getD i (0, (0, 0), (0, 0))).2.2.1 (rs.getD i (0, (0, 0), (0, 0))).2.2.2)) := rfl
      rw [HLO.out, HHI.out] at Htk
      generalize rowLight (rs.getD i (0, (0, 0), (0, 0))) = rl at *
      clear hEE hT hrr HLO HHI
      generalize (rs.getD i (0, (0, 0), (0, 0))).1 = f at *
      generalize (rs.getD i (0, (0, 0), (0, 0))).2.1.1 = n0 at *
      generalize (rs.getD i (0, (0, 0), (0, 0))).2.1.2 = d0 at *
      generalize (rs.getD i (0, (0, 0), (0, 0))).2.2.1 = n1 at *
      generalize (rs.getD i (0, (0, 0), (0, 0))).2.2.2 = d1 at *
      have hal := Lib.hid (below1 wr (.cells #[.int .i64 f, .int .i64 n0, .int .i64 d0, .int .i64 n1, .int .i64 d1] 105))
      have hBX : Hid (boxW f n0 d0 n1 d1 wr.heap.size (wr.alloc (.cells #[.int .i64 f, .int .i64 n0, .int .i64 d0, .int .i64 n1, .int .i64 d1] 105))) := blk_new wr _ _
      by_cases h20 : 20 ≤ i
      · have t20 : decide ((i : Int) ≥ 20) = true := decide_eq_true (by omega)
        have HBAD : Hid (tabOk rs = false) := by show tabOk rs = false; unfold tabOk; rw [decide_eq_false (by omega)]; rfl
        clear h20 hlt hln
        go_wp2_with fail
        go_ret3
        exact .inr ⟨HBAD.out, rfl, ext_trans HT.out.x hal.out⟩
      have t20 : decide ((i : Int) ≥ 20) = false := decide_eq_false (by omega)
      have Hi20 : Hid (i + 1 ≤ 20) := by show _ ≤ _; omega
      clear h20 hlt
      go_wp2_with fail
      refine (light_any [(n0, d0), (n1, d1)] _ _ (pairsW hBX.out) (by simp)).mono ?_
      rintro e wL ⟨rfl, hbL⟩
      have hx : lightUp [(n0, d0), (n1, d1)] [(n0, d0), (n1, d1)].length = rl := HRL.out.symm
      rw [hx]
      have HT5 := Lib.hid (HT.out.below (bt hal.out hbL))
      have hBL : Hid (boxW f n0 d0 n1 d1 wr.heap.size wL) := blk_keep hBX.out hbL (blk_lt hBX.out)
      clear hx hbL HRL hBX g0 g1 g2 g3 g4
      cases rl with
      | false =>
        go_wp2_with fail
        go_ret3
        exact .inr ⟨HNO.out (by first | rfl | trivial), rfl, HT5.out.x⟩
      | true =>
      generalize entsE (rs.take i) = es at *
      have hes : es.length ≤ 20 := by omega
      have hN : boxW f n0 d0 n1 d1 wr.heap.size wL.drew := hBL.out
      have HT0 := Lib.hid (HT5.out.below (Below.refl wL.heap.size wL).drew)
      have hwr : wr.heap.size ≤ wL.heap.size := Nat.le_of_lt (blk_lt hBL.out)
      have hAlt := Lib.hid (fun g (hg : u5.ownBlock = some g) => (HT.out.la.lt hg).1)
      have hBlt := Lib.hid (fun g (hg : u6.ownBlock = some g) => (HT.out.lb.lt hg).1)
      clear hln
      go_wp2_with fail
      go_region_held3 (fun w' => boxW f n0 d0 n1 d1 wr.heap.size w' ∧ w'.cell? ⟨wr.heap.size, 0, none⟩ = some (.int .i64 f) ∧ w'.cell? ⟨wr.heap.size, 1, none⟩ = some (.int .i64 n0) ∧ w'.cell? ⟨wr.heap.size, 2, none⟩ = some (.int .i64 d0) ∧ w'.cell? ⟨wr.heap.size, 3, none⟩ = some (.int .i64 n1) ∧ w'.cell? ⟨wr.heap.size, 4, none⟩ = some (.int .i64 d1))
        (first | exact hN.all | assumption | (refine boxW.below hbA ?_; assumption) | (refine boxW.below ((Below.refl _ _).alloc (Nat.le_refl _) _) ?_; assumption) | (refine boxW.grown hgrA (fun e => Nat.lt_irrefl _ (hAlt.out _ e.symm)) ?_; assumption))
        (first
          | (go_at_call 16; (with_reducible refine (lrange_any n0 d0 n1 d1 _ hra hrb).mono ?_); rintro e wA ⟨vA, rfl, ⟨xA, yA, rfl, hvA1, hvA2⟩, hbA⟩; have HVA1 := Lib.hid hvA1; have HVA2 := Lib.hid hvA2; have HT1 := Lib.hid (HT0.out.below hbA); clear hvA1 hvA2)
          | (refine step_append_lrow _ rfl (.tmp 24) (.tmp 31) 50 rfl w.heap.size 107 iA _ 7 120 Tryz.underlying50 hiA hzA hsA hyA rfl (by decide) hzd _ _ _ rfl (HT1.out.alloc _).la ⟨wA.heap.size, 0, none⟩ 1 1 [.int .i64 f, .bool xA.b, .slice xA.a xA.n xA.c, .slice xA.d xA.m xA.e, .bool yA.b, .slice yA.a yA.n yA.c, .slice yA.d yA.m yA.e] rfl rfl (cell_new7 _ _ _ _ _ _ _ _ _) (by simp [Value.oneCell']) (by intro u hu; simp at hu; rcases hu with rfl | rfl | rfl | rfl | rfl | rfl | rfl; exact noDig_i64 _; exact noDig_bool _; exact noDig_slice _ _ _; exact noDig_slice _ _ _; exact noDig_bool _; exact noDig_slice _ _ _; exact noDig_slice _ _ _) (by omega) (by unfold maxLen; omega) (by omega) (HT1.out.alloc _).x.size ?_; intro gA capA w3 hL3 hgrA hatA; have HT2 := Lib.hid ((HT1.out.alloc _).appendA (HVA1.out.below ((Below.refl _ _).alloc (Nat.le_refl _) _)) (HVA2.out.below ((Below.refl _ _).alloc (Nat.le_refl _) _)) hL3 hgrA)))
      have hN2 : boxW f n0 d0 n1 d1 wr.heap.size w3 ∧ w3.cell? ⟨wr.heap.size, 0, none⟩ = some (.int .i64 f) ∧ w3.cell? ⟨wr.heap.size, 1, none⟩ = some (.int .i64 n0) ∧ w3.cell? ⟨wr.heap.size, 2, none⟩ = some (.int .i64 d0) ∧ w3.cell? ⟨wr.heap.size, 3, none⟩ = some (.int .i64 n1) ∧ w3.cell? ⟨wr.heap.size, 4, none⟩ = some (.int .i64 d1) := boxW.grown hgrA (fun e => Nat.lt_irrefl _ (hAlt.out _ e.symm)) (boxW.below (below1 wA _) (boxW.below hbA hN.all))
      have HT3 := Lib.hid (HT2.out.below (Below.refl w3.heap.size w3).drew)
      have hN3 : boxW f n0 d0 n1 d1 wr.heap.size w3.drew := hN2.1
      clear HT0 HT1 HT2 HVA1 HVA2 hL3 hgrA hN hN2
      go_wp2_with fail
      go_region_held3 (fun w' => boxW f n0 d0 n1 d1 wr.heap.size w' ∧ w'.cell? ⟨wr.heap.size, 0, none⟩ = some (.int .i64 f) ∧ w'.cell? ⟨wr.heap.size, 1, none⟩ = some (.int .i64 n0) ∧ w'.cell? ⟨wr.heap.size, 2, none⟩ = some (.int .i64 d0) ∧ w'.cell? ⟨wr.heap.size, 3, none⟩ = some (.int .i64 n1) ∧ w'.cell? ⟨wr.heap.size, 4, none⟩ = some (.int .i64 d1))
        (first | exact hN3.all | assumption | (refine boxW.below hbB ?_; assumption) | (refine boxW.below ((Below.refl _ _).alloc (Nat.le_refl _) _) ?_; assumption) | (refine boxW.grown hgrB (fun e => Nat.lt_irrefl _ (hBlt.out _ e.symm)) ?_; assumption))
        (first
          | (go_at_call 18; (with_reducible refine (refrange_any n0 d0 n1 d1 _ hra hrb).mono ?_); rintro e wB ⟨vB, rfl, ⟨xB, yB, rfl, hvB1, hvB2⟩, hbB⟩; have HVB1 := Lib.hid hvB1; have HVB2 := Lib.hid hvB2; have HT4 := Lib.hid (HT3.out.below hbB); clear hvB1 hvB2)
          | (refine step_append_lrow _ rfl (.tmp 33) (.tmp 40) 51 rfl w.heap.size 109 iB _ 7 120 Tryz.underlying51 hiB hzB hsB hyB rfl (by decide) hzd _ _ _ rfl (HT4.out.alloc _).lb ⟨wB.heap.size, 0, none⟩ 1 1 [.int .i64 f, .bool xB.b, .slice xB.a xB.n xB.c, .slice xB.d xB.m xB.e, .bool yB.b, .slice yB.a yB.n yB.c, .slice yB.d yB.m yB.e] rfl rfl (cell_new7 _ _ _ _ _ _ _ _ _) (by simp [Value.oneCell']) (by intro u hu; simp at hu; rcases hu with rfl | rfl | rfl | rfl | rfl | rfl | rfl; exact noDig_i64 _; exact noDig_bool _; exact noDig_slice _ _ _; exact noDig_slice _ _ _; exact noDig_bool _; exact noDig_slice _ _ _; exact noDig_slice _ _ _) (by omega) (by unfold maxLen; omega) (by omega) (HT4.out.alloc _).x.size ?_; intro gB capB w6 hL6 hgrB hatB; have HT6 := Lib.hid ((HT4.out.alloc _).appendB (HVB1.out.below ((Below.refl _ _).alloc (Nat.le_refl _) _)) (HVB2.out.below ((Below.refl _ _).alloc (Nat.le_refl _) _)) hL6 hgrB)))
      clear HT HT3 HT4 HVB1 HVB2 hL6 hgrB
      go_wp2_with fail
      exact ⟨⟨i + 1, _, _, by have := HLT.out; omega, by go_num, HNX.out (by first | rfl | trivial), Hi20.out, by rw [Htk.out]; exact HT6.out⟩, meas_up HLT.out⟩
    · obtain rfl : i = rs.length := by omega
      have HGOOD : Hid (tabOk rs = true) := by show tabOk rs = true; unfold tabOk; rw [decide_eq_true hi20, HOK.out]; rfl
      rw [List.take_length] at hT HT
      clear hT
      go_wp2_with fail
      go_ret3
      exact .inl ⟨HGOOD.out, _, _, rfl, TabOf.ofRow HT.out.la HT.out.ta, TabOf.ofRow HT.out.lb HT.out.tb, HT.out.x⟩
end Go.Proofs.YtmfochplnchgcaaGreat

namespace Go.Proofs.YtmfochplnchgcaaGreat
open Go.RowKit

theorem Sx.st_RR {w0 w : World} {bs : List Bx} {fs : List Fx} (h : Sx w0 w bs fs) (i : Nat) (o0 : R3) (o1 : R3) (n0 : R3) (n1 : R3) {B T : Nat} (hi : bs[i]? = some (B, #[.bool o0.b, .slice o0.a o0.n o0.c, .slice o0.d o0.m o0.e, .bool o1.b, .slice o1.a o1.n o1.c, .slice o1.d o1.m o1.e], T)) :
    Sx w0 (((((((w).setCell ⟨B, 0, none⟩ (.bool n0.b)).setCell ⟨B, 1, none⟩ (.slice n0.a n0.n n0.c)).setCell ⟨B, 2, none⟩ (.slice n0.d n0.m n0.e)).setCell ⟨B, 3, none⟩ (.bool n1.b)).setCell ⟨B, 4, none⟩ (.slice n1.a n1.n n1.c)).setCell ⟨B, 5, none⟩ (.slice n1.d n1.m n1.e)) (bs.set i (B, #[.bool n0.b, .slice n0.a n0.n n0.c, .slice n0.d n0.m n0.e, .bool n1.b, .slice n1.a n1.n n1.c, .slice n1.d n1.m n1.e], T)) fs := by
  have hl := (List.getElem?_eq_some_iff.1 hi).1
  have g := ((((((h).set i hi 0 (v := .bool n0.b) rfl).set i (by rw [List.getElem?_set, if_pos rfl, if_pos (by simpa using hl)]) 1 (v := .slice n0.a n0.n n0.c) rfl).set i (by rw [List.getElem?_set, if_pos rfl, if_pos (by simpa using hl)]) 2 (v := .slice n0.d n0.m n0.e) rfl).set i (by rw [List.getElem?_set, if_pos rfl, if_pos (by simpa using hl)]) 3 (v := .bool n1.b) rfl).set i (by rw [List.getElem?_set, if_pos rfl, if_pos (by simpa using hl)]) 4 (v := .slice n1.a n1.n n1.c) rfl).set i (by rw [List.getElem?_set, if_pos rfl, if_pos (by simpa using hl)]) 5 (v := .slice n1.d n1.m n1.e) rfl
  simpa using g
def rtUp (es : List Ent) (t : Rat) : Nat → Rat × Rat
  | 0 => (0, 0)
  | i + 1 => if cmpR ((es.getD i (0, 0, 0)).1 : Rat) t ≤ 0 then (es.getD i (0, 0, 0)).2 else rtUp es t i
def rtOf (es : List Ent) (t : Rat) : Rat × Rat := rtUp es t es.length
def entI (es : List Ent) : Prop := ∀ i, i < es.length → -9223372036854775808 ≤ (es.getD i (0, 0, 0)).1 ∧ (es.getD i (0, 0, 0)).1 ≤ 9223372036854775807
def entS (es : List Ent) : Prop := ∀ i, szR (es.getD i (0, 0, 0)).2.1 10000 ∧ szR (es.getD i (0, 0, 0)).2.2 10000
theorem i64_szR' (n : Int) (h1 : -9223372036854775808 ≤ n) (h2 : n ≤ 9223372036854775807) (k : Nat) (hk : 1 ≤ k) : szR (n : Rat) k := szR_mono (szR_int (k := 1) (by unfold b64; omega) (by omega)) hk
theorem rtUp_1 (es : List Ent) (t : Rat) (i : Nat) : (rtUp es t (i + 1)).1 = if cmpR ((es.getD i (0, 0, 0)).1 : Rat) t ≤ 0 then (es.getD i (0, 0, 0)).2.1 else (rtUp es t i).1 := by
  show (if cmpR ((es.getD i (0, 0, 0)).1 : Rat) t ≤ 0 then (es.getD i (0, 0, 0)).2 else rtUp es t i).1 = _
  split <;> rfl
theorem rtUp_2 (es : List Ent) (t : Rat) (i : Nat) : (rtUp es t (i + 1)).2 = if cmpR ((es.getD i (0, 0, 0)).1 : Rat) t ≤ 0 then (es.getD i (0, 0, 0)).2.2 else (rtUp es t i).2 := by
  show (if cmpR ((es.getD i (0, 0, 0)).1 : Rat) t ≤ 0 then (es.getD i (0, 0, 0)).2 else rtUp es t i).2 = _
  split <;> rfl
theorem rtUp_sz {es : List Ent} (h : entS es) (t : Rat) : ∀ n, szR (rtUp es t n).1 10000 ∧ szR (rtUp es t n).2 10000
  | 0 => ⟨szR_zero _ (by omega), szR_zero _ (by omega)⟩
  | n + 1 => by
    unfold rtUp
    split
    · exact h n
    · exact rtUp_sz h t n
theorem rtOf_sz {es : List Ent} (h : entS es) (t : Rat) : szR (rtOf es t).1 10000 ∧ szR (rtOf es t).2 10000 := rtUp_sz h t es.length
theorem TabOf.bP {w w' : World} {v : Value} {es : List Ent} (h : TabOf IsRat w v es) (hb : Below w.heap.size w w') : TabOf IsRat w' v es := h.below (fun _ _ _ _ h hb => h.below hb) hb
theorem TabOf.bQ {w w' : World} {v : Value} {es : List Ent} (h : TabOf IsR w v es) (hb : Below w.heap.size w w') : TabOf IsR w' v es := h.below (fun _ _ _ _ h hb => h.below hb) hb
theorem FrcsOf.bP {w w' : World} {v : Value} {es : List Rat} (h : FrcsOf IsRat w v es) (hb : Below w.heap.size w w') : FrcsOf IsRat w' v es := h.below (fun _ _ _ _ h hb => h.below hb) hb
theorem FrcsOf.bQ {w w' : World} {v : Value} {es : List Rat} (h : FrcsOf IsR w v es) (hb : Below w.heap.size w w') : FrcsOf IsR w' v es := h.below (fun _ _ _ _ h hb => h.below hb) hb
set_option maxRecDepth 100000 in
set_option maxHeartbeats 4000000 in
theorem crate_any (es : List Ent) (t : Rat) (vt vx : Value) (w : World) (ht : TabOf IsRat w vt es) (hx : IsRat w vx t) (hl : es.length ≤ 1000) (hI : entI es) (hZ : entS es) (s1 : szR t 10000) :
    Calls Tryz.prog 67 #[vt, vx] w (RetRng (rtOf es t).1 (rtOf es t).2 w) := by
  obtain ⟨x1, rfl⟩ := hx.open3
  have HS := Lib.hid ((Sx.init w).addP hx)
  have HI := Lib.hid hI
  have HZ := Lib.hid hZ
  have S1 := Lib.hid s1
  obtain ⟨ao, cap, rfl, hE⟩ := ht
  have HE := Lib.hid hE
  clear hE hx hI hZ s1
  go_enter Tryz.func67, Tryz.ntmps67
  go_wp2_with fail
  generalize hW1 : (((w).alloc (.cells _ _)).alloc (.cells _ _)).alloc (.cells _ _) = W1 at *
  replace HS : Hid (Sx w W1 [(w.heap.size + 2, #[.bool false, .slice none 0 0, .slice none 0 0, .bool false, .slice none 0 0, .slice none 0 0], 55), (w.heap.size + 1, #[.bool false, .slice none 0 0, .slice none 0 0, .bool false, .slice none 0 0, .slice none 0 0], 55), (w.heap.size, x1.arr, 40)] [(true, x1.val, t)]) := by subst hW1; exact (((HS.out).alloc (B := w.heap.size) rfl (by rfl)).alloc (B := w.heap.size + 1) (by simp) (by rfl)).alloc (B := w.heap.size + 2) (by simp) (by rfl)
  clear hW1
  go_loopw [10] (fun u10 wr => ∃ (i : Nat) (y1 y2 : R3), i ≤ es.length ∧ u10 = .int .i64 i ∧ Hid (Sx w wr [(w.heap.size + 2, arr6 y1 y2, 55), (w.heap.size + 1, #[.bool false, .slice none 0 0, .slice none 0 0, .bool false, .slice none 0 0, .slice none 0 0], 55), (w.heap.size, x1.arr, 40)] [(true, y2.val, (rtUp es t i).2), (true, y1.val, (rtUp es t i).1), (true, x1.val, t)]))
    (fun u _ => es.length - (intOf u).toNat)
  case atStart => exact ⟨0, r30, r30, Nat.zero_le _, rfl, Lib.hid ((((HS.out.bare).addP (HS.out.p 0 _ _ rfl)).addP (isRat_r30 _)).addP (isRat_r30 _))⟩
  case round =>
    clear HS
    obtain ⟨i, y1, y2, hi, rfl, HS⟩ := hrel
    by_cases hlt : i < es.length
    ·
      have hlt' : (i : Int) < es.length := by omega
      have hge' : (0 : Int) ≤ i := by omega
      have HLT := Lib.hid hlt
      obtain ⟨b, off, rfl, hbl, hEE⟩ := HE.out (by omega)
      have HBL := Lib.hid hbl
      clear hbl
      obtain ⟨Ex, Ey, Eg0, Eg1, Eg2, Eg3, Eg4, Eg5, Eg6, Eh1, Eh2⟩ := hEE i hlt
      have E0 := Lib.hid Eg0
      have E1 := Lib.hid Eg1
      have E2 := Lib.hid Eg2
      have E3 := Lib.hid Eg3
      have E4 := Lib.hid Eg4
      have E5 := Lib.hid Eg5
      have E6 := Lib.hid Eg6
      clear Eg0 Eg1 Eg2 Eg3 Eg4 Eg5 Eg6
      replace HS := Lib.hid ((HS.out.addP (Eh1.below HS.out.bel)).addP (Eh2.below HS.out.bel))
      clear Eh1 Eh2
      have HF1 := Lib.hid (rtUp_1 es t i)
      have HF2 := Lib.hid (rtUp_2 es t i)
      have HII := Lib.hid (HI.out i hlt)
      clear hEE hlt
      generalize (es.getD i (0, 0, 0)).1 = f at *
      generalize (es.getD i (0, 0, 0)).2.1 = lo at *
      generalize (es.getD i (0, 0, 0)).2.2 = hi at *
      obtain ⟨hf1, hf2⟩ := HII.out
      have Ec0 := (HS.out.bel.cell (p := ⟨b, off + i * 7, none⟩) HBL.out).trans E0.out
      have Ec1 := (HS.out.bel.cell (p := ⟨b, off + i * 7 + 1, none⟩) HBL.out).trans E1.out
      have Ec2 := (HS.out.bel.cell (p := ⟨b, off + i * 7 + 2, none⟩) HBL.out).trans E2.out
      have Ec3 := (HS.out.bel.cell (p := ⟨b, off + i * 7 + 3, none⟩) HBL.out).trans E3.out
      have Ec4 := (HS.out.bel.cell (p := ⟨b, off + i * 7 + 4, none⟩) HBL.out).trans E4.out
      have Ec5 := (HS.out.bel.cell (p := ⟨b, off + i * 7 + 5, none⟩) HBL.out).trans E5.out
      have Ec6 := (HS.out.bel.cell (p := ⟨b, off + i * 7 + 6, none⟩) HBL.out).trans E6.out
      go_wp2_with fail
      clear Ec0 Ec1 Ec2 Ec3 Ec4 Ec5 Ec6
      generalize hW2 : (wr).alloc (.cells _ _) = W2 at *
      replace HS : Hid (Sx w W2 [(wr.heap.size, #[.int .i64 f, .bool Ex.b, .slice Ex.a Ex.n Ex.c, .slice Ex.d Ex.m Ex.e, .bool Ey.b, .slice Ey.a Ey.n Ey.c, .slice Ey.d Ey.m Ey.e], 107), (w.heap.size + 2, arr6 y1 y2, 55), (w.heap.size + 1, #[.bool false, .slice none 0 0, .slice none 0 0, .bool false, .slice none 0 0, .slice none 0 0], 55), (w.heap.size, x1.arr, 40)] [(true, Ey.val, hi), (true, Ex.val, lo), (true, y2.val, (rtUp es t i).2), (true, y1.val, (rtUp es t i).1), (true, x1.val, t)]) := by subst hW2; exact (HS.out).alloc (B := wr.heap.size) rfl (by rfl)
      clear hW2
      refine wp_region_held_drew (S := (fun w' => Sx w w' [(wr.heap.size, #[.int .i64 f, .bool Ex.b, .slice Ex.a Ex.n Ex.c, .slice Ex.d Ex.m Ex.e, .bool Ey.b, .slice Ey.a Ey.n Ey.c, .slice Ey.d Ey.m Ey.e], 107), (w.heap.size + 2, arr6 y1 y2, 55), (w.heap.size + 1, #[.bool false, .slice none 0 0, .slice none 0 0, .bool false, .slice none 0 0, .slice none 0 0], 55), (w.heap.size, x1.arr, 40)] [])) (by kernel_rfl) ((HS.out.drew).bare) (fun hh => ?_)
      replace HS := Lib.hid HS.out.drew
      refine tkA (i := 0) (v := ?vpr3_0_k5) rfl (Or.inl ⟨by first | rfl | kernel_rfl, ?hypr3_0_k5⟩) (by assumption) ?repr3_0_k5
      case hypr3_0_k5 => (intro u hSu; (first | (go_simp; done) | (go_simp; with_reducible rfl)))
      try simp only [nb1, nb2, nb3, Act.put, nb4, nb5, nb6]
      refine tkA (i := 1) (v := ?vpr3_1_k7) rfl (Or.inl ⟨by first | rfl | kernel_rfl, ?hypr3_1_k7⟩) (by assumption) ?repr3_1_k7
      case hypr3_1_k7 => (intro u hSu; (try dsimp only at hSu); have qb3e := (hSu.at 0 _ _ _ rfl); have qb3c0 := blk_cell qb3e 0 (.int .i64 f) rfl; have qb3c1 := blk_cell qb3e 1 (.bool Ex.b) rfl; have qb3c2 := blk_cell qb3e 2 (.slice Ex.a Ex.n Ex.c) rfl; have qb3c3 := blk_cell qb3e 3 (.slice Ex.d Ex.m Ex.e) rfl; have qb3c4 := blk_cell qb3e 4 (.bool Ey.b) rfl; have qb3c5 := blk_cell qb3e 5 (.slice Ey.a Ey.n Ey.c) rfl; have qb3c6 := blk_cell qb3e 6 (.slice Ey.d Ey.m Ey.e) rfl; clear qb3e; clear hSu; (first | (go_simp; done) | (go_simp; with_reducible rfl)))
      try simp only [nb1, nb2, nb3, Act.put, nb4, nb5, nb6]
      refine tkA (i := 3) (v := ?vpr3_3_k9) rfl (Or.inl ⟨by first | rfl | kernel_rfl, ?hypr3_3_k9⟩) (by assumption) ?repr3_3_k9
      case hypr3_3_k9 => (intro u hSu; (try dsimp only at hSu); obtain ⟨qb0c0, qb0c1, qb0c2, _⟩ := fac3 (x := x1) (hSu.at 3 _ _ _ rfl); clear hSu; (first | (go_simp; done) | (go_simp; with_reducible rfl)))
      try simp only [nb1, nb2, nb3, Act.put, nb4, nb5, nb6]
      refine rdA (i := 2) rfl (fun K hK => ?_)
      go_simp
      go_wp2_with (go_at_call 36; (with_reducible refine (int_any f _ hf1 hf2).mono ?_); rintro e w10 ⟨v10, rfl, hv10, hb10⟩; obtain ⟨z10, rfl⟩ := hv10.open3)
      refine hK.out _ _ (Sx.below hh hb10) (fun hh => ?_)
      clear hK K
      try simp only [nb1, nb2, nb3, Act.put, nb4, nb5, nb6]
      replace HS := Lib.hid (HS.out.below hb10)
      clear hb10
      replace HS := Lib.hid (HS.out.addP hv10)
      clear hv10
      refine rdA (i := 4) rfl (fun K hK => ?_)
      go_simp
      obtain ⟨c11, hc11⟩ : ∃ c, c = cmpR (f : Rat) t := ⟨_, rfl⟩
      have HC11 := Lib.hid hc11
      clear hc11
      have a12 := HS.out.p 0 _ _ rfl
      have a13 := HS.out.p 5 _ _ rfl
      go_wp2_with (go_at_call 34; (with_reducible refine (cmpRat_any (f : Rat) t _ _ _ a12 a13 (szR_mono (i64_szR' f hf1 hf2 10000 (by omega)) (by omega)) (szR_mono S1.out (by omega))).mono ?_); rw [← HC11.out]; rintro e w11 ⟨rfl, hb11⟩)
      refine hK.out _ _ (Sx.below hh hb11) (fun hh => ?_)
      clear hK K
      try simp only [nb1, nb2, nb3, Act.put, nb4, nb5, nb6]
      replace HS := Lib.hid (HS.out.below hb11)
      clear hb11 a12 a13
      by_cases t15p : c11 ≤ 0
      ·
        have t15 : decide (c11 ≤ 0) = true := decide_eq_true t15p
        have T15 := Lib.hid t15p
        clear t15p
        refine tkA (i := 5) (v := ?vpr3_5_k16) rfl (Or.inl ⟨by first | rfl | kernel_rfl, ?hypr3_5_k16⟩) (by assumption) ?repr3_5_k16
        case hypr3_5_k16 => (intro u hSu; (first | (go_simp; done) | (go_simp; with_reducible rfl)))
        try simp only [nb1, nb2, nb3, Act.put, nb4, nb5, nb6]
        refine wpAnyH_done (by kernel_rfl) ?_ _
        have b3e := (HS.out.at 0 _ _ _ rfl)
        have b3c0 := blk_cell b3e 0 (.int .i64 f) rfl
        have b3c1 := blk_cell b3e 1 (.bool Ex.b) rfl
        have b3c2 := blk_cell b3e 2 (.slice Ex.a Ex.n Ex.c) rfl
        have b3c3 := blk_cell b3e 3 (.slice Ex.d Ex.m Ex.e) rfl
        have b3c4 := blk_cell b3e 4 (.bool Ey.b) rfl
        have b3c5 := blk_cell b3e 5 (.slice Ey.a Ey.n Ey.c) rfl
        have b3c6 := blk_cell b3e 6 (.slice Ey.d Ey.m Ey.e) rfl
        have b3f0 := blk_frozen b3e 0
        have b3f1 := blk_frozen b3e 1
        have b3f2 := blk_frozen b3e 2
        have b3f3 := blk_frozen b3e 3
        have b3f4 := blk_frozen b3e 4
        have b3f5 := blk_frozen b3e 5
        have b3f6 := blk_frozen b3e 6
        have b3l := blk_lt b3e
        clear b3e
        obtain ⟨b0c0, b0c1, b0c2, b0f0, b0f1, b0f2⟩ := fac3 (x := x1) (HS.out.at 3 _ _ _ rfl)
        have b0l := blk_lt (HS.out.at 3 _ _ _ rfl)
        obtain ⟨b2c0, b2c1, b2c2, b2c3, b2c4, b2c5, b2f0, b2f1, b2f2, b2f3, b2f4, b2f5⟩ := fac6 (x := y1) (y := y2) (HS.out.at 1 _ _ _ rfl)
        have b2l := blk_lt (HS.out.at 1 _ _ _ rfl)
        go_wp2_with fail
        clear b3c0 b3c1 b3c2 b3c3 b3c4 b3c5 b3c6 b3f0 b3f1 b3f2 b3f3 b3f4 b3f5 b3f6 b3l b0c0 b0c1 b0c2 b0f0 b0f1 b0f2 b0l b2c0 b2c1 b2c2 b2c3 b2c4 b2c5 b2f0 b2f1 b2f2 b2f3 b2f4 b2f5 b2l
        generalize hW17 : ((((((w11).setCell _ _).setCell _ _).setCell _ _).setCell _ _).setCell _ _).setCell _ _ = W17 at *
        replace HS : Hid (Sx w W17 [(wr.heap.size, #[.int .i64 f, .bool Ex.b, .slice Ex.a Ex.n Ex.c, .slice Ex.d Ex.m Ex.e, .bool Ey.b, .slice Ey.a Ey.n Ey.c, .slice Ey.d Ey.m Ey.e], 107), (w.heap.size + 2, arr6 Ex Ey, 55), (w.heap.size + 1, #[.bool false, .slice none 0 0, .slice none 0 0, .bool false, .slice none 0 0, .slice none 0 0], 55), (w.heap.size, x1.arr, 40)] [(true, z10.val, (f : Rat)), (true, Ey.val, hi), (true, Ex.val, lo), (true, y2.val, (rtUp es t i).2), (true, y1.val, (rtUp es t i).1), (true, x1.val, t)]) := by subst hW17; exact (HS.out).st_RR 1 y1 y2 Ex Ey rfl
        clear hW17
        have EQ1 := Lib.hid (HF1.out.trans (if_pos (by rw [← HC11.out]; exact T15.out)))
        have EQ2 := Lib.hid (HF2.out.trans (if_pos (by rw [← HC11.out]; exact T15.out)))
        exact ⟨⟨i + 1, Ex, Ey, by have := HLT.out; omega, by go_num, Lib.hid (((((HS.out).erase 0).addP (HS.out.p 5 _ _ rfl)).addP (by rw [EQ1.out]; exact (HS.out.p 2 _ _ rfl))).addP (by rw [EQ2.out]; exact (HS.out.p 1 _ _ rfl)))⟩, meas_up HLT.out⟩
      ·
        have t15 : decide (c11 ≤ 0) = false := decide_eq_false t15p
        have T15 := Lib.hid t15p
        clear t15p
        refine tkA (i := 5) (v := ?vpr3_5_k18) rfl (Or.inl ⟨by first | rfl | kernel_rfl, ?hypr3_5_k18⟩) (by assumption) ?repr3_5_k18
        case hypr3_5_k18 => (intro u hSu; (first | (go_simp; done) | (go_simp; with_reducible rfl)))
        try simp only [nb1, nb2, nb3, Act.put, nb4, nb5, nb6]
        refine wpAnyH_done (by kernel_rfl) ?_ _
        have b3e := (HS.out.at 0 _ _ _ rfl)
        have b3c0 := blk_cell b3e 0 (.int .i64 f) rfl
        have b3c1 := blk_cell b3e 1 (.bool Ex.b) rfl
        have b3c2 := blk_cell b3e 2 (.slice Ex.a Ex.n Ex.c) rfl
        have b3c3 := blk_cell b3e 3 (.slice Ex.d Ex.m Ex.e) rfl
        have b3c4 := blk_cell b3e 4 (.bool Ey.b) rfl
        have b3c5 := blk_cell b3e 5 (.slice Ey.a Ey.n Ey.c) rfl
        have b3c6 := blk_cell b3e 6 (.slice Ey.d Ey.m Ey.e) rfl
        have b3f0 := blk_frozen b3e 0
        have b3f1 := blk_frozen b3e 1
        have b3f2 := blk_frozen b3e 2
        have b3f3 := blk_frozen b3e 3
        have b3f4 := blk_frozen b3e 4
        have b3f5 := blk_frozen b3e 5
        have b3f6 := blk_frozen b3e 6
        have b3l := blk_lt b3e
        clear b3e
        obtain ⟨b0c0, b0c1, b0c2, b0f0, b0f1, b0f2⟩ := fac3 (x := x1) (HS.out.at 3 _ _ _ rfl)
        have b0l := blk_lt (HS.out.at 3 _ _ _ rfl)
        go_wp2_with fail
        clear b3c0 b3c1 b3c2 b3c3 b3c4 b3c5 b3c6 b3f0 b3f1 b3f2 b3f3 b3f4 b3f5 b3f6 b3l b0c0 b0c1 b0c2 b0f0 b0f1 b0f2 b0l
        have EQ1 := Lib.hid (HF1.out.trans (if_neg (by rw [← HC11.out]; exact T15.out)))
        have EQ2 := Lib.hid (HF2.out.trans (if_neg (by rw [← HC11.out]; exact T15.out)))
        exact ⟨⟨i + 1, y1, y2, by have := HLT.out; omega, by go_num, Lib.hid (((((HS.out).erase 0).addP (HS.out.p 5 _ _ rfl)).addP (by rw [EQ1.out]; exact (HS.out.p 4 _ _ rfl))).addP (by rw [EQ2.out]; exact (HS.out.p 3 _ _ rfl)))⟩, meas_up HLT.out⟩
    ·
      obtain rfl : i = es.length := by omega
      obtain ⟨b2c0, b2c1, b2c2, b2c3, b2c4, b2c5, b2f0, b2f1, b2f2, b2f3, b2f4, b2f5⟩ := fac6 (x := y1) (y := y2) (HS.out.at 0 _ _ _ rfl)
      have b2l := blk_lt (HS.out.at 0 _ _ _ rfl)
      have b1e := (HS.out.at 1 _ _ _ rfl)
      have b1c0 := blk_cell b1e 0 (.bool false) rfl
      have b1c1 := blk_cell b1e 1 (.slice none 0 0) rfl
      have b1c2 := blk_cell b1e 2 (.slice none 0 0) rfl
      have b1c3 := blk_cell b1e 3 (.bool false) rfl
      have b1c4 := blk_cell b1e 4 (.slice none 0 0) rfl
      have b1c5 := blk_cell b1e 5 (.slice none 0 0) rfl
      have b1f0 := blk_frozen b1e 0
      have b1f1 := blk_frozen b1e 1
      have b1f2 := blk_frozen b1e 2
      have b1f3 := blk_frozen b1e 3
      have b1f4 := blk_frozen b1e 4
      have b1f5 := blk_frozen b1e 5
      have b1l := blk_lt b1e
      clear b1e
      go_wp2_with fail
      clear b2c0 b2c1 b2c2 b2c3 b2c4 b2c5 b2f0 b2f1 b2f2 b2f3 b2f4 b2f5 b2l b1c0 b1c1 b1c2 b1c3 b1c4 b1c5 b1f0 b1f1 b1f2 b1f3 b1f4 b1f5 b1l
      generalize hW19 : ((((((wr).setCell _ _).setCell _ _).setCell _ _).setCell _ _).setCell _ _).setCell _ _ = W19 at *
      replace HS : Hid (Sx w W19 [(w.heap.size + 2, arr6 y1 y2, 55), (w.heap.size + 1, arr6 y1 y2, 55), (w.heap.size, x1.arr, 40)] [(true, y2.val, (rtUp es t es.length).2), (true, y1.val, (rtUp es t es.length).1), (true, x1.val, t)]) := by subst hW19; exact (HS.out).st_RR 1 r30 r30 y1 y2 rfl
      clear hW19
      obtain ⟨b1c0, b1c1, b1c2, b1c3, b1c4, b1c5, _⟩ := fac6 (x := y1) (y := y2) (HS.out.at 1 _ _ _ rfl)
      refine bodyPost_ret (v := .agg #[.bool y1.b, .slice y1.a y1.n y1.c, .slice y1.d y1.m y1.e, .bool y2.b, .slice y2.a y2.n y2.c, .slice y2.d y2.m y2.e]) (by simp [results, Tryz.results67, go_sem, b1c0, b1c1, b1c2, b1c3, b1c4, b1c5]) rfl ⟨_, rfl, (rngP (HS.out.p 1 _ _ rfl) (HS.out.p 0 _ _ rfl)), HS.out.bel⟩
end Go.Proofs.YtmfochplnchgcaaGreat

namespace Go.Proofs.YtmfochplnchgcaaGreat
open Go.RowKit

def cvErr (es : List Ent) (i : Nat) : Int :=
  bif decide (0 < i) && decide ((es.getD i (0, 0, 0)).1 ≤ (es.getD (i - 1) (0, 0, 0)).1) then 7 else bif !partB (es.getD i (0, 0, 0)).2.1 (es.getD i (0, 0, 0)).2.2 then 1 else
  bif decide (0 < i) && (decide (cmpR (es.getD i (0, 0, 0)).2.1 (es.getD (i - 1) (0, 0, 0)).2.1 < 0) || decide (cmpR (es.getD i (0, 0, 0)).2.2 (es.getD (i - 1) (0, 0, 0)).2.2 < 0)) then 1 else 0
def cvErrs (es : List Ent) : Nat → Int
  | 0 => 0
  | i + 1 => if cvErrs es i ≠ 0 then cvErrs es i else cvErr es i
def ctErr (es : List Ent) : Int := if es.length < 1 ∨ 16 < es.length then 4 else cvErrs es es.length
theorem cvErrs_next {es : List Ent} {i : Nat} (h : cvErrs es i = 0) (h1 : cvErr es i = 0) : cvErrs es (i + 1) = 0 := by
  show (if _ then _ else _) = (0 : Int)
  rw [h, h1]
  rfl
theorem cvErrs_stay {es : List Ent} {i n : Nat} (h : cvErrs es i ≠ 0) (hn : i ≤ n) : cvErrs es n = cvErrs es i := by
  induction n with
  | zero => obtain rfl : i = 0 := by omega
            rfl
  | succ n ih =>
    rcases Nat.lt_or_ge i (n + 1) with h1 | h1
    · have e := ih (by omega)
      show (if cvErrs es n ≠ 0 then cvErrs es n else _) = _
      rw [if_pos (by rw [e]; exact h), e]
    · obtain rfl : i = n + 1 := by omega
      rfl
theorem cvErrs_at {es : List Ent} {i : Nat} {e : Int} (h : cvErrs es i = 0) (h1 : cvErr es i = e) (h2 : e ≠ 0) (hi : i < es.length) (hl : ¬ (es.length < 1 ∨ 16 < es.length)) : ctErr es = e := by
  have e1 : cvErrs es (i + 1) = e := by
    show (if cvErrs es i ≠ 0 then _ else _) = e
    rw [if_neg (by rw [h]; simp), h1]
  unfold ctErr
  rw [if_neg hl, cvErrs_stay (by rw [e1]; exact h2) hi, e1]
theorem cvErr_0 {es : List Ent} {i : Nat} (h : ¬ 0 < i) : cvErr es i = bif !partB (es.getD i (0, 0, 0)).2.1 (es.getD i (0, 0, 0)).2.2 then 1 else 0 := by
  unfold cvErr
  rw [decide_eq_false h]
  simp
theorem cvErr_s {es : List Ent} {i j : Nat} (h : i = j + 1) : cvErr es i = bif decide ((es.getD i (0, 0, 0)).1 ≤ (es.getD j (0, 0, 0)).1) then 7 else bif !partB (es.getD i (0, 0, 0)).2.1 (es.getD i (0, 0, 0)).2.2 then 1 else
  bif (decide (cmpR (es.getD i (0, 0, 0)).2.1 (es.getD j (0, 0, 0)).2.1 < 0) || decide (cmpR (es.getD i (0, 0, 0)).2.2 (es.getD j (0, 0, 0)).2.2 < 0)) then 1 else 0 := by
  unfold cvErr
  rw [decide_eq_true (show 0 < i by omega), show i - 1 = j by omega]
  simp
set_option maxRecDepth 100000 in
set_option maxHeartbeats 4000000 in
theorem ctable_any (es : List Ent) (vt : Value) (w : World) (ht : TabOf IsRat w vt es) (hl : es.length ≤ 1000) (hI : entI es) (hZ : entS es) :
    Calls Tryz.prog 21 #[vt] w (RetInt (ctErr es) w) := by
  have HS := Lib.hid (Sx.init w)
  have HI := Lib.hid hI
  have HZ := Lib.hid hZ
  obtain ⟨ao, cap, rfl, hE⟩ := ht
  have HE := Lib.hid hE
  clear hE hI hZ
  by_cases h1 : es.length < 1
  ·
    have HR : Hid (ctErr es = 4) := by show _ = _; unfold ctErr; rw [if_pos (.inl h1)]
    have t1 : decide ((es.length : Int) < 1) = true := decide_eq_true (by omega)
    go_enter Tryz.func21, Tryz.ntmps21
    go_wp2_with fail
    go_ret
    exact ⟨by rw [HR.out] <;> rfl, HS.out.bel⟩
  by_cases h2 : 16 < es.length
  ·
    have HR : Hid (ctErr es = 4) := by show _ = _; unfold ctErr; rw [if_pos (.inr h2)]
    have t1 : decide ((es.length : Int) < 1) = false := decide_eq_false (by omega)
    have t2 : decide ((es.length : Int) > 16) = true := decide_eq_true (by omega)
    clear h1 h2
    go_enter Tryz.func21, Tryz.ntmps21
    go_wp2_with fail
    go_ret
    exact ⟨by rw [HR.out] <;> rfl, HS.out.bel⟩
  ·
    have HLN : Hid (¬ (es.length < 1 ∨ 16 < es.length)) := by show ¬ _; omega
    have t1 : decide ((es.length : Int) < 1) = false := decide_eq_false (by omega)
    have t2 : decide ((es.length : Int) > 16) = false := decide_eq_false (by omega)
    clear h1 h2
    go_enter Tryz.func21, Tryz.ntmps21
    go_wp2_with fail
    go_loopw [15] (fun u15 wr => ∃ (i : Nat), i ≤ es.length ∧ u15 = .int .i64 i ∧ Hid (cvErrs es i = 0) ∧ Hid (Sx w wr [] []))
      (fun u _ => es.length - (intOf u).toNat)
    case atStart => exact ⟨0, Nat.zero_le _, rfl, Lib.hid rfl, Lib.hid (HS.out.bare)⟩
    case round =>
      clear HS
      obtain ⟨i, hi, rfl, HOK, HS⟩ := hrel
      by_cases hlt : i < es.length
      ·
        have hlt' : (i : Int) < es.length := by omega
        have hge' : (0 : Int) ≤ i := by omega
        have HLT := Lib.hid hlt
        obtain ⟨b, off, rfl, hbl, hEE⟩ := HE.out (by omega)
        have HBL := Lib.hid hbl
        clear hbl
        obtain ⟨Ex, Ey, Eg0, Eg1, Eg2, Eg3, Eg4, Eg5, Eg6, Eh1, Eh2⟩ := hEE i hlt
        have E0 := Lib.hid Eg0
        have E1 := Lib.hid Eg1
        have E2 := Lib.hid Eg2
        have E3 := Lib.hid Eg3
        have E4 := Lib.hid Eg4
        have E5 := Lib.hid Eg5
        have E6 := Lib.hid Eg6
        clear Eg0 Eg1 Eg2 Eg3 Eg4 Eg5 Eg6
        replace HS := Lib.hid ((HS.out.addP (Eh1.below HS.out.bel)).addP (Eh2.below HS.out.bel))
        clear Eh1 Eh2
        have HSZ := Lib.hid (HZ.out i)
        by_cases hp : 0 < i
        ·
          obtain ⟨j, hj⟩ : ∃ j, i = j + 1 := ⟨i - 1, by omega⟩
          have hjl : j < es.length := by omega
          obtain ⟨Dx, Dy, Dg0, Dg1, Dg2, Dg3, Dg4, Dg5, Dg6, Dh1, Dh2⟩ := hEE j hjl
          have D0 := Lib.hid Dg0
          have D1 := Lib.hid Dg1
          have D2 := Lib.hid Dg2
          have D3 := Lib.hid Dg3
          have D4 := Lib.hid Dg4
          have D5 := Lib.hid Dg5
          have D6 := Lib.hid Dg6
          clear Dg0 Dg1 Dg2 Dg3 Dg4 Dg5 Dg6
          replace HS := Lib.hid ((HS.out.addP (Dh1.below HS.out.bel)).addP (Dh2.below HS.out.bel))
          clear Dh1 Dh2
          have HF := Lib.hid (cvErr_s (es := es) hj)
          have HSY := Lib.hid (HZ.out j)
          have hw : IntKind.i64.wrap ((i : Int) - 1) = (j : Int) := (IntWalk.i64_in _ (by omega)).trans (by omega)
          have hj1 : (0 : Int) ≤ j := by omega
          have hj2 : (j : Int) < es.length := by omega
          have tp1 : decide ((i : Int) > 0) = true := decide_eq_true (by omega)
          have tp2 : decide (0 < i) = true := decide_eq_true hp
          have hpI : (0 : Int) < i := by omega
          clear hjl hj
          clear hEE hlt
          generalize (es.getD i (0, 0, 0)).1 = f at *
          generalize (es.getD i (0, 0, 0)).2.1 = lo at *
          generalize (es.getD i (0, 0, 0)).2.2 = hi at *
          generalize (es.getD j (0, 0, 0)).1 = fp at *
          generalize (es.getD j (0, 0, 0)).2.1 = lop at *
          generalize (es.getD j (0, 0, 0)).2.2 = hip at *
          have Ec0 := (HS.out.bel.cell (p := ⟨b, off + i * 7, none⟩) HBL.out).trans E0.out
          have Ec1 := (HS.out.bel.cell (p := ⟨b, off + i * 7 + 1, none⟩) HBL.out).trans E1.out
          have Ec2 := (HS.out.bel.cell (p := ⟨b, off + i * 7 + 2, none⟩) HBL.out).trans E2.out
          have Ec3 := (HS.out.bel.cell (p := ⟨b, off + i * 7 + 3, none⟩) HBL.out).trans E3.out
          have Ec4 := (HS.out.bel.cell (p := ⟨b, off + i * 7 + 4, none⟩) HBL.out).trans E4.out
          have Ec5 := (HS.out.bel.cell (p := ⟨b, off + i * 7 + 5, none⟩) HBL.out).trans E5.out
          have Ec6 := (HS.out.bel.cell (p := ⟨b, off + i * 7 + 6, none⟩) HBL.out).trans E6.out
          go_wp2_with fail
          clear Ec0 Ec1 Ec2 Ec3 Ec4 Ec5 Ec6
          generalize hW1 : (wr).alloc (.cells _ _) = W1 at *
          replace HS : Hid (Sx w W1 [(wr.heap.size, #[.int .i64 f, .bool Ex.b, .slice Ex.a Ex.n Ex.c, .slice Ex.d Ex.m Ex.e, .bool Ey.b, .slice Ey.a Ey.n Ey.c, .slice Ey.d Ey.m Ey.e], 107)] [(true, Dy.val, hip), (true, Dx.val, lop), (true, Ey.val, hi), (true, Ex.val, lo)]) := by subst hW1; exact (HS.out).alloc (B := wr.heap.size) rfl (by rfl)
          clear hW1
          refine wp_region_held_drew (S := (fun w' => Sx w w' [(wr.heap.size, #[.int .i64 f, .bool Ex.b, .slice Ex.a Ex.n Ex.c, .slice Ex.d Ex.m Ex.e, .bool Ey.b, .slice Ey.a Ey.n Ey.c, .slice Ey.d Ey.m Ey.e], 107)] [])) (by kernel_rfl) ((HS.out.drew).bare) (fun hh => ?_)
          replace HS := Lib.hid HS.out.drew
          refine tkA (i := 0) (v := ?vpr2_0_k4) rfl (Or.inl ⟨by first | rfl | kernel_rfl, ?hypr2_0_k4⟩) (by assumption) ?repr2_0_k4
          case hypr2_0_k4 => (intro u hSu; (first | (go_simp; done) | (go_simp; with_reducible rfl)))
          try simp only [nb1, nb2, nb3, Act.put, nb4, nb5, nb6]
          refine tkA (i := 1) (v := ?vpr2_1_k6) rfl (Or.inl ⟨by first | rfl | kernel_rfl, ?hypr2_1_k6⟩) (by assumption) ?repr2_1_k6
          case hypr2_1_k6 => (intro u hSu; (first | (go_simp; done) | (go_simp; with_reducible rfl)))
          try simp only [nb1, nb2, nb3, Act.put, nb4, nb5, nb6]
          refine tkA (i := 2) (v := ?vpr2_2_k8) rfl (Or.inl ⟨by first | rfl | kernel_rfl, ?hypr2_2_k8⟩) (by assumption) ?repr2_2_k8
          case hypr2_2_k8 => (intro u hSu; (first | (go_simp; done) | (go_simp; with_reducible rfl)))
          try simp only [nb1, nb2, nb3, Act.put, nb4, nb5, nb6]
          refine tkA (i := 3) (v := ?vpr2_3_k10) rfl (Or.inl ⟨by first | rfl | kernel_rfl, ?hypr2_3_k10⟩) (by assumption) ?repr2_3_k10
          case hypr2_3_k10 => (intro u hSu; (first | (go_simp; done) | (go_simp; with_reducible rfl)))
          try simp only [nb1, nb2, nb3, Act.put, nb4, nb5, nb6]
          refine tkA (i := 4) (v := ?vpr2_4_k12) rfl (Or.inl ⟨by first | rfl | kernel_rfl, ?hypr2_4_k12⟩) (by assumption) ?repr2_4_k12
          case hypr2_4_k12 => (intro u hSu; (try dsimp only at hSu); have qb0e := (hSu.at 0 _ _ _ rfl); have qb0c0 := blk_cell qb0e 0 (.int .i64 f) rfl; have qb0c1 := blk_cell qb0e 1 (.bool Ex.b) rfl; have qb0c2 := blk_cell qb0e 2 (.slice Ex.a Ex.n Ex.c) rfl; have qb0c3 := blk_cell qb0e 3 (.slice Ex.d Ex.m Ex.e) rfl; have qb0c4 := blk_cell qb0e 4 (.bool Ey.b) rfl; have qb0c5 := blk_cell qb0e 5 (.slice Ey.a Ey.n Ey.c) rfl; have qb0c6 := blk_cell qb0e 6 (.slice Ey.d Ey.m Ey.e) rfl; clear qb0e; clear hSu; (first | (go_simp; done) | (go_simp; with_reducible rfl)))
          try simp only [nb1, nb2, nb3, Act.put, nb4, nb5, nb6]
          refine tkA (i := 5) (v := ?vpr2_5_k14) rfl (Or.inl ⟨by first | rfl | kernel_rfl, ?hypr2_5_k14⟩) (by assumption) ?repr2_5_k14
          case hypr2_5_k14 => (intro u hSu; (first | (go_simp; done) | (go_simp; with_reducible rfl)))
          try simp only [nb1, nb2, nb3, Act.put, nb4, nb5, nb6]
          refine tkA (i := 6) (v := ?vpr2_6_k16) rfl (Or.inl ⟨by first | rfl | kernel_rfl, ?hypr2_6_k16⟩) (by assumption) ?repr2_6_k16
          case hypr2_6_k16 => (intro u hSu; (first | (go_simp; done) | (go_simp; with_reducible rfl)))
          try simp only [nb1, nb2, nb3, Act.put, nb4, nb5, nb6]
          refine tkA (i := 7) (v := ?vpr2_7_k18) rfl (Or.inl ⟨by first | rfl | kernel_rfl, ?hypr2_7_k18⟩) (by assumption) ?repr2_7_k18
          case hypr2_7_k18 => (intro u hSu; (first | (go_simp; done) | (go_simp; with_reducible rfl)))
          try simp only [nb1, nb2, nb3, Act.put, nb4, nb5, nb6]
          refine tkA (i := 8) (v := ?vpr2_8_k20) rfl (Or.inl ⟨by first | rfl | kernel_rfl, ?hypr2_8_k20⟩) (by assumption) ?repr2_8_k20
          case hypr2_8_k20 => (intro u hSu; (first | (go_simp; done) | (go_simp; with_reducible rfl)))
          try simp only [nb1, nb2, nb3, Act.put, nb4, nb5, nb6]
          refine tkA (i := 9) (v := ?vpr2_9_k22) rfl (Or.inl ⟨by first | rfl | kernel_rfl, ?hypr2_9_k22⟩) (by assumption) ?repr2_9_k22
          case hypr2_9_k22 => (intro u hSu; (first | (go_simp; done) | (go_simp; with_reducible rfl)))
          try simp only [nb1, nb2, nb3, Act.put, nb4, nb5, nb6]
          refine tkA (i := 10) (v := ?vpr2_10_k24) rfl (Or.inl ⟨by first | rfl | kernel_rfl, ?hypr2_10_k24⟩) (by assumption) ?repr2_10_k24
          case hypr2_10_k24 => (intro u hSu; (try dsimp only at hSu); have Dc0 := (hSu.bel.cell (p := ⟨b, off + j * 7, none⟩) HBL.out).trans D0.out; have Dc1 := (hSu.bel.cell (p := ⟨b, off + j * 7 + 1, none⟩) HBL.out).trans D1.out; have Dc2 := (hSu.bel.cell (p := ⟨b, off + j * 7 + 2, none⟩) HBL.out).trans D2.out; have Dc3 := (hSu.bel.cell (p := ⟨b, off + j * 7 + 3, none⟩) HBL.out).trans D3.out; have Dc4 := (hSu.bel.cell (p := ⟨b, off + j * 7 + 4, none⟩) HBL.out).trans D4.out; have Dc5 := (hSu.bel.cell (p := ⟨b, off + j * 7 + 5, none⟩) HBL.out).trans D5.out; have Dc6 := (hSu.bel.cell (p := ⟨b, off + j * 7 + 6, none⟩) HBL.out).trans D6.out; clear hSu; (first | (go_simp; done) | (go_simp; with_reducible rfl)))
          try simp only [nb1, nb2, nb3, Act.put, nb4, nb5, nb6]
          by_cases t26p : f ≤ fp
          ·
            have t26 : decide (f ≤ fp) = true := decide_eq_true t26p
            have T26 := Lib.hid t26p
            clear t26p
            refine tkA (i := 11) (v := ?vpr2_11_k27) rfl (Or.inl ⟨by first | rfl | kernel_rfl, ?hypr2_11_k27⟩) (by assumption) ?repr2_11_k27
            case hypr2_11_k27 => (intro u hSu; (first | (go_simp; done) | (go_simp; with_reducible rfl)))
            try simp only [nb1, nb2, nb3, Act.put, nb4, nb5, nb6]
            refine tkA (i := 12) (v := ?vpr2_12_k29) rfl (Or.inl ⟨by first | rfl | kernel_rfl, ?hypr2_12_k29⟩) (by assumption) ?repr2_12_k29
            case hypr2_12_k29 => (intro u hSu; (first | (go_simp; done) | (go_simp; with_reducible rfl)))
            try simp only [nb1, nb2, nb3, Act.put, nb4, nb5, nb6]
            refine wpAnyH_done (by kernel_rfl) ?_ _
            have b0e := (HS.out.at 0 _ _ _ rfl)
            have b0c0 := blk_cell b0e 0 (.int .i64 f) rfl
            have b0c1 := blk_cell b0e 1 (.bool Ex.b) rfl
            have b0c2 := blk_cell b0e 2 (.slice Ex.a Ex.n Ex.c) rfl
            have b0c3 := blk_cell b0e 3 (.slice Ex.d Ex.m Ex.e) rfl
            have b0c4 := blk_cell b0e 4 (.bool Ey.b) rfl
            have b0c5 := blk_cell b0e 5 (.slice Ey.a Ey.n Ey.c) rfl
            have b0c6 := blk_cell b0e 6 (.slice Ey.d Ey.m Ey.e) rfl
            have b0f0 := blk_frozen b0e 0
            have b0f1 := blk_frozen b0e 1
            have b0f2 := blk_frozen b0e 2
            have b0f3 := blk_frozen b0e 3
            have b0f4 := blk_frozen b0e 4
            have b0f5 := blk_frozen b0e 5
            have b0f6 := blk_frozen b0e 6
            have b0l := blk_lt b0e
            clear b0e
            have Dc0 := (HS.out.bel.cell (p := ⟨b, off + j * 7, none⟩) HBL.out).trans D0.out
            have Dc1 := (HS.out.bel.cell (p := ⟨b, off + j * 7 + 1, none⟩) HBL.out).trans D1.out
            have Dc2 := (HS.out.bel.cell (p := ⟨b, off + j * 7 + 2, none⟩) HBL.out).trans D2.out
            have Dc3 := (HS.out.bel.cell (p := ⟨b, off + j * 7 + 3, none⟩) HBL.out).trans D3.out
            have Dc4 := (HS.out.bel.cell (p := ⟨b, off + j * 7 + 4, none⟩) HBL.out).trans D4.out
            have Dc5 := (HS.out.bel.cell (p := ⟨b, off + j * 7 + 5, none⟩) HBL.out).trans D5.out
            have Dc6 := (HS.out.bel.cell (p := ⟨b, off + j * 7 + 6, none⟩) HBL.out).trans D6.out
            go_wp2_with fail
            clear b0c0 b0c1 b0c2 b0c3 b0c4 b0c5 b0c6 b0f0 b0f1 b0f2 b0f3 b0f4 b0f5 b0f6 b0l Dc0 Dc1 Dc2 Dc3 Dc4 Dc5 Dc6
            have HR : Hid (ctErr es = 7) := cvErrs_at HOK.out (by first | (rw [HF.out]; simp only [t26, Bool.and_true, Bool.true_and, Bool.and_false, Bool.false_and, Bool.or_true, Bool.true_or, Bool.or_false, Bool.false_or, Bool.not_true, Bool.not_false, cond_true, cond_false]) | (rw [HF.out]; simp [t26])) (by omega) HLT.out HLN.out
            go_ret
            exact ⟨by rw [HR.out] <;> rfl, HS.out.bel⟩
          ·
            have t26 : decide (f ≤ fp) = false := decide_eq_false t26p
            have T26 := Lib.hid t26p
            clear t26p
            refine tkA (i := 11) (v := ?vpr2_11_k30) rfl (Or.inl ⟨by first | rfl | kernel_rfl, ?hypr2_11_k30⟩) (by assumption) ?repr2_11_k30
            case hypr2_11_k30 => (intro u hSu; (first | (go_simp; done) | (go_simp; with_reducible rfl)))
            try simp only [nb1, nb2, nb3, Act.put, nb4, nb5, nb6]
            refine tkA (i := 12) (v := ?vpr2_12_k32) rfl (Or.inl ⟨by first | rfl | kernel_rfl, ?hypr2_12_k32⟩) (by assumption) ?repr2_12_k32
            case hypr2_12_k32 => (intro u hSu; (first | (go_simp; done) | (go_simp; with_reducible rfl)))
            try simp only [nb1, nb2, nb3, Act.put, nb4, nb5, nb6]
            refine wpAnyH_done (by kernel_rfl) ?_ _
            have b0e := (HS.out.at 0 _ _ _ rfl)
            have b0c0 := blk_cell b0e 0 (.int .i64 f) rfl
            have b0c1 := blk_cell b0e 1 (.bool Ex.b) rfl
            have b0c2 := blk_cell b0e 2 (.slice Ex.a Ex.n Ex.c) rfl
            have b0c3 := blk_cell b0e 3 (.slice Ex.d Ex.m Ex.e) rfl
            have b0c4 := blk_cell b0e 4 (.bool Ey.b) rfl
            have b0c5 := blk_cell b0e 5 (.slice Ey.a Ey.n Ey.c) rfl
            have b0c6 := blk_cell b0e 6 (.slice Ey.d Ey.m Ey.e) rfl
            have b0f0 := blk_frozen b0e 0
            have b0f1 := blk_frozen b0e 1
            have b0f2 := blk_frozen b0e 2
            have b0f3 := blk_frozen b0e 3
            have b0f4 := blk_frozen b0e 4
            have b0f5 := blk_frozen b0e 5
            have b0f6 := blk_frozen b0e 6
            have b0l := blk_lt b0e
            clear b0e
            have Dc0 := (HS.out.bel.cell (p := ⟨b, off + j * 7, none⟩) HBL.out).trans D0.out
            have Dc1 := (HS.out.bel.cell (p := ⟨b, off + j * 7 + 1, none⟩) HBL.out).trans D1.out
            have Dc2 := (HS.out.bel.cell (p := ⟨b, off + j * 7 + 2, none⟩) HBL.out).trans D2.out
            have Dc3 := (HS.out.bel.cell (p := ⟨b, off + j * 7 + 3, none⟩) HBL.out).trans D3.out
            have Dc4 := (HS.out.bel.cell (p := ⟨b, off + j * 7 + 4, none⟩) HBL.out).trans D4.out
            have Dc5 := (HS.out.bel.cell (p := ⟨b, off + j * 7 + 5, none⟩) HBL.out).trans D5.out
            have Dc6 := (HS.out.bel.cell (p := ⟨b, off + j * 7 + 6, none⟩) HBL.out).trans D6.out
            go_wp2_with fail
            clear b0c0 b0c1 b0c2 b0c3 b0c4 b0c5 b0c6 b0f0 b0f1 b0f2 b0f3 b0f4 b0f5 b0f6 b0l Dc0 Dc1 Dc2 Dc3 Dc4 Dc5 Dc6
            refine wp_region_held_drew (S := (fun w' => Sx w w' [(wr.heap.size, #[.int .i64 f, .bool Ex.b, .slice Ex.a Ex.n Ex.c, .slice Ex.d Ex.m Ex.e, .bool Ey.b, .slice Ey.a Ey.n Ey.c, .slice Ey.d Ey.m Ey.e], 107)] [])) (by kernel_rfl) ((HS.out.drew).bare) (fun hh => ?_)
            replace HS := Lib.hid HS.out.drew
            refine tkA (i := 0) (v := ?vpr33_0_k35) rfl (Or.inl ⟨by first | rfl | kernel_rfl, ?hypr33_0_k35⟩) (by assumption) ?repr33_0_k35
            case hypr33_0_k35 => (intro u hSu; (first | (go_simp; done) | (go_simp; with_reducible rfl)))
            try simp only [nb1, nb2, nb3, Act.put, nb4, nb5, nb6]
            refine tkA (i := 1) (v := ?vpr33_1_k37) rfl (Or.inl ⟨by first | rfl | kernel_rfl, ?hypr33_1_k37⟩) (by assumption) ?repr33_1_k37
            case hypr33_1_k37 => (intro u hSu; (try dsimp only at hSu); have qb0e := (hSu.at 0 _ _ _ rfl); have qb0c0 := blk_cell qb0e 0 (.int .i64 f) rfl; have qb0c1 := blk_cell qb0e 1 (.bool Ex.b) rfl; have qb0c2 := blk_cell qb0e 2 (.slice Ex.a Ex.n Ex.c) rfl; have qb0c3 := blk_cell qb0e 3 (.slice Ex.d Ex.m Ex.e) rfl; have qb0c4 := blk_cell qb0e 4 (.bool Ey.b) rfl; have qb0c5 := blk_cell qb0e 5 (.slice Ey.a Ey.n Ey.c) rfl; have qb0c6 := blk_cell qb0e 6 (.slice Ey.d Ey.m Ey.e) rfl; clear qb0e; clear hSu; (first | (go_simp; done) | (go_simp; with_reducible rfl)))
            try simp only [nb1, nb2, nb3, Act.put, nb4, nb5, nb6]
            refine rdA (i := 2) rfl (fun K hK => ?_)
            go_simp
            cases t38 : partB lo hi with
            | true =>
              have a40 := HS.out.p 3 _ _ rfl
              have a41 := HS.out.p 2 _ _ rfl
              go_wp2_with (go_at_call 50; (with_reducible refine (part_any lo hi _ _ (rngP a40 a41) (szR_mono HSZ.out.2 (by omega))).mono ?_); rw [t38]; rintro e w39 ⟨rfl, hb39⟩)
              refine hK.out _ _ (Sx.below hh hb39) (fun hh => ?_)
              clear hK K
              try simp only [nb1, nb2, nb3, Act.put, nb4, nb5, nb6]
              replace HS := Lib.hid (HS.out.below hb39)
              clear hb39 a40 a41
              refine tkA (i := 3) (v := ?vpr33_3_k43) rfl (Or.inl ⟨by first | rfl | kernel_rfl, ?hypr33_3_k43⟩) (by assumption) ?repr33_3_k43
              case hypr33_3_k43 => (intro u hSu; (first | (go_simp; done) | (go_simp; with_reducible rfl)))
              try simp only [nb1, nb2, nb3, Act.put, nb4, nb5, nb6]
              refine tkA (i := 4) (v := ?vpr33_4_k45) rfl (Or.inl ⟨by first | rfl | kernel_rfl, ?hypr33_4_k45⟩) (by assumption) ?repr33_4_k45
              case hypr33_4_k45 => (intro u hSu; (first | (go_simp; done) | (go_simp; with_reducible rfl)))
              try simp only [nb1, nb2, nb3, Act.put, nb4, nb5, nb6]
              refine tkA (i := 5) (v := ?vpr33_5_k47) rfl (Or.inl ⟨by first | rfl | kernel_rfl, ?hypr33_5_k47⟩) (by assumption) ?repr33_5_k47
              case hypr33_5_k47 => (intro u hSu; (first | (go_simp; done) | (go_simp; with_reducible rfl)))
              try simp only [nb1, nb2, nb3, Act.put, nb4, nb5, nb6]
              refine tkA (i := 6) (v := ?vpr33_6_k49) rfl (Or.inl ⟨by first | rfl | kernel_rfl, ?hypr33_6_k49⟩) (by assumption) ?repr33_6_k49
              case hypr33_6_k49 => (intro u hSu; (first | (go_simp; done) | (go_simp; with_reducible rfl)))
              try simp only [nb1, nb2, nb3, Act.put, nb4, nb5, nb6]
              refine tkA (i := 7) (v := ?vpr33_7_k51) rfl (Or.inl ⟨by first | rfl | kernel_rfl, ?hypr33_7_k51⟩) (by assumption) ?repr33_7_k51
              case hypr33_7_k51 => (intro u hSu; (first | (go_simp; done) | (go_simp; with_reducible rfl)))
              try simp only [nb1, nb2, nb3, Act.put, nb4, nb5, nb6]
              refine tkA (i := 8) (v := ?vpr33_8_k53) rfl (Or.inl ⟨by first | rfl | kernel_rfl, ?hypr33_8_k53⟩) (by assumption) ?repr33_8_k53
              case hypr33_8_k53 => (intro u hSu; (first | (go_simp; done) | (go_simp; with_reducible rfl)))
              try simp only [nb1, nb2, nb3, Act.put, nb4, nb5, nb6]
              refine tkA (i := 9) (v := ?vpr33_9_k55) rfl (Or.inl ⟨by first | rfl | kernel_rfl, ?hypr33_9_k55⟩) (by assumption) ?repr33_9_k55
              case hypr33_9_k55 => (intro u hSu; (try dsimp only at hSu); have qb0e := (hSu.at 0 _ _ _ rfl); have qb0c0 := blk_cell qb0e 0 (.int .i64 f) rfl; have qb0c1 := blk_cell qb0e 1 (.bool Ex.b) rfl; have qb0c2 := blk_cell qb0e 2 (.slice Ex.a Ex.n Ex.c) rfl; have qb0c3 := blk_cell qb0e 3 (.slice Ex.d Ex.m Ex.e) rfl; have qb0c4 := blk_cell qb0e 4 (.bool Ey.b) rfl; have qb0c5 := blk_cell qb0e 5 (.slice Ey.a Ey.n Ey.c) rfl; have qb0c6 := blk_cell qb0e 6 (.slice Ey.d Ey.m Ey.e) rfl; clear qb0e; clear hSu; (first | (go_simp; done) | (go_simp; with_reducible rfl)))
              try simp only [nb1, nb2, nb3, Act.put, nb4, nb5, nb6]
              refine tkA (i := 11) (v := ?vpr33_11_k57) rfl (Or.inl ⟨by first | rfl | kernel_rfl, ?hypr33_11_k57⟩) (by assumption) ?repr33_11_k57
              case hypr33_11_k57 => (intro u hSu; (first | (go_simp; done) | (go_simp; with_reducible rfl)))
              try simp only [nb1, nb2, nb3, Act.put, nb4, nb5, nb6]
              refine tkA (i := 12) (v := ?vpr33_12_k59) rfl (Or.inl ⟨by first | rfl | kernel_rfl, ?hypr33_12_k59⟩) (by assumption) ?repr33_12_k59
              case hypr33_12_k59 => (intro u hSu; (first | (go_simp; done) | (go_simp; with_reducible rfl)))
              try simp only [nb1, nb2, nb3, Act.put, nb4, nb5, nb6]
              refine tkA (i := 13) (v := ?vpr33_13_k61) rfl (Or.inl ⟨by first | rfl | kernel_rfl, ?hypr33_13_k61⟩) (by assumption) ?repr33_13_k61
              case hypr33_13_k61 => (intro u hSu; (first | (go_simp; done) | (go_simp; with_reducible rfl)))
              try simp only [nb1, nb2, nb3, Act.put, nb4, nb5, nb6]
              refine tkA (i := 14) (v := ?vpr33_14_k63) rfl (Or.inl ⟨by first | rfl | kernel_rfl, ?hypr33_14_k63⟩) (by assumption) ?repr33_14_k63
              case hypr33_14_k63 => (intro u hSu; (first | (go_simp; done) | (go_simp; with_reducible rfl)))
              try simp only [nb1, nb2, nb3, Act.put, nb4, nb5, nb6]
              refine tkA (i := 15) (v := ?vpr33_15_k65) rfl (Or.inl ⟨by first | rfl | kernel_rfl, ?hypr33_15_k65⟩) (by assumption) ?repr33_15_k65
              case hypr33_15_k65 => (intro u hSu; (first | (go_simp; done) | (go_simp; with_reducible rfl)))
              try simp only [nb1, nb2, nb3, Act.put, nb4, nb5, nb6]
              refine tkA (i := 16) (v := ?vpr33_16_k67) rfl (Or.inl ⟨by first | rfl | kernel_rfl, ?hypr33_16_k67⟩) (by assumption) ?repr33_16_k67
              case hypr33_16_k67 => (intro u hSu; (try dsimp only at hSu); have Dc0 := (hSu.bel.cell (p := ⟨b, off + j * 7, none⟩) HBL.out).trans D0.out; have Dc1 := (hSu.bel.cell (p := ⟨b, off + j * 7 + 1, none⟩) HBL.out).trans D1.out; have Dc2 := (hSu.bel.cell (p := ⟨b, off + j * 7 + 2, none⟩) HBL.out).trans D2.out; have Dc3 := (hSu.bel.cell (p := ⟨b, off + j * 7 + 3, none⟩) HBL.out).trans D3.out; have Dc4 := (hSu.bel.cell (p := ⟨b, off + j * 7 + 4, none⟩) HBL.out).trans D4.out; have Dc5 := (hSu.bel.cell (p := ⟨b, off + j * 7 + 5, none⟩) HBL.out).trans D5.out; have Dc6 := (hSu.bel.cell (p := ⟨b, off + j * 7 + 6, none⟩) HBL.out).trans D6.out; clear hSu; (first | (go_simp; done) | (go_simp; with_reducible rfl)))
              try simp only [nb1, nb2, nb3, Act.put, nb4, nb5, nb6]
              refine rdA (i := 10) rfl (fun K hK => ?_)
              go_simp
              have a69 := HS.out.p 3 _ _ rfl
              have a70 := HS.out.p 2 _ _ rfl
              go_wp2_with (go_at_call 56; (with_reducible refine (rlo_any lo hi _ _ (rngP a69 a70)).mono ?_); rintro e w68 ⟨v68, rfl, hv68, hb68⟩; obtain ⟨z68, rfl⟩ := hv68.open3)
              refine hK.out _ _ (Sx.below hh hb68) (fun hh => ?_)
              clear hK K
              try simp only [nb1, nb2, nb3, Act.put, nb4, nb5, nb6]
              replace HS := Lib.hid (HS.out.below hb68)
              clear hb68 a69 a70
              replace HS := Lib.hid (HS.out.addP hv68)
              clear hv68
              refine rdA (i := 17) rfl (fun K hK => ?_)
              go_simp
              have a72 := HS.out.p 2 _ _ rfl
              have a73 := HS.out.p 1 _ _ rfl
              go_wp2_with (go_at_call 56; (with_reducible refine (rlo_any lop hip _ _ (rngP a72 a73)).mono ?_); rintro e w71 ⟨v71, rfl, hv71, hb71⟩; obtain ⟨z71, rfl⟩ := hv71.open3)
              refine hK.out _ _ (Sx.below hh hb71) (fun hh => ?_)
              clear hK K
              try simp only [nb1, nb2, nb3, Act.put, nb4, nb5, nb6]
              replace HS := Lib.hid (HS.out.below hb71)
              clear hb71 a72 a73
              replace HS := Lib.hid (HS.out.addP hv71)
              clear hv71
              refine rdA (i := 18) rfl (fun K hK => ?_)
              go_simp
              obtain ⟨c74, hc74⟩ : ∃ c, c = cmpR lo lop := ⟨_, rfl⟩
              have HC74 := Lib.hid hc74
              clear hc74
              have a75 := HS.out.p 1 _ _ rfl
              have a76 := HS.out.p 0 _ _ rfl
              go_wp2_with (go_at_call 34; (with_reducible refine (cmpRat_any lo lop _ _ _ a75 a76 (szR_mono HSZ.out.1 (by omega)) (szR_mono HSY.out.1 (by omega))).mono ?_); rw [← HC74.out]; rintro e w74 ⟨rfl, hb74⟩)
              refine hK.out _ _ (Sx.below hh hb74) (fun hh => ?_)
              clear hK K
              try simp only [nb1, nb2, nb3, Act.put, nb4, nb5, nb6]
              replace HS := Lib.hid (HS.out.below hb74)
              clear hb74 a75 a76
              by_cases t78p : c74 < 0
              ·
                have t78 : decide (c74 < 0) = true := decide_eq_true t78p
                have T78 := Lib.hid t78p
                clear t78p
                refine tkA (i := 19) (v := ?vpr33_19_k79) rfl (Or.inl ⟨by first | rfl | kernel_rfl, ?hypr33_19_k79⟩) (by assumption) ?repr33_19_k79
                case hypr33_19_k79 => (intro u hSu; (first | (go_simp; done) | (go_simp; with_reducible rfl)))
                try simp only [nb1, nb2, nb3, Act.put, nb4, nb5, nb6]
                refine tkA (i := 20) (v := ?vpr33_20_k81) rfl (Or.inl ⟨by first | rfl | kernel_rfl, ?hypr33_20_k81⟩) (by assumption) ?repr33_20_k81
                case hypr33_20_k81 => (intro u hSu; (first | (go_simp; done) | (go_simp; with_reducible rfl)))
                try simp only [nb1, nb2, nb3, Act.put, nb4, nb5, nb6]
                refine tkA (i := 21) (v := undef) rfl (Or.inr ⟨by first | rfl | kernel_rfl, rfl⟩) (by assumption) ?repr33_21_k82
                try simp only [nb1, nb2, nb3, Act.put, nb4, nb5, nb6]
                refine tkA (i := 22) (v := undef) rfl (Or.inr ⟨by first | rfl | kernel_rfl, rfl⟩) (by assumption) ?repr33_22_k83
                try simp only [nb1, nb2, nb3, Act.put, nb4, nb5, nb6]
                refine tkA (i := 23) (v := undef) rfl (Or.inr ⟨by first | rfl | kernel_rfl, rfl⟩) (by assumption) ?repr33_23_k84
                try simp only [nb1, nb2, nb3, Act.put, nb4, nb5, nb6]
                refine tkA (i := 24) (v := undef) rfl (Or.inr ⟨by first | rfl | kernel_rfl, rfl⟩) (by assumption) ?repr33_24_k85
                try simp only [nb1, nb2, nb3, Act.put, nb4, nb5, nb6]
                refine tkA (i := 25) (v := undef) rfl (Or.inr ⟨by first | rfl | kernel_rfl, rfl⟩) (by assumption) ?repr33_25_k86
                try simp only [nb1, nb2, nb3, Act.put, nb4, nb5, nb6]
                refine tkA (i := 26) (v := undef) rfl (Or.inr ⟨by first | rfl | kernel_rfl, rfl⟩) (by assumption) ?repr33_26_k87
                try simp only [nb1, nb2, nb3, Act.put, nb4, nb5, nb6]
                refine tkA (i := 27) (v := undef) rfl (Or.inr ⟨by first | rfl | kernel_rfl, rfl⟩) (by assumption) ?repr33_27_k88
                try simp only [nb1, nb2, nb3, Act.put, nb4, nb5, nb6]
                refine tkA (i := 28) (v := undef) rfl (Or.inr ⟨by first | rfl | kernel_rfl, rfl⟩) (by assumption) ?repr33_28_k89
                try simp only [nb1, nb2, nb3, Act.put, nb4, nb5, nb6]
                refine tkA (i := 29) (v := undef) rfl (Or.inr ⟨by first | rfl | kernel_rfl, rfl⟩) (by assumption) ?repr33_29_k90
                try simp only [nb1, nb2, nb3, Act.put, nb4, nb5, nb6]
                refine tkA (i := 30) (v := undef) rfl (Or.inr ⟨by first | rfl | kernel_rfl, rfl⟩) (by assumption) ?repr33_30_k91
                try simp only [nb1, nb2, nb3, Act.put, nb4, nb5, nb6]
                refine tkA (i := 31) (v := undef) rfl (Or.inr ⟨by first | rfl | kernel_rfl, rfl⟩) (by assumption) ?repr33_31_k92
                try simp only [nb1, nb2, nb3, Act.put, nb4, nb5, nb6]
                refine tkA (i := 32) (v := undef) rfl (Or.inr ⟨by first | rfl | kernel_rfl, rfl⟩) (by assumption) ?repr33_32_k93
                try simp only [nb1, nb2, nb3, Act.put, nb4, nb5, nb6]
                refine tkA (i := 33) (v := ?vpr33_33_k95) rfl (Or.inl ⟨by first | rfl | kernel_rfl, ?hypr33_33_k95⟩) (by assumption) ?repr33_33_k95
                case hypr33_33_k95 => (intro u hSu; (first | (go_simp; done) | (go_simp; with_reducible rfl)))
                try simp only [nb1, nb2, nb3, Act.put, nb4, nb5, nb6]
                refine tkA (i := 34) (v := ?vpr33_34_k97) rfl (Or.inl ⟨by first | rfl | kernel_rfl, ?hypr33_34_k97⟩) (by assumption) ?repr33_34_k97
                case hypr33_34_k97 => (intro u hSu; (first | (go_simp; done) | (go_simp; with_reducible rfl)))
                try simp only [nb1, nb2, nb3, Act.put, nb4, nb5, nb6]
                refine tkA (i := 35) (v := ?vpr33_35_k99) rfl (Or.inl ⟨by first | rfl | kernel_rfl, ?hypr33_35_k99⟩) (by assumption) ?repr33_35_k99
                case hypr33_35_k99 => (intro u hSu; (first | (go_simp; done) | (go_simp; with_reducible rfl)))
                try simp only [nb1, nb2, nb3, Act.put, nb4, nb5, nb6]
                refine wpAnyH_done (by kernel_rfl) ?_ _
                have b0e := (HS.out.at 0 _ _ _ rfl)
                have b0c0 := blk_cell b0e 0 (.int .i64 f) rfl
                have b0c1 := blk_cell b0e 1 (.bool Ex.b) rfl
                have b0c2 := blk_cell b0e 2 (.slice Ex.a Ex.n Ex.c) rfl
                have b0c3 := blk_cell b0e 3 (.slice Ex.d Ex.m Ex.e) rfl
                have b0c4 := blk_cell b0e 4 (.bool Ey.b) rfl
                have b0c5 := blk_cell b0e 5 (.slice Ey.a Ey.n Ey.c) rfl
                have b0c6 := blk_cell b0e 6 (.slice Ey.d Ey.m Ey.e) rfl
                have b0f0 := blk_frozen b0e 0
                have b0f1 := blk_frozen b0e 1
                have b0f2 := blk_frozen b0e 2
                have b0f3 := blk_frozen b0e 3
                have b0f4 := blk_frozen b0e 4
                have b0f5 := blk_frozen b0e 5
                have b0f6 := blk_frozen b0e 6
                have b0l := blk_lt b0e
                clear b0e
                have Dc0 := (HS.out.bel.cell (p := ⟨b, off + j * 7, none⟩) HBL.out).trans D0.out
                have Dc1 := (HS.out.bel.cell (p := ⟨b, off + j * 7 + 1, none⟩) HBL.out).trans D1.out
                have Dc2 := (HS.out.bel.cell (p := ⟨b, off + j * 7 + 2, none⟩) HBL.out).trans D2.out
                have Dc3 := (HS.out.bel.cell (p := ⟨b, off + j * 7 + 3, none⟩) HBL.out).trans D3.out
                have Dc4 := (HS.out.bel.cell (p := ⟨b, off + j * 7 + 4, none⟩) HBL.out).trans D4.out
                have Dc5 := (HS.out.bel.cell (p := ⟨b, off + j * 7 + 5, none⟩) HBL.out).trans D5.out
                have Dc6 := (HS.out.bel.cell (p := ⟨b, off + j * 7 + 6, none⟩) HBL.out).trans D6.out
                go_wp2_with fail
                clear b0c0 b0c1 b0c2 b0c3 b0c4 b0c5 b0c6 b0f0 b0f1 b0f2 b0f3 b0f4 b0f5 b0f6 b0l Dc0 Dc1 Dc2 Dc3 Dc4 Dc5 Dc6
                have HR : Hid (ctErr es = 1) := cvErrs_at HOK.out (by first | (rw [HF.out]; simp only [← HC74.out, t26, t38, t78, Bool.and_true, Bool.true_and, Bool.and_false, Bool.false_and, Bool.or_true, Bool.true_or, Bool.or_false, Bool.false_or, Bool.not_true, Bool.not_false, cond_true, cond_false]) | (rw [HF.out]; simp [← HC74.out, t26, t38, t78])) (by omega) HLT.out HLN.out
                go_ret
                exact ⟨by rw [HR.out] <;> rfl, HS.out.bel⟩
              ·
                have t78 : decide (c74 < 0) = false := decide_eq_false t78p
                have T78 := Lib.hid t78p
                clear t78p
                refine tkA (i := 19) (v := ?vpr33_19_k100) rfl (Or.inl ⟨by first | rfl | kernel_rfl, ?hypr33_19_k100⟩) (by assumption) ?repr33_19_k100
                case hypr33_19_k100 => (intro u hSu; (first | (go_simp; done) | (go_simp; with_reducible rfl)))
                try simp only [nb1, nb2, nb3, Act.put, nb4, nb5, nb6]
                refine tkA (i := 20) (v := ?vpr33_20_k102) rfl (Or.inl ⟨by first | rfl | kernel_rfl, ?hypr33_20_k102⟩) (by assumption) ?repr33_20_k102
                case hypr33_20_k102 => (intro u hSu; (first | (go_simp; done) | (go_simp; with_reducible rfl)))
                try simp only [nb1, nb2, nb3, Act.put, nb4, nb5, nb6]
                refine tkA (i := 21) (v := ?vpr33_21_k104) rfl (Or.inl ⟨by first | rfl | kernel_rfl, ?hypr33_21_k104⟩) (by assumption) ?repr33_21_k104
                case hypr33_21_k104 => (intro u hSu; (first | (go_simp; done) | (go_simp; with_reducible rfl)))
                try simp only [nb1, nb2, nb3, Act.put, nb4, nb5, nb6]
                refine tkA (i := 22) (v := ?vpr33_22_k106) rfl (Or.inl ⟨by first | rfl | kernel_rfl, ?hypr33_22_k106⟩) (by assumption) ?repr33_22_k106
                case hypr33_22_k106 => (intro u hSu; (try dsimp only at hSu); have qb0e := (hSu.at 0 _ _ _ rfl); have qb0c0 := blk_cell qb0e 0 (.int .i64 f) rfl; have qb0c1 := blk_cell qb0e 1 (.bool Ex.b) rfl; have qb0c2 := blk_cell qb0e 2 (.slice Ex.a Ex.n Ex.c) rfl; have qb0c3 := blk_cell qb0e 3 (.slice Ex.d Ex.m Ex.e) rfl; have qb0c4 := blk_cell qb0e 4 (.bool Ey.b) rfl; have qb0c5 := blk_cell qb0e 5 (.slice Ey.a Ey.n Ey.c) rfl; have qb0c6 := blk_cell qb0e 6 (.slice Ey.d Ey.m Ey.e) rfl; clear qb0e; clear hSu; (first | (go_simp; done) | (go_simp; with_reducible rfl)))
                try simp only [nb1, nb2, nb3, Act.put, nb4, nb5, nb6]
                refine tkA (i := 24) (v := ?vpr33_24_k108) rfl (Or.inl ⟨by first | rfl | kernel_rfl, ?hypr33_24_k108⟩) (by assumption) ?repr33_24_k108
                case hypr33_24_k108 => (intro u hSu; (first | (go_simp; done) | (go_simp; with_reducible rfl)))
                try simp only [nb1, nb2, nb3, Act.put, nb4, nb5, nb6]
                refine tkA (i := 25) (v := ?vpr33_25_k110) rfl (Or.inl ⟨by first | rfl | kernel_rfl, ?hypr33_25_k110⟩) (by assumption) ?repr33_25_k110
                case hypr33_25_k110 => (intro u hSu; (first | (go_simp; done) | (go_simp; with_reducible rfl)))
                try simp only [nb1, nb2, nb3, Act.put, nb4, nb5, nb6]
                refine tkA (i := 26) (v := ?vpr33_26_k112) rfl (Or.inl ⟨by first | rfl | kernel_rfl, ?hypr33_26_k112⟩) (by assumption) ?repr33_26_k112
                case hypr33_26_k112 => (intro u hSu; (first | (go_simp; done) | (go_simp; with_reducible rfl)))
                try simp only [nb1, nb2, nb3, Act.put, nb4, nb5, nb6]
                refine tkA (i := 27) (v := ?vpr33_27_k114) rfl (Or.inl ⟨by first | rfl | kernel_rfl, ?hypr33_27_k114⟩) (by assumption) ?repr33_27_k114
                case hypr33_27_k114 => (intro u hSu; (first | (go_simp; done) | (go_simp; with_reducible rfl)))
                try simp only [nb1, nb2, nb3, Act.put, nb4, nb5, nb6]
                refine tkA (i := 28) (v := ?vpr33_28_k116) rfl (Or.inl ⟨by first | rfl | kernel_rfl, ?hypr33_28_k116⟩) (by assumption) ?repr33_28_k116
                case hypr33_28_k116 => (intro u hSu; (first | (go_simp; done) | (go_simp; with_reducible rfl)))
                try simp only [nb1, nb2, nb3, Act.put, nb4, nb5, nb6]
                refine tkA (i := 29) (v := ?vpr33_29_k118) rfl (Or.inl ⟨by first | rfl | kernel_rfl, ?hypr33_29_k118⟩) (by assumption) ?repr33_29_k118
                case hypr33_29_k118 => (intro u hSu; (try dsimp only at hSu); have Dc0 := (hSu.bel.cell (p := ⟨b, off + j * 7, none⟩) HBL.out).trans D0.out; have Dc1 := (hSu.bel.cell (p := ⟨b, off + j * 7 + 1, none⟩) HBL.out).trans D1.out; have Dc2 := (hSu.bel.cell (p := ⟨b, off + j * 7 + 2, none⟩) HBL.out).trans D2.out; have Dc3 := (hSu.bel.cell (p := ⟨b, off + j * 7 + 3, none⟩) HBL.out).trans D3.out; have Dc4 := (hSu.bel.cell (p := ⟨b, off + j * 7 + 4, none⟩) HBL.out).trans D4.out; have Dc5 := (hSu.bel.cell (p := ⟨b, off + j * 7 + 5, none⟩) HBL.out).trans D5.out; have Dc6 := (hSu.bel.cell (p := ⟨b, off + j * 7 + 6, none⟩) HBL.out).trans D6.out; clear hSu; (first | (go_simp; done) | (go_simp; with_reducible rfl)))
                try simp only [nb1, nb2, nb3, Act.put, nb4, nb5, nb6]
                refine rdA (i := 23) rfl (fun K hK => ?_)
                go_simp
                have a120 := HS.out.p 5 _ _ rfl
                have a121 := HS.out.p 4 _ _ rfl
                go_wp2_with (go_at_call 57; (with_reducible refine (rhi_any lo hi _ _ (rngP a120 a121)).mono ?_); rintro e w119 ⟨v119, rfl, hv119, hb119⟩; obtain ⟨z119, rfl⟩ := hv119.open3)
                refine hK.out _ _ (Sx.below hh hb119) (fun hh => ?_)
                clear hK K
                try simp only [nb1, nb2, nb3, Act.put, nb4, nb5, nb6]
                replace HS := Lib.hid (HS.out.below hb119)
                clear hb119 a120 a121
                replace HS := Lib.hid (HS.out.addP hv119)
                clear hv119
                refine rdA (i := 30) rfl (fun K hK => ?_)
                go_simp
                have a123 := HS.out.p 4 _ _ rfl
                have a124 := HS.out.p 3 _ _ rfl
                go_wp2_with (go_at_call 57; (with_reducible refine (rhi_any lop hip _ _ (rngP a123 a124)).mono ?_); rintro e w122 ⟨v122, rfl, hv122, hb122⟩; obtain ⟨z122, rfl⟩ := hv122.open3)
                refine hK.out _ _ (Sx.below hh hb122) (fun hh => ?_)
                clear hK K
                try simp only [nb1, nb2, nb3, Act.put, nb4, nb5, nb6]
                replace HS := Lib.hid (HS.out.below hb122)
                clear hb122 a123 a124
                replace HS := Lib.hid (HS.out.addP hv122)
                clear hv122
                refine rdA (i := 31) rfl (fun K hK => ?_)
                go_simp
                obtain ⟨c125, hc125⟩ : ∃ c, c = cmpR hi hip := ⟨_, rfl⟩
                have HC125 := Lib.hid hc125
                clear hc125
                have a126 := HS.out.p 1 _ _ rfl
                have a127 := HS.out.p 0 _ _ rfl
                go_wp2_with (go_at_call 34; (with_reducible refine (cmpRat_any hi hip _ _ _ a126 a127 (szR_mono HSZ.out.2 (by omega)) (szR_mono HSY.out.2 (by omega))).mono ?_); rw [← HC125.out]; rintro e w125 ⟨rfl, hb125⟩)
                refine hK.out _ _ (Sx.below hh hb125) (fun hh => ?_)
                clear hK K
                try simp only [nb1, nb2, nb3, Act.put, nb4, nb5, nb6]
                replace HS := Lib.hid (HS.out.below hb125)
                clear hb125 a126 a127
                by_cases t129p : c125 < 0
                ·
                  have t129 : decide (c125 < 0) = true := decide_eq_true t129p
                  have T129 := Lib.hid t129p
                  clear t129p
                  refine tkA (i := 32) (v := ?vpr33_32_k130) rfl (Or.inl ⟨by first | rfl | kernel_rfl, ?hypr33_32_k130⟩) (by assumption) ?repr33_32_k130
                  case hypr33_32_k130 => (intro u hSu; (first | (go_simp; done) | (go_simp; with_reducible rfl)))
                  try simp only [nb1, nb2, nb3, Act.put, nb4, nb5, nb6]
                  refine tkA (i := 33) (v := ?vpr33_33_k132) rfl (Or.inl ⟨by first | rfl | kernel_rfl, ?hypr33_33_k132⟩) (by assumption) ?repr33_33_k132
                  case hypr33_33_k132 => (intro u hSu; (first | (go_simp; done) | (go_simp; with_reducible rfl)))
                  try simp only [nb1, nb2, nb3, Act.put, nb4, nb5, nb6]
                  refine tkA (i := 34) (v := ?vpr33_34_k134) rfl (Or.inl ⟨by first | rfl | kernel_rfl, ?hypr33_34_k134⟩) (by assumption) ?repr33_34_k134
                  case hypr33_34_k134 => (intro u hSu; (first | (go_simp; done) | (go_simp; with_reducible rfl)))
                  try simp only [nb1, nb2, nb3, Act.put, nb4, nb5, nb6]
                  refine tkA (i := 35) (v := ?vpr33_35_k136) rfl (Or.inl ⟨by first | rfl | kernel_rfl, ?hypr33_35_k136⟩) (by assumption) ?repr33_35_k136
                  case hypr33_35_k136 => (intro u hSu; (first | (go_simp; done) | (go_simp; with_reducible rfl)))
                  try simp only [nb1, nb2, nb3, Act.put, nb4, nb5, nb6]
                  refine wpAnyH_done (by kernel_rfl) ?_ _
                  have b0e := (HS.out.at 0 _ _ _ rfl)
                  have b0c0 := blk_cell b0e 0 (.int .i64 f) rfl
                  have b0c1 := blk_cell b0e 1 (.bool Ex.b) rfl
                  have b0c2 := blk_cell b0e 2 (.slice Ex.a Ex.n Ex.c) rfl
                  have b0c3 := blk_cell b0e 3 (.slice Ex.d Ex.m Ex.e) rfl
                  have b0c4 := blk_cell b0e 4 (.bool Ey.b) rfl
                  have b0c5 := blk_cell b0e 5 (.slice Ey.a Ey.n Ey.c) rfl
                  have b0c6 := blk_cell b0e 6 (.slice Ey.d Ey.m Ey.e) rfl
                  have b0f0 := blk_frozen b0e 0
                  have b0f1 := blk_frozen b0e 1
                  have b0f2 := blk_frozen b0e 2
                  have b0f3 := blk_frozen b0e 3
                  have b0f4 := blk_frozen b0e 4
                  have b0f5 := blk_frozen b0e 5
                  have b0f6 := blk_frozen b0e 6
                  have b0l := blk_lt b0e
                  clear b0e
                  have Dc0 := (HS.out.bel.cell (p := ⟨b, off + j * 7, none⟩) HBL.out).trans D0.out
                  have Dc1 := (HS.out.bel.cell (p := ⟨b, off + j * 7 + 1, none⟩) HBL.out).trans D1.out
                  have Dc2 := (HS.out.bel.cell (p := ⟨b, off + j * 7 + 2, none⟩) HBL.out).trans D2.out
                  have Dc3 := (HS.out.bel.cell (p := ⟨b, off + j * 7 + 3, none⟩) HBL.out).trans D3.out
                  have Dc4 := (HS.out.bel.cell (p := ⟨b, off + j * 7 + 4, none⟩) HBL.out).trans D4.out
                  have Dc5 := (HS.out.bel.cell (p := ⟨b, off + j * 7 + 5, none⟩) HBL.out).trans D5.out
                  have Dc6 := (HS.out.bel.cell (p := ⟨b, off + j * 7 + 6, none⟩) HBL.out).trans D6.out
                  go_wp2_with fail
                  clear b0c0 b0c1 b0c2 b0c3 b0c4 b0c5 b0c6 b0f0 b0f1 b0f2 b0f3 b0f4 b0f5 b0f6 b0l Dc0 Dc1 Dc2 Dc3 Dc4 Dc5 Dc6
                  have HR : Hid (ctErr es = 1) := cvErrs_at HOK.out (by first | (rw [HF.out]; simp only [← HC74.out, ← HC125.out, t26, t38, t78, t129, Bool.and_true, Bool.true_and, Bool.and_false, Bool.false_and, Bool.or_true, Bool.true_or, Bool.or_false, Bool.false_or, Bool.not_true, Bool.not_false, cond_true, cond_false]) | (rw [HF.out]; simp [← HC74.out, ← HC125.out, t26, t38, t78, t129])) (by omega) HLT.out HLN.out
                  go_ret
                  exact ⟨by rw [HR.out] <;> rfl, HS.out.bel⟩
                ·
                  have t129 : decide (c125 < 0) = false := decide_eq_false t129p
                  have T129 := Lib.hid t129p
                  clear t129p
                  refine tkA (i := 32) (v := ?vpr33_32_k137) rfl (Or.inl ⟨by first | rfl | kernel_rfl, ?hypr33_32_k137⟩) (by assumption) ?repr33_32_k137
                  case hypr33_32_k137 => (intro u hSu; (first | (go_simp; done) | (go_simp; with_reducible rfl)))
                  try simp only [nb1, nb2, nb3, Act.put, nb4, nb5, nb6]
                  refine tkA (i := 33) (v := ?vpr33_33_k139) rfl (Or.inl ⟨by first | rfl | kernel_rfl, ?hypr33_33_k139⟩) (by assumption) ?repr33_33_k139
                  case hypr33_33_k139 => (intro u hSu; (first | (go_simp; done) | (go_simp; with_reducible rfl)))
                  try simp only [nb1, nb2, nb3, Act.put, nb4, nb5, nb6]
                  refine tkA (i := 34) (v := ?vpr33_34_k141) rfl (Or.inl ⟨by first | rfl | kernel_rfl, ?hypr33_34_k141⟩) (by assumption) ?repr33_34_k141
                  case hypr33_34_k141 => (intro u hSu; (first | (go_simp; done) | (go_simp; with_reducible rfl)))
                  try simp only [nb1, nb2, nb3, Act.put, nb4, nb5, nb6]
                  refine tkA (i := 35) (v := ?vpr33_35_k143) rfl (Or.inl ⟨by first | rfl | kernel_rfl, ?hypr33_35_k143⟩) (by assumption) ?repr33_35_k143
                  case hypr33_35_k143 => (intro u hSu; (first | (go_simp; done) | (go_simp; with_reducible rfl)))
                  try simp only [nb1, nb2, nb3, Act.put, nb4, nb5, nb6]
                  refine wpAnyH_done (by kernel_rfl) ?_ _
                  have b0e := (HS.out.at 0 _ _ _ rfl)
                  have b0c0 := blk_cell b0e 0 (.int .i64 f) rfl
                  have b0c1 := blk_cell b0e 1 (.bool Ex.b) rfl
                  have b0c2 := blk_cell b0e 2 (.slice Ex.a Ex.n Ex.c) rfl
                  have b0c3 := blk_cell b0e 3 (.slice Ex.d Ex.m Ex.e) rfl
                  have b0c4 := blk_cell b0e 4 (.bool Ey.b) rfl
                  have b0c5 := blk_cell b0e 5 (.slice Ey.a Ey.n Ey.c) rfl
                  have b0c6 := blk_cell b0e 6 (.slice Ey.d Ey.m Ey.e) rfl
                  have b0f0 := blk_frozen b0e 0
                  have b0f1 := blk_frozen b0e 1
                  have b0f2 := blk_frozen b0e 2
                  have b0f3 := blk_frozen b0e 3
                  have b0f4 := blk_frozen b0e 4
                  have b0f5 := blk_frozen b0e 5
                  have b0f6 := blk_frozen b0e 6
                  have b0l := blk_lt b0e
                  clear b0e
                  have Dc0 := (HS.out.bel.cell (p := ⟨b, off + j * 7, none⟩) HBL.out).trans D0.out
                  have Dc1 := (HS.out.bel.cell (p := ⟨b, off + j * 7 + 1, none⟩) HBL.out).trans D1.out
                  have Dc2 := (HS.out.bel.cell (p := ⟨b, off + j * 7 + 2, none⟩) HBL.out).trans D2.out
                  have Dc3 := (HS.out.bel.cell (p := ⟨b, off + j * 7 + 3, none⟩) HBL.out).trans D3.out
                  have Dc4 := (HS.out.bel.cell (p := ⟨b, off + j * 7 + 4, none⟩) HBL.out).trans D4.out
                  have Dc5 := (HS.out.bel.cell (p := ⟨b, off + j * 7 + 5, none⟩) HBL.out).trans D5.out
                  have Dc6 := (HS.out.bel.cell (p := ⟨b, off + j * 7 + 6, none⟩) HBL.out).trans D6.out
                  go_wp2_with fail
                  clear b0c0 b0c1 b0c2 b0c3 b0c4 b0c5 b0c6 b0f0 b0f1 b0f2 b0f3 b0f4 b0f5 b0f6 b0l Dc0 Dc1 Dc2 Dc3 Dc4 Dc5 Dc6
                  exact ⟨⟨i + 1, by have := HLT.out; omega, by go_num, Lib.hid (cvErrs_next HOK.out (by first | (rw [HF.out]; simp only [← HC74.out, ← HC125.out, t26, t38, t78, t129, Bool.and_true, Bool.true_and, Bool.and_false, Bool.false_and, Bool.or_true, Bool.true_or, Bool.or_false, Bool.false_or, Bool.not_true, Bool.not_false, cond_true, cond_false]) | (rw [HF.out]; simp [← HC74.out, ← HC125.out, t26, t38, t78, t129]))), Lib.hid ((HS.out).erase 0)⟩, meas_up HLT.out⟩
            | false =>
              have a145 := HS.out.p 3 _ _ rfl
              have a146 := HS.out.p 2 _ _ rfl
              go_wp2_with (go_at_call 50; (with_reducible refine (part_any lo hi _ _ (rngP a145 a146) (szR_mono HSZ.out.2 (by omega))).mono ?_); rw [t38]; rintro e w144 ⟨rfl, hb144⟩)
              refine hK.out _ _ (Sx.below hh hb144) (fun hh => ?_)
              clear hK K
              try simp only [nb1, nb2, nb3, Act.put, nb4, nb5, nb6]
              replace HS := Lib.hid (HS.out.below hb144)
              clear hb144 a145 a146
              refine tkA (i := 3) (v := ?vpr33_3_k148) rfl (Or.inl ⟨by first | rfl | kernel_rfl, ?hypr33_3_k148⟩) (by assumption) ?repr33_3_k148
              case hypr33_3_k148 => (intro u hSu; (first | (go_simp; done) | (go_simp; with_reducible rfl)))
              try simp only [nb1, nb2, nb3, Act.put, nb4, nb5, nb6]
              refine tkA (i := 4) (v := ?vpr33_4_k150) rfl (Or.inl ⟨by first | rfl | kernel_rfl, ?hypr33_4_k150⟩) (by assumption) ?repr33_4_k150
              case hypr33_4_k150 => (intro u hSu; (first | (go_simp; done) | (go_simp; with_reducible rfl)))
              try simp only [nb1, nb2, nb3, Act.put, nb4, nb5, nb6]
              refine tkA (i := 5) (v := undef) rfl (Or.inr ⟨by first | rfl | kernel_rfl, rfl⟩) (by assumption) ?repr33_5_k151
              try simp only [nb1, nb2, nb3, Act.put, nb4, nb5, nb6]
              refine tkA (i := 6) (v := undef) rfl (Or.inr ⟨by first | rfl | kernel_rfl, rfl⟩) (by assumption) ?repr33_6_k152
              try simp only [nb1, nb2, nb3, Act.put, nb4, nb5, nb6]
              refine tkA (i := 7) (v := undef) rfl (Or.inr ⟨by first | rfl | kernel_rfl, rfl⟩) (by assumption) ?repr33_7_k153
              try simp only [nb1, nb2, nb3, Act.put, nb4, nb5, nb6]
              refine tkA (i := 8) (v := undef) rfl (Or.inr ⟨by first | rfl | kernel_rfl, rfl⟩) (by assumption) ?repr33_8_k154
              try simp only [nb1, nb2, nb3, Act.put, nb4, nb5, nb6]
              refine tkA (i := 9) (v := undef) rfl (Or.inr ⟨by first | rfl | kernel_rfl, rfl⟩) (by assumption) ?repr33_9_k155
              try simp only [nb1, nb2, nb3, Act.put, nb4, nb5, nb6]
              refine tkA (i := 10) (v := undef) rfl (Or.inr ⟨by first | rfl | kernel_rfl, rfl⟩) (by assumption) ?repr33_10_k156
              try simp only [nb1, nb2, nb3, Act.put, nb4, nb5, nb6]
              refine tkA (i := 11) (v := undef) rfl (Or.inr ⟨by first | rfl | kernel_rfl, rfl⟩) (by assumption) ?repr33_11_k157
              try simp only [nb1, nb2, nb3, Act.put, nb4, nb5, nb6]
              refine tkA (i := 12) (v := undef) rfl (Or.inr ⟨by first | rfl | kernel_rfl, rfl⟩) (by assumption) ?repr33_12_k158
              try simp only [nb1, nb2, nb3, Act.put, nb4, nb5, nb6]
              refine tkA (i := 13) (v := undef) rfl (Or.inr ⟨by first | rfl | kernel_rfl, rfl⟩) (by assumption) ?repr33_13_k159
              try simp only [nb1, nb2, nb3, Act.put, nb4, nb5, nb6]
              refine tkA (i := 14) (v := undef) rfl (Or.inr ⟨by first | rfl | kernel_rfl, rfl⟩) (by assumption) ?repr33_14_k160
              try simp only [nb1, nb2, nb3, Act.put, nb4, nb5, nb6]
              refine tkA (i := 15) (v := undef) rfl (Or.inr ⟨by first | rfl | kernel_rfl, rfl⟩) (by assumption) ?repr33_15_k161
              try simp only [nb1, nb2, nb3, Act.put, nb4, nb5, nb6]
              refine tkA (i := 16) (v := undef) rfl (Or.inr ⟨by first | rfl | kernel_rfl, rfl⟩) (by assumption) ?repr33_16_k162
              try simp only [nb1, nb2, nb3, Act.put, nb4, nb5, nb6]
              refine tkA (i := 17) (v := undef) rfl (Or.inr ⟨by first | rfl | kernel_rfl, rfl⟩) (by assumption) ?repr33_17_k163
              try simp only [nb1, nb2, nb3, Act.put, nb4, nb5, nb6]
              refine tkA (i := 18) (v := undef) rfl (Or.inr ⟨by first | rfl | kernel_rfl, rfl⟩) (by assumption) ?repr33_18_k164
              try simp only [nb1, nb2, nb3, Act.put, nb4, nb5, nb6]
              refine tkA (i := 19) (v := undef) rfl (Or.inr ⟨by first | rfl | kernel_rfl, rfl⟩) (by assumption) ?repr33_19_k165
              try simp only [nb1, nb2, nb3, Act.put, nb4, nb5, nb6]
              refine tkA (i := 20) (v := undef) rfl (Or.inr ⟨by first | rfl | kernel_rfl, rfl⟩) (by assumption) ?repr33_20_k166
              try simp only [nb1, nb2, nb3, Act.put, nb4, nb5, nb6]
              refine tkA (i := 21) (v := undef) rfl (Or.inr ⟨by first | rfl | kernel_rfl, rfl⟩) (by assumption) ?repr33_21_k167
              try simp only [nb1, nb2, nb3, Act.put, nb4, nb5, nb6]
              refine tkA (i := 22) (v := undef) rfl (Or.inr ⟨by first | rfl | kernel_rfl, rfl⟩) (by assumption) ?repr33_22_k168
              try simp only [nb1, nb2, nb3, Act.put, nb4, nb5, nb6]
              refine tkA (i := 23) (v := undef) rfl (Or.inr ⟨by first | rfl | kernel_rfl, rfl⟩) (by assumption) ?repr33_23_k169
              try simp only [nb1, nb2, nb3, Act.put, nb4, nb5, nb6]
              refine tkA (i := 24) (v := undef) rfl (Or.inr ⟨by first | rfl | kernel_rfl, rfl⟩) (by assumption) ?repr33_24_k170
              try simp only [nb1, nb2, nb3, Act.put, nb4, nb5, nb6]
              refine tkA (i := 25) (v := undef) rfl (Or.inr ⟨by first | rfl | kernel_rfl, rfl⟩) (by assumption) ?repr33_25_k171
              try simp only [nb1, nb2, nb3, Act.put, nb4, nb5, nb6]
              refine tkA (i := 26) (v := undef) rfl (Or.inr ⟨by first | rfl | kernel_rfl, rfl⟩) (by assumption) ?repr33_26_k172
              try simp only [nb1, nb2, nb3, Act.put, nb4, nb5, nb6]
              refine tkA (i := 27) (v := undef) rfl (Or.inr ⟨by first | rfl | kernel_rfl, rfl⟩) (by assumption) ?repr33_27_k173
              try simp only [nb1, nb2, nb3, Act.put, nb4, nb5, nb6]
              refine tkA (i := 28) (v := undef) rfl (Or.inr ⟨by first | rfl | kernel_rfl, rfl⟩) (by assumption) ?repr33_28_k174
              try simp only [nb1, nb2, nb3, Act.put, nb4, nb5, nb6]
              refine tkA (i := 29) (v := undef) rfl (Or.inr ⟨by first | rfl | kernel_rfl, rfl⟩) (by assumption) ?repr33_29_k175
              try simp only [nb1, nb2, nb3, Act.put, nb4, nb5, nb6]
              refine tkA (i := 30) (v := undef) rfl (Or.inr ⟨by first | rfl | kernel_rfl, rfl⟩) (by assumption) ?repr33_30_k176
              try simp only [nb1, nb2, nb3, Act.put, nb4, nb5, nb6]
              refine tkA (i := 31) (v := undef) rfl (Or.inr ⟨by first | rfl | kernel_rfl, rfl⟩) (by assumption) ?repr33_31_k177
              try simp only [nb1, nb2, nb3, Act.put, nb4, nb5, nb6]
              refine tkA (i := 32) (v := undef) rfl (Or.inr ⟨by first | rfl | kernel_rfl, rfl⟩) (by assumption) ?repr33_32_k178
              try simp only [nb1, nb2, nb3, Act.put, nb4, nb5, nb6]
              refine tkA (i := 33) (v := undef) rfl (Or.inr ⟨by first | rfl | kernel_rfl, rfl⟩) (by assumption) ?repr33_33_k179
              try simp only [nb1, nb2, nb3, Act.put, nb4, nb5, nb6]
              refine tkA (i := 34) (v := undef) rfl (Or.inr ⟨by first | rfl | kernel_rfl, rfl⟩) (by assumption) ?repr33_34_k180
              try simp only [nb1, nb2, nb3, Act.put, nb4, nb5, nb6]
              refine tkA (i := 35) (v := ?vpr33_35_k182) rfl (Or.inl ⟨by first | rfl | kernel_rfl, ?hypr33_35_k182⟩) (by assumption) ?repr33_35_k182
              case hypr33_35_k182 => (intro u hSu; (first | (go_simp; done) | (go_simp; with_reducible rfl)))
              try simp only [nb1, nb2, nb3, Act.put, nb4, nb5, nb6]
              refine wpAnyH_done (by kernel_rfl) ?_ _
              have b0e := (HS.out.at 0 _ _ _ rfl)
              have b0c0 := blk_cell b0e 0 (.int .i64 f) rfl
              have b0c1 := blk_cell b0e 1 (.bool Ex.b) rfl
              have b0c2 := blk_cell b0e 2 (.slice Ex.a Ex.n Ex.c) rfl
              have b0c3 := blk_cell b0e 3 (.slice Ex.d Ex.m Ex.e) rfl
              have b0c4 := blk_cell b0e 4 (.bool Ey.b) rfl
              have b0c5 := blk_cell b0e 5 (.slice Ey.a Ey.n Ey.c) rfl
              have b0c6 := blk_cell b0e 6 (.slice Ey.d Ey.m Ey.e) rfl
              have b0f0 := blk_frozen b0e 0
              have b0f1 := blk_frozen b0e 1
              have b0f2 := blk_frozen b0e 2
              have b0f3 := blk_frozen b0e 3
              have b0f4 := blk_frozen b0e 4
              have b0f5 := blk_frozen b0e 5
              have b0f6 := blk_frozen b0e 6
              have b0l := blk_lt b0e
              clear b0e
              go_wp2_with fail
              clear b0c0 b0c1 b0c2 b0c3 b0c4 b0c5 b0c6 b0f0 b0f1 b0f2 b0f3 b0f4 b0f5 b0f6 b0l
              have HR : Hid (ctErr es = 1) := cvErrs_at HOK.out (by first | (rw [HF.out]; simp only [t26, t38, Bool.and_true, Bool.true_and, Bool.and_false, Bool.false_and, Bool.or_true, Bool.true_or, Bool.or_false, Bool.false_or, Bool.not_true, Bool.not_false, cond_true, cond_false]) | (rw [HF.out]; simp [t26, t38])) (by omega) HLT.out HLN.out
              go_ret
              exact ⟨by rw [HR.out] <;> rfl, HS.out.bel⟩
        ·
          have HF := Lib.hid (cvErr_0 (es := es) hp)
          have tp1 : decide ((i : Int) > 0) = false := decide_eq_false (by omega)
          have tp2 : decide (0 < i) = false := decide_eq_false hp
          have hpI : ¬ (0 : Int) < i := by omega
          clear hEE hlt hp
          generalize (es.getD i (0, 0, 0)).1 = f at *
          generalize (es.getD i (0, 0, 0)).2.1 = lo at *
          generalize (es.getD i (0, 0, 0)).2.2 = hi at *
          have Ec0 := (HS.out.bel.cell (p := ⟨b, off + i * 7, none⟩) HBL.out).trans E0.out
          have Ec1 := (HS.out.bel.cell (p := ⟨b, off + i * 7 + 1, none⟩) HBL.out).trans E1.out
          have Ec2 := (HS.out.bel.cell (p := ⟨b, off + i * 7 + 2, none⟩) HBL.out).trans E2.out
          have Ec3 := (HS.out.bel.cell (p := ⟨b, off + i * 7 + 3, none⟩) HBL.out).trans E3.out
          have Ec4 := (HS.out.bel.cell (p := ⟨b, off + i * 7 + 4, none⟩) HBL.out).trans E4.out
          have Ec5 := (HS.out.bel.cell (p := ⟨b, off + i * 7 + 5, none⟩) HBL.out).trans E5.out
          have Ec6 := (HS.out.bel.cell (p := ⟨b, off + i * 7 + 6, none⟩) HBL.out).trans E6.out
          go_wp2_with fail
          clear Ec0 Ec1 Ec2 Ec3 Ec4 Ec5 Ec6
          generalize hW183 : (wr).alloc (.cells _ _) = W183 at *
          replace HS : Hid (Sx w W183 [(wr.heap.size, #[.int .i64 f, .bool Ex.b, .slice Ex.a Ex.n Ex.c, .slice Ex.d Ex.m Ex.e, .bool Ey.b, .slice Ey.a Ey.n Ey.c, .slice Ey.d Ey.m Ey.e], 107)] [(true, Ey.val, hi), (true, Ex.val, lo)]) := by subst hW183; exact (HS.out).alloc (B := wr.heap.size) rfl (by rfl)
          clear hW183
          refine wp_region_held_drew (S := (fun w' => Sx w w' [(wr.heap.size, #[.int .i64 f, .bool Ex.b, .slice Ex.a Ex.n Ex.c, .slice Ex.d Ex.m Ex.e, .bool Ey.b, .slice Ey.a Ey.n Ey.c, .slice Ey.d Ey.m Ey.e], 107)] [])) (by kernel_rfl) ((HS.out.drew).bare) (fun hh => ?_)
          replace HS := Lib.hid HS.out.drew
          refine tkA (i := 0) (v := ?vpr184_0_k186) rfl (Or.inl ⟨by first | rfl | kernel_rfl, ?hypr184_0_k186⟩) (by assumption) ?repr184_0_k186
          case hypr184_0_k186 => (intro u hSu; (first | (go_simp; done) | (go_simp; with_reducible rfl)))
          try simp only [nb1, nb2, nb3, Act.put, nb4, nb5, nb6]
          refine tkA (i := 1) (v := ?vpr184_1_k188) rfl (Or.inl ⟨by first | rfl | kernel_rfl, ?hypr184_1_k188⟩) (by assumption) ?repr184_1_k188
          case hypr184_1_k188 => (intro u hSu; (first | (go_simp; done) | (go_simp; with_reducible rfl)))
          try simp only [nb1, nb2, nb3, Act.put, nb4, nb5, nb6]
          refine tkA (i := 2) (v := ?vpr184_2_k190) rfl (Or.inl ⟨by first | rfl | kernel_rfl, ?hypr184_2_k190⟩) (by assumption) ?repr184_2_k190
          case hypr184_2_k190 => (intro u hSu; (first | (go_simp; done) | (go_simp; with_reducible rfl)))
          try simp only [nb1, nb2, nb3, Act.put, nb4, nb5, nb6]
          refine tkA (i := 3) (v := undef) rfl (Or.inr ⟨by first | rfl | kernel_rfl, rfl⟩) (by assumption) ?repr184_3_k191
          try simp only [nb1, nb2, nb3, Act.put, nb4, nb5, nb6]
          refine tkA (i := 4) (v := undef) rfl (Or.inr ⟨by first | rfl | kernel_rfl, rfl⟩) (by assumption) ?repr184_4_k192
          try simp only [nb1, nb2, nb3, Act.put, nb4, nb5, nb6]
          refine tkA (i := 5) (v := undef) rfl (Or.inr ⟨by first | rfl | kernel_rfl, rfl⟩) (by assumption) ?repr184_5_k193
          try simp only [nb1, nb2, nb3, Act.put, nb4, nb5, nb6]
          refine tkA (i := 6) (v := undef) rfl (Or.inr ⟨by first | rfl | kernel_rfl, rfl⟩) (by assumption) ?repr184_6_k194
          try simp only [nb1, nb2, nb3, Act.put, nb4, nb5, nb6]
          refine tkA (i := 7) (v := undef) rfl (Or.inr ⟨by first | rfl | kernel_rfl, rfl⟩) (by assumption) ?repr184_7_k195
          try simp only [nb1, nb2, nb3, Act.put, nb4, nb5, nb6]
          refine tkA (i := 8) (v := undef) rfl (Or.inr ⟨by first | rfl | kernel_rfl, rfl⟩) (by assumption) ?repr184_8_k196
          try simp only [nb1, nb2, nb3, Act.put, nb4, nb5, nb6]
          refine tkA (i := 9) (v := undef) rfl (Or.inr ⟨by first | rfl | kernel_rfl, rfl⟩) (by assumption) ?repr184_9_k197
          try simp only [nb1, nb2, nb3, Act.put, nb4, nb5, nb6]
          refine tkA (i := 10) (v := undef) rfl (Or.inr ⟨by first | rfl | kernel_rfl, rfl⟩) (by assumption) ?repr184_10_k198
          try simp only [nb1, nb2, nb3, Act.put, nb4, nb5, nb6]
          refine tkA (i := 11) (v := undef) rfl (Or.inr ⟨by first | rfl | kernel_rfl, rfl⟩) (by assumption) ?repr184_11_k199
          try simp only [nb1, nb2, nb3, Act.put, nb4, nb5, nb6]
          refine tkA (i := 12) (v := ?vpr184_12_k201) rfl (Or.inl ⟨by first | rfl | kernel_rfl, ?hypr184_12_k201⟩) (by assumption) ?repr184_12_k201
          case hypr184_12_k201 => (intro u hSu; (first | (go_simp; done) | (go_simp; with_reducible rfl)))
          try simp only [nb1, nb2, nb3, Act.put, nb4, nb5, nb6]
          refine wpAnyH_done (by kernel_rfl) ?_ _
          go_wp2_with fail
          refine wp_region_held_drew (S := (fun w' => Sx w w' [(wr.heap.size, #[.int .i64 f, .bool Ex.b, .slice Ex.a Ex.n Ex.c, .slice Ex.d Ex.m Ex.e, .bool Ey.b, .slice Ey.a Ey.n Ey.c, .slice Ey.d Ey.m Ey.e], 107)] [])) (by kernel_rfl) ((HS.out.drew).bare) (fun hh => ?_)
          replace HS := Lib.hid HS.out.drew
          refine tkA (i := 0) (v := ?vpr202_0_k204) rfl (Or.inl ⟨by first | rfl | kernel_rfl, ?hypr202_0_k204⟩) (by assumption) ?repr202_0_k204
          case hypr202_0_k204 => (intro u hSu; (first | (go_simp; done) | (go_simp; with_reducible rfl)))
          try simp only [nb1, nb2, nb3, Act.put, nb4, nb5, nb6]
          refine tkA (i := 1) (v := ?vpr202_1_k206) rfl (Or.inl ⟨by first | rfl | kernel_rfl, ?hypr202_1_k206⟩) (by assumption) ?repr202_1_k206
          case hypr202_1_k206 => (intro u hSu; (try dsimp only at hSu); have qb0e := (hSu.at 0 _ _ _ rfl); have qb0c0 := blk_cell qb0e 0 (.int .i64 f) rfl; have qb0c1 := blk_cell qb0e 1 (.bool Ex.b) rfl; have qb0c2 := blk_cell qb0e 2 (.slice Ex.a Ex.n Ex.c) rfl; have qb0c3 := blk_cell qb0e 3 (.slice Ex.d Ex.m Ex.e) rfl; have qb0c4 := blk_cell qb0e 4 (.bool Ey.b) rfl; have qb0c5 := blk_cell qb0e 5 (.slice Ey.a Ey.n Ey.c) rfl; have qb0c6 := blk_cell qb0e 6 (.slice Ey.d Ey.m Ey.e) rfl; clear qb0e; clear hSu; (first | (go_simp; done) | (go_simp; with_reducible rfl)))
          try simp only [nb1, nb2, nb3, Act.put, nb4, nb5, nb6]
          refine rdA (i := 2) rfl (fun K hK => ?_)
          go_simp
          cases t207 : partB lo hi with
          | true =>
            have a209 := HS.out.p 1 _ _ rfl
            have a210 := HS.out.p 0 _ _ rfl
            go_wp2_with (go_at_call 50; (with_reducible refine (part_any lo hi _ _ (rngP a209 a210) (szR_mono HSZ.out.2 (by omega))).mono ?_); rw [t207]; rintro e w208 ⟨rfl, hb208⟩)
            refine hK.out _ _ (Sx.below hh hb208) (fun hh => ?_)
            clear hK K
            try simp only [nb1, nb2, nb3, Act.put, nb4, nb5, nb6]
            replace HS := Lib.hid (HS.out.below hb208)
            clear hb208 a209 a210
            refine tkA (i := 3) (v := ?vpr202_3_k212) rfl (Or.inl ⟨by first | rfl | kernel_rfl, ?hypr202_3_k212⟩) (by assumption) ?repr202_3_k212
            case hypr202_3_k212 => (intro u hSu; (first | (go_simp; done) | (go_simp; with_reducible rfl)))
            try simp only [nb1, nb2, nb3, Act.put, nb4, nb5, nb6]
            refine tkA (i := 4) (v := ?vpr202_4_k214) rfl (Or.inl ⟨by first | rfl | kernel_rfl, ?hypr202_4_k214⟩) (by assumption) ?repr202_4_k214
            case hypr202_4_k214 => (intro u hSu; (first | (go_simp; done) | (go_simp; with_reducible rfl)))
            try simp only [nb1, nb2, nb3, Act.put, nb4, nb5, nb6]
            refine tkA (i := 5) (v := ?vpr202_5_k216) rfl (Or.inl ⟨by first | rfl | kernel_rfl, ?hypr202_5_k216⟩) (by assumption) ?repr202_5_k216
            case hypr202_5_k216 => (intro u hSu; (first | (go_simp; done) | (go_simp; with_reducible rfl)))
            try simp only [nb1, nb2, nb3, Act.put, nb4, nb5, nb6]
            refine tkA (i := 6) (v := ?vpr202_6_k218) rfl (Or.inl ⟨by first | rfl | kernel_rfl, ?hypr202_6_k218⟩) (by assumption) ?repr202_6_k218
            case hypr202_6_k218 => (intro u hSu; (first | (go_simp; done) | (go_simp; with_reducible rfl)))
            try simp only [nb1, nb2, nb3, Act.put, nb4, nb5, nb6]
            refine tkA (i := 7) (v := ?vpr202_7_k220) rfl (Or.inl ⟨by first | rfl | kernel_rfl, ?hypr202_7_k220⟩) (by assumption) ?repr202_7_k220
            case hypr202_7_k220 => (intro u hSu; (first | (go_simp; done) | (go_simp; with_reducible rfl)))
            try simp only [nb1, nb2, nb3, Act.put, nb4, nb5, nb6]
            refine tkA (i := 8) (v := undef) rfl (Or.inr ⟨by first | rfl | kernel_rfl, rfl⟩) (by assumption) ?repr202_8_k221
            try simp only [nb1, nb2, nb3, Act.put, nb4, nb5, nb6]
            refine tkA (i := 9) (v := undef) rfl (Or.inr ⟨by first | rfl | kernel_rfl, rfl⟩) (by assumption) ?repr202_9_k222
            try simp only [nb1, nb2, nb3, Act.put, nb4, nb5, nb6]
            refine tkA (i := 10) (v := undef) rfl (Or.inr ⟨by first | rfl | kernel_rfl, rfl⟩) (by assumption) ?repr202_10_k223
            try simp only [nb1, nb2, nb3, Act.put, nb4, nb5, nb6]
            refine tkA (i := 11) (v := undef) rfl (Or.inr ⟨by first | rfl | kernel_rfl, rfl⟩) (by assumption) ?repr202_11_k224
            try simp only [nb1, nb2, nb3, Act.put, nb4, nb5, nb6]
            refine tkA (i := 12) (v := undef) rfl (Or.inr ⟨by first | rfl | kernel_rfl, rfl⟩) (by assumption) ?repr202_12_k225
            try simp only [nb1, nb2, nb3, Act.put, nb4, nb5, nb6]
            refine tkA (i := 13) (v := undef) rfl (Or.inr ⟨by first | rfl | kernel_rfl, rfl⟩) (by assumption) ?repr202_13_k226
            try simp only [nb1, nb2, nb3, Act.put, nb4, nb5, nb6]
            refine tkA (i := 14) (v := undef) rfl (Or.inr ⟨by first | rfl | kernel_rfl, rfl⟩) (by assumption) ?repr202_14_k227
            try simp only [nb1, nb2, nb3, Act.put, nb4, nb5, nb6]
            refine tkA (i := 15) (v := undef) rfl (Or.inr ⟨by first | rfl | kernel_rfl, rfl⟩) (by assumption) ?repr202_15_k228
            try simp only [nb1, nb2, nb3, Act.put, nb4, nb5, nb6]
            refine tkA (i := 16) (v := undef) rfl (Or.inr ⟨by first | rfl | kernel_rfl, rfl⟩) (by assumption) ?repr202_16_k229
            try simp only [nb1, nb2, nb3, Act.put, nb4, nb5, nb6]
            refine tkA (i := 17) (v := undef) rfl (Or.inr ⟨by first | rfl | kernel_rfl, rfl⟩) (by assumption) ?repr202_17_k230
            try simp only [nb1, nb2, nb3, Act.put, nb4, nb5, nb6]
            refine tkA (i := 18) (v := undef) rfl (Or.inr ⟨by first | rfl | kernel_rfl, rfl⟩) (by assumption) ?repr202_18_k231
            try simp only [nb1, nb2, nb3, Act.put, nb4, nb5, nb6]
            refine tkA (i := 19) (v := undef) rfl (Or.inr ⟨by first | rfl | kernel_rfl, rfl⟩) (by assumption) ?repr202_19_k232
            try simp only [nb1, nb2, nb3, Act.put, nb4, nb5, nb6]
            refine tkA (i := 20) (v := undef) rfl (Or.inr ⟨by first | rfl | kernel_rfl, rfl⟩) (by assumption) ?repr202_20_k233
            try simp only [nb1, nb2, nb3, Act.put, nb4, nb5, nb6]
            refine tkA (i := 21) (v := undef) rfl (Or.inr ⟨by first | rfl | kernel_rfl, rfl⟩) (by assumption) ?repr202_21_k234
            try simp only [nb1, nb2, nb3, Act.put, nb4, nb5, nb6]
            refine tkA (i := 22) (v := undef) rfl (Or.inr ⟨by first | rfl | kernel_rfl, rfl⟩) (by assumption) ?repr202_22_k235
            try simp only [nb1, nb2, nb3, Act.put, nb4, nb5, nb6]
            refine tkA (i := 23) (v := undef) rfl (Or.inr ⟨by first | rfl | kernel_rfl, rfl⟩) (by assumption) ?repr202_23_k236
            try simp only [nb1, nb2, nb3, Act.put, nb4, nb5, nb6]
            refine tkA (i := 24) (v := undef) rfl (Or.inr ⟨by first | rfl | kernel_rfl, rfl⟩) (by assumption) ?repr202_24_k237
            try simp only [nb1, nb2, nb3, Act.put, nb4, nb5, nb6]
            refine tkA (i := 25) (v := undef) rfl (Or.inr ⟨by first | rfl | kernel_rfl, rfl⟩) (by assumption) ?repr202_25_k238
            try simp only [nb1, nb2, nb3, Act.put, nb4, nb5, nb6]
            refine tkA (i := 26) (v := undef) rfl (Or.inr ⟨by first | rfl | kernel_rfl, rfl⟩) (by assumption) ?repr202_26_k239
            try simp only [nb1, nb2, nb3, Act.put, nb4, nb5, nb6]
            refine tkA (i := 27) (v := undef) rfl (Or.inr ⟨by first | rfl | kernel_rfl, rfl⟩) (by assumption) ?repr202_27_k240
            try simp only [nb1, nb2, nb3, Act.put, nb4, nb5, nb6]
            refine tkA (i := 28) (v := undef) rfl (Or.inr ⟨by first | rfl | kernel_rfl, rfl⟩) (by assumption) ?repr202_28_k241
            try simp only [nb1, nb2, nb3, Act.put, nb4, nb5, nb6]
            refine tkA (i := 29) (v := undef) rfl (Or.inr ⟨by first | rfl | kernel_rfl, rfl⟩) (by assumption) ?repr202_29_k242
            try simp only [nb1, nb2, nb3, Act.put, nb4, nb5, nb6]
            refine tkA (i := 30) (v := undef) rfl (Or.inr ⟨by first | rfl | kernel_rfl, rfl⟩) (by assumption) ?repr202_30_k243
            try simp only [nb1, nb2, nb3, Act.put, nb4, nb5, nb6]
            refine tkA (i := 31) (v := undef) rfl (Or.inr ⟨by first | rfl | kernel_rfl, rfl⟩) (by assumption) ?repr202_31_k244
            try simp only [nb1, nb2, nb3, Act.put, nb4, nb5, nb6]
            refine tkA (i := 32) (v := undef) rfl (Or.inr ⟨by first | rfl | kernel_rfl, rfl⟩) (by assumption) ?repr202_32_k245
            try simp only [nb1, nb2, nb3, Act.put, nb4, nb5, nb6]
            refine tkA (i := 33) (v := undef) rfl (Or.inr ⟨by first | rfl | kernel_rfl, rfl⟩) (by assumption) ?repr202_33_k246
            try simp only [nb1, nb2, nb3, Act.put, nb4, nb5, nb6]
            refine tkA (i := 34) (v := ?vpr202_34_k248) rfl (Or.inl ⟨by first | rfl | kernel_rfl, ?hypr202_34_k248⟩) (by assumption) ?repr202_34_k248
            case hypr202_34_k248 => (intro u hSu; (first | (go_simp; done) | (go_simp; with_reducible rfl)))
            try simp only [nb1, nb2, nb3, Act.put, nb4, nb5, nb6]
            refine tkA (i := 35) (v := ?vpr202_35_k250) rfl (Or.inl ⟨by first | rfl | kernel_rfl, ?hypr202_35_k250⟩) (by assumption) ?repr202_35_k250
            case hypr202_35_k250 => (intro u hSu; (first | (go_simp; done) | (go_simp; with_reducible rfl)))
            try simp only [nb1, nb2, nb3, Act.put, nb4, nb5, nb6]
            refine wpAnyH_done (by kernel_rfl) ?_ _
            have b0e := (HS.out.at 0 _ _ _ rfl)
            have b0c0 := blk_cell b0e 0 (.int .i64 f) rfl
            have b0c1 := blk_cell b0e 1 (.bool Ex.b) rfl
            have b0c2 := blk_cell b0e 2 (.slice Ex.a Ex.n Ex.c) rfl
            have b0c3 := blk_cell b0e 3 (.slice Ex.d Ex.m Ex.e) rfl
            have b0c4 := blk_cell b0e 4 (.bool Ey.b) rfl
            have b0c5 := blk_cell b0e 5 (.slice Ey.a Ey.n Ey.c) rfl
            have b0c6 := blk_cell b0e 6 (.slice Ey.d Ey.m Ey.e) rfl
            have b0f0 := blk_frozen b0e 0
            have b0f1 := blk_frozen b0e 1
            have b0f2 := blk_frozen b0e 2
            have b0f3 := blk_frozen b0e 3
            have b0f4 := blk_frozen b0e 4
            have b0f5 := blk_frozen b0e 5
            have b0f6 := blk_frozen b0e 6
            have b0l := blk_lt b0e
            clear b0e
            go_wp2_with fail
            clear b0c0 b0c1 b0c2 b0c3 b0c4 b0c5 b0c6 b0f0 b0f1 b0f2 b0f3 b0f4 b0f5 b0f6 b0l
            exact ⟨⟨i + 1, by have := HLT.out; omega, by go_num, Lib.hid (cvErrs_next HOK.out (by first | (rw [HF.out]; simp only [t207, Bool.and_true, Bool.true_and, Bool.and_false, Bool.false_and, Bool.or_true, Bool.true_or, Bool.or_false, Bool.false_or, Bool.not_true, Bool.not_false, cond_true, cond_false]) | (rw [HF.out]; simp [t207]))), Lib.hid ((HS.out).erase 0)⟩, meas_up HLT.out⟩
          | false =>
            have a252 := HS.out.p 1 _ _ rfl
            have a253 := HS.out.p 0 _ _ rfl
            go_wp2_with (go_at_call 50; (with_reducible refine (part_any lo hi _ _ (rngP a252 a253) (szR_mono HSZ.out.2 (by omega))).mono ?_); rw [t207]; rintro e w251 ⟨rfl, hb251⟩)
            refine hK.out _ _ (Sx.below hh hb251) (fun hh => ?_)
            clear hK K
            try simp only [nb1, nb2, nb3, Act.put, nb4, nb5, nb6]
            replace HS := Lib.hid (HS.out.below hb251)
            clear hb251 a252 a253
            refine tkA (i := 3) (v := ?vpr202_3_k255) rfl (Or.inl ⟨by first | rfl | kernel_rfl, ?hypr202_3_k255⟩) (by assumption) ?repr202_3_k255
            case hypr202_3_k255 => (intro u hSu; (first | (go_simp; done) | (go_simp; with_reducible rfl)))
            try simp only [nb1, nb2, nb3, Act.put, nb4, nb5, nb6]
            refine tkA (i := 4) (v := ?vpr202_4_k257) rfl (Or.inl ⟨by first | rfl | kernel_rfl, ?hypr202_4_k257⟩) (by assumption) ?repr202_4_k257
            case hypr202_4_k257 => (intro u hSu; (first | (go_simp; done) | (go_simp; with_reducible rfl)))
            try simp only [nb1, nb2, nb3, Act.put, nb4, nb5, nb6]
            refine tkA (i := 5) (v := undef) rfl (Or.inr ⟨by first | rfl | kernel_rfl, rfl⟩) (by assumption) ?repr202_5_k258
            try simp only [nb1, nb2, nb3, Act.put, nb4, nb5, nb6]
            refine tkA (i := 6) (v := undef) rfl (Or.inr ⟨by first | rfl | kernel_rfl, rfl⟩) (by assumption) ?repr202_6_k259
            try simp only [nb1, nb2, nb3, Act.put, nb4, nb5, nb6]
            refine tkA (i := 7) (v := undef) rfl (Or.inr ⟨by first | rfl | kernel_rfl, rfl⟩) (by assumption) ?repr202_7_k260
            try simp only [nb1, nb2, nb3, Act.put, nb4, nb5, nb6]
            refine tkA (i := 8) (v := undef) rfl (Or.inr ⟨by first | rfl | kernel_rfl, rfl⟩) (by assumption) ?repr202_8_k261
            try simp only [nb1, nb2, nb3, Act.put, nb4, nb5, nb6]
            refine tkA (i := 9) (v := undef) rfl (Or.inr ⟨by first | rfl | kernel_rfl, rfl⟩) (by assumption) ?repr202_9_k262
            try simp only [nb1, nb2, nb3, Act.put, nb4, nb5, nb6]
            refine tkA (i := 10) (v := undef) rfl (Or.inr ⟨by first | rfl | kernel_rfl, rfl⟩) (by assumption) ?repr202_10_k263
            try simp only [nb1, nb2, nb3, Act.put, nb4, nb5, nb6]
            refine tkA (i := 11) (v := undef) rfl (Or.inr ⟨by first | rfl | kernel_rfl, rfl⟩) (by assumption) ?repr202_11_k264
            try simp only [nb1, nb2, nb3, Act.put, nb4, nb5, nb6]
            refine tkA (i := 12) (v := undef) rfl (Or.inr ⟨by first | rfl | kernel_rfl, rfl⟩) (by assumption) ?repr202_12_k265
            try simp only [nb1, nb2, nb3, Act.put, nb4, nb5, nb6]
            refine tkA (i := 13) (v := undef) rfl (Or.inr ⟨by first | rfl | kernel_rfl, rfl⟩) (by assumption) ?repr202_13_k266
            try simp only [nb1, nb2, nb3, Act.put, nb4, nb5, nb6]
            refine tkA (i := 14) (v := undef) rfl (Or.inr ⟨by first | rfl | kernel_rfl, rfl⟩) (by assumption) ?repr202_14_k267
            try simp only [nb1, nb2, nb3, Act.put, nb4, nb5, nb6]
            refine tkA (i := 15) (v := undef) rfl (Or.inr ⟨by first | rfl | kernel_rfl, rfl⟩) (by assumption) ?repr202_15_k268
            try simp only [nb1, nb2, nb3, Act.put, nb4, nb5, nb6]
            refine tkA (i := 16) (v := undef) rfl (Or.inr ⟨by first | rfl | kernel_rfl, rfl⟩) (by assumption) ?repr202_16_k269
            try simp only [nb1, nb2, nb3, Act.put, nb4, nb5, nb6]
            refine tkA (i := 17) (v := undef) rfl (Or.inr ⟨by first | rfl | kernel_rfl, rfl⟩) (by assumption) ?repr202_17_k270
            try simp only [nb1, nb2, nb3, Act.put, nb4, nb5, nb6]
            refine tkA (i := 18) (v := undef) rfl (Or.inr ⟨by first | rfl | kernel_rfl, rfl⟩) (by assumption) ?repr202_18_k271
            try simp only [nb1, nb2, nb3, Act.put, nb4, nb5, nb6]
            refine tkA (i := 19) (v := undef) rfl (Or.inr ⟨by first | rfl | kernel_rfl, rfl⟩) (by assumption) ?repr202_19_k272
            try simp only [nb1, nb2, nb3, Act.put, nb4, nb5, nb6]
            refine tkA (i := 20) (v := undef) rfl (Or.inr ⟨by first | rfl | kernel_rfl, rfl⟩) (by assumption) ?repr202_20_k273
            try simp only [nb1, nb2, nb3, Act.put, nb4, nb5, nb6]
            refine tkA (i := 21) (v := undef) rfl (Or.inr ⟨by first | rfl | kernel_rfl, rfl⟩) (by assumption) ?repr202_21_k274
            try simp only [nb1, nb2, nb3, Act.put, nb4, nb5, nb6]
            refine tkA (i := 22) (v := undef) rfl (Or.inr ⟨by first | rfl | kernel_rfl, rfl⟩) (by assumption) ?repr202_22_k275
            try simp only [nb1, nb2, nb3, Act.put, nb4, nb5, nb6]
            refine tkA (i := 23) (v := undef) rfl (Or.inr ⟨by first | rfl | kernel_rfl, rfl⟩) (by assumption) ?repr202_23_k276
            try simp only [nb1, nb2, nb3, Act.put, nb4, nb5, nb6]
            refine tkA (i := 24) (v := undef) rfl (Or.inr ⟨by first | rfl | kernel_rfl, rfl⟩) (by assumption) ?repr202_24_k277
            try simp only [nb1, nb2, nb3, Act.put, nb4, nb5, nb6]
            refine tkA (i := 25) (v := undef) rfl (Or.inr ⟨by first | rfl | kernel_rfl, rfl⟩) (by assumption) ?repr202_25_k278
            try simp only [nb1, nb2, nb3, Act.put, nb4, nb5, nb6]
            refine tkA (i := 26) (v := undef) rfl (Or.inr ⟨by first | rfl | kernel_rfl, rfl⟩) (by assumption) ?repr202_26_k279
            try simp only [nb1, nb2, nb3, Act.put, nb4, nb5, nb6]
            refine tkA (i := 27) (v := undef) rfl (Or.inr ⟨by first | rfl | kernel_rfl, rfl⟩) (by assumption) ?repr202_27_k280
            try simp only [nb1, nb2, nb3, Act.put, nb4, nb5, nb6]
            refine tkA (i := 28) (v := undef) rfl (Or.inr ⟨by first | rfl | kernel_rfl, rfl⟩) (by assumption) ?repr202_28_k281
            try simp only [nb1, nb2, nb3, Act.put, nb4, nb5, nb6]
            refine tkA (i := 29) (v := undef) rfl (Or.inr ⟨by first | rfl | kernel_rfl, rfl⟩) (by assumption) ?repr202_29_k282
            try simp only [nb1, nb2, nb3, Act.put, nb4, nb5, nb6]
            refine tkA (i := 30) (v := undef) rfl (Or.inr ⟨by first | rfl | kernel_rfl, rfl⟩) (by assumption) ?repr202_30_k283
            try simp only [nb1, nb2, nb3, Act.put, nb4, nb5, nb6]
            refine tkA (i := 31) (v := undef) rfl (Or.inr ⟨by first | rfl | kernel_rfl, rfl⟩) (by assumption) ?repr202_31_k284
            try simp only [nb1, nb2, nb3, Act.put, nb4, nb5, nb6]
            refine tkA (i := 32) (v := undef) rfl (Or.inr ⟨by first | rfl | kernel_rfl, rfl⟩) (by assumption) ?repr202_32_k285
            try simp only [nb1, nb2, nb3, Act.put, nb4, nb5, nb6]
            refine tkA (i := 33) (v := undef) rfl (Or.inr ⟨by first | rfl | kernel_rfl, rfl⟩) (by assumption) ?repr202_33_k286
            try simp only [nb1, nb2, nb3, Act.put, nb4, nb5, nb6]
            refine tkA (i := 34) (v := undef) rfl (Or.inr ⟨by first | rfl | kernel_rfl, rfl⟩) (by assumption) ?repr202_34_k287
            try simp only [nb1, nb2, nb3, Act.put, nb4, nb5, nb6]
            refine tkA (i := 35) (v := ?vpr202_35_k289) rfl (Or.inl ⟨by first | rfl | kernel_rfl, ?hypr202_35_k289⟩) (by assumption) ?repr202_35_k289
            case hypr202_35_k289 => (intro u hSu; (first | (go_simp; done) | (go_simp; with_reducible rfl)))
            try simp only [nb1, nb2, nb3, Act.put, nb4, nb5, nb6]
            refine wpAnyH_done (by kernel_rfl) ?_ _
            have b0e := (HS.out.at 0 _ _ _ rfl)
            have b0c0 := blk_cell b0e 0 (.int .i64 f) rfl
            have b0c1 := blk_cell b0e 1 (.bool Ex.b) rfl
            have b0c2 := blk_cell b0e 2 (.slice Ex.a Ex.n Ex.c) rfl
            have b0c3 := blk_cell b0e 3 (.slice Ex.d Ex.m Ex.e) rfl
            have b0c4 := blk_cell b0e 4 (.bool Ey.b) rfl
            have b0c5 := blk_cell b0e 5 (.slice Ey.a Ey.n Ey.c) rfl
            have b0c6 := blk_cell b0e 6 (.slice Ey.d Ey.m Ey.e) rfl
            have b0f0 := blk_frozen b0e 0
            have b0f1 := blk_frozen b0e 1
            have b0f2 := blk_frozen b0e 2
            have b0f3 := blk_frozen b0e 3
            have b0f4 := blk_frozen b0e 4
            have b0f5 := blk_frozen b0e 5
            have b0f6 := blk_frozen b0e 6
            have b0l := blk_lt b0e
            clear b0e
            go_wp2_with fail
            clear b0c0 b0c1 b0c2 b0c3 b0c4 b0c5 b0c6 b0f0 b0f1 b0f2 b0f3 b0f4 b0f5 b0f6 b0l
            have HR : Hid (ctErr es = 1) := cvErrs_at HOK.out (by first | (rw [HF.out]; simp only [t207, Bool.and_true, Bool.true_and, Bool.and_false, Bool.false_and, Bool.or_true, Bool.true_or, Bool.or_false, Bool.false_or, Bool.not_true, Bool.not_false, cond_true, cond_false]) | (rw [HF.out]; simp [t207])) (by omega) HLT.out HLN.out
            go_ret
            exact ⟨by rw [HR.out] <;> rfl, HS.out.bel⟩
      ·
        obtain rfl : i = es.length := by omega
        have HR : Hid (ctErr es = 0) := by show _ = _; unfold ctErr; rw [if_neg HLN.out]; exact HOK.out
        go_wp2_with fail
        go_ret
        exact ⟨by rw [HR.out] <;> rfl, HS.out.bel⟩
end Go.Proofs.YtmfochplnchgcaaGreat

namespace Go.Proofs.YtmfochplnchgcaaGreat
open Go.RowKit

theorem cmp_le0 {x y : Rat} : cmpR x y ≤ 0 ↔ x ≤ y := by
  unfold cmpR
  split
  · constructor
    · intro _; grind
    · intro _; omega
  · split
    · constructor
      · intro h; omega
      · intro h; grind
    · constructor
      · intro _; grind
      · intro _; omega
theorem cmp_lt0 {x y : Rat} : cmpR x y < 0 ↔ x < y := by
  unfold cmpR
  split
  · constructor
    · intro _; assumption
    · intro _; omega
  · split
    · constructor
      · intro h; omega
      · intro h; grind
    · constructor
      · intro h; omega
      · intro h; grind
theorem partB_iff {lo hi : Rat} : partB lo hi = true ↔ 0 ≤ lo ∧ hi ≤ 1 := by
  unfold partB
  rw [Bool.and_eq_true, sgn_ge, decide_eq_true_iff, decide_eq_true_iff, cmp_le0]
def entO (es : List Ent) : Prop := ∀ i, i < es.length → (es.getD i (0, 0, 0)).2.1 ≤ (es.getD i (0, 0, 0)).2.2
/-- A right table: the ends rise, and lie in [0, 1]. -/
theorem ct_one {es : List Ent} (h : ctErr es = 0) {i : Nat} (hi : i < es.length) : cvErr es i = 0 := by
  unfold ctErr at h
  split at h
  · exact absurd h (by decide)
  · rcases Decidable.em (cvErr es i = 0) with h0 | h0
    · exact h0
    · exfalso
      have hs : ∀ n, n ≤ es.length → cvErrs es n = 0 := fun n hn => by
        rcases Decidable.em (cvErrs es n = 0) with h1 | h1
        · exact h1
        · exact absurd ((cvErrs_stay h1 hn).symm.trans h) h1
      have h1 := hs (i + 1) hi
      have h2 := hs i (by omega)
      rw [show cvErrs es (i + 1) = if cvErrs es i ≠ 0 then cvErrs es i else cvErr es i from rfl, h2] at h1
      exact h0 h1
theorem ct_part {es : List Ent} (h : ctErr es = 0) {i : Nat} (hi : i < es.length) : 0 ≤ (es.getD i (0, 0, 0)).2.1 ∧ (es.getD i (0, 0, 0)).2.2 ≤ 1 := by
  have h1 := ct_one h hi
  rw [← partB_iff]
  rcases Bool.eq_false_or_eq_true (partB (es.getD i (0, 0, 0)).2.1 (es.getD i (0, 0, 0)).2.2) with hp | hp
  · exact hp
  · exfalso
    unfold cvErr at h1
    rw [hp] at h1
    revert h1
    cases (decide (0 < i) && decide ((es.getD i (0, 0, 0)).1 ≤ (es.getD (i - 1) (0, 0, 0)).1)) <;> simp
theorem ct_rise {es : List Ent} (h : ctErr es = 0) {i : Nat} (hi : i + 1 < es.length) : (es.getD i (0, 0, 0)).2.1 ≤ (es.getD (i + 1) (0, 0, 0)).2.1 ∧ (es.getD i (0, 0, 0)).2.2 ≤ (es.getD (i + 1) (0, 0, 0)).2.2 := by
  have h1 := ct_one h hi
  rw [cvErr_s rfl] at h1
  have e1 : decide (cmpR (es.getD (i + 1) (0, 0, 0)).2.1 (es.getD i (0, 0, 0)).2.1 < 0) = false ∧ decide (cmpR (es.getD (i + 1) (0, 0, 0)).2.2 (es.getD i (0, 0, 0)).2.2 < 0) = false := by
    revert h1
    cases decide ((es.getD (i + 1) (0, 0, 0)).1 ≤ (es.getD i (0, 0, 0)).1) <;> cases partB (es.getD (i + 1) (0, 0, 0)).2.1 (es.getD (i + 1) (0, 0, 0)).2.2 <;> cases decide (cmpR (es.getD (i + 1) (0, 0, 0)).2.1 (es.getD i (0, 0, 0)).2.1 < 0) <;> cases decide (cmpR (es.getD (i + 1) (0, 0, 0)).2.2 (es.getD i (0, 0, 0)).2.2 < 0) <;> simp
  have e2 := of_decide_eq_false e1.1
  have e3 := of_decide_eq_false e1.2
  rw [cmp_lt0] at e2 e3
  exact ⟨by grind, by grind⟩
theorem rt_lo {es : List Ent} (h : ctErr es = 0) (t : Rat) : ∀ n, n < es.length → (rtUp es t n).1 ≤ (es.getD n (0, 0, 0)).2.1
  | 0, hn => (ct_part h hn).1
  | n + 1, hn => by
    have h1 := (ct_rise h hn).1
    rw [rtUp_1]
    split
    · exact h1
    · have := rt_lo h t n (by omega)
      grind
theorem rt_mono {es : List Ent} (h : ctErr es = 0) (ho : entO es) {t t' : Rat} (ht : t ≤ t') : ∀ n, n ≤ es.length → (rtUp es t n).1 ≤ (rtUp es t' n).2
  | 0, _ => by show (0 : Rat) ≤ 0; grind
  | n + 1, hn => by
    have ih := rt_mono h ho ht n (by omega)
    have h1 := ho n (by omega)
    have h2 := rt_lo h t n (by omega)
    rw [rtUp_1, rtUp_2]
    have c1 := @cmp_le0 ((es.getD n (0, 0, 0)).1 : Rat) t
    have c2 := @cmp_le0 ((es.getD n (0, 0, 0)).1 : Rat) t'
    by_cases k1 : cmpR ((es.getD n (0, 0, 0)).1 : Rat) t ≤ 0
    · have := c1.1 k1
      have k2 : cmpR ((es.getD n (0, 0, 0)).1 : Rat) t' ≤ 0 := c2.2 (by grind)
      rw [if_pos k1, if_pos k2]
      exact h1
    · rw [if_neg k1]
      by_cases k2 : cmpR ((es.getD n (0, 0, 0)).1 : Rat) t' ≤ 0
      · rw [if_pos k2]
        grind
      · rw [if_neg k2]
        exact ih
theorem rat_mul_mono {a b c d : Rat} (h0 : 0 ≤ c) (h1 : a ≤ b) (h2 : c ≤ d) (h3 : 0 ≤ b) : a * c ≤ b * d := by
  have e1 : a * c ≤ b * c := Rat.mul_le_mul_of_nonneg_right h1 h0
  have e2 : b * c ≤ b * d := Rat.mul_le_mul_of_nonneg_left h2 h3
  grind
theorem step_mono {a b p q : Rat} (h1 : partB a b = true) (h2 : partB p q = true) (hab : a ≤ b) (hpq : p ≤ q) : cmpR (a + p * (1 - a)) (b + q * (1 - b)) ≤ 0 := by
  rw [partB_iff] at h1 h2
  rw [cmp_le0]
  have := rat_mul_mono (a := 1 - b) (b := 1 - a) (c := 1 - q) (d := 1 - p) (by grind) (by grind) (by grind) (by grind)
  grind
theorem lo_hi (a b : Rat) : loQ a b ≤ hiQ a b := by
  unfold loQ hiQ
  have h1 := @cmp_le0 a b
  have h2 := @cmp_lt0 a b
  split <;> split <;> grind
set_option maxHeartbeats 1000000 in
theorem stepM_any (a b p q : Rat) (k : Nat) (hk : k ≤ 256) (z : Int) (hz : min (max z 0) 256 = (k : Int)) (vc vr : Value) (w : World) (hc : IsRng w vc a b) (hr : IsRng w vr p q) (h1 : partB a b = true) (h2 : partB p q = true) (hab : a ≤ b) (hpq : p ≤ q)
    (s0 : szR a 10000) (s1 : szR b 10000) (s2 : szR p 10000) (s3 : szR q 10000) : Calls Tryz.prog 51 #[vc, vr, .int .i64 z] w (RetRng (downQ (a + p * (1 - a)) k) (upQ (b + q * (1 - b)) k) w) :=
  step_any a b p q k hk z hz vc vr w hc hr _ _ rfl rfl (szR_mono s0 (by omega)) (szR_mono s2 (by omega)) (szR_mono (szR_sub (one_szR 1 (by omega)) s0) (by omega)) (szR_mono (szR_mul s2 (szR_sub (one_szR 1 (by omega)) s0)) (by omega))
    (szR_mono s1 (by omega)) (szR_mono s3 (by omega)) (szR_mono (szR_sub (one_szR 1 (by omega)) s1) (by omega)) (szR_mono (szR_mul s3 (szR_sub (one_szR 1 (by omega)) s1)) (by omega)) (szR_mono (more_sz s0 s2) (by omega)) (szR_mono (more_sz s1 s3) (by omega)) (szR_neg (szR_mono (more_sz s1 s3) (by omega))) (step_mono h1 h2 hab hpq)
end Go.Proofs.YtmfochplnchgcaaGreat
