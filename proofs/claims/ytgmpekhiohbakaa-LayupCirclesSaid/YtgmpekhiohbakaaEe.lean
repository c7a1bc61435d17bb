/- Part e of the lemmas and walks. -/
import Derived.Test.YtgmpekhiohbakaaEd

namespace Go.Proofs.Ytgmpekhiohbakaa
open Go.RowKit

def RowOf (p : Bool) (k : Nat) (w : World) (xs : List Value) (qs : List (List Rat)) : Prop :=
 xs.length = qs.length * (3 * k) ∧ ∀ i, i < qs.length → ∀ j, j < k → ∃ x : R3, xs[i * (3 * k) + j * 3]? = some (.bool x.b) ∧ xs[i * (3 * k) + j * 3 + 1]? = some (.slice x.a x.n x.c) ∧ xs[i * (3 * k) + j * 3 + 2]? = some (.slice x.d x.m x.e) ∧ Fr p w x.val ((qs.getD i []).getD j 0)
def RecsOf (p : Bool) (k : Nat) (w : World) (v : Value) (qs : List (List Rat)) : Prop :=
 ∃ ao cap, v = .slice ao qs.length cap ∧ (0 < qs.length → ∃ b off, ao = some ⟨b, off, none⟩ ∧ b < w.heap.size ∧ ∀ i, i < qs.length → ∀ j, j < k →
  ∃ x : R3, w.cell? ⟨b, off + i * (3 * k) + j * 3, none⟩ = some (.bool x.b) ∧ w.cell? ⟨b, off + i * (3 * k) + j * 3 + 1, none⟩ = some (.slice x.a x.n x.c) ∧ w.cell? ⟨b, off + i * (3 * k) + j * 3 + 2, none⟩ = some (.slice x.d x.m x.e) ∧ Fr p w x.val ((qs.getD i []).getD j 0))
theorem RecsOf.below {p : Bool} {k : Nat} {w w' : World} {v : Value} {qs : List (List Rat)} (h : RecsOf p k w v qs) (hb : Below w.heap.size w w') : RecsOf p k w' v qs := by
 obtain ⟨ao, cap, rfl, h⟩ := h
 refine ⟨ao, cap, rfl, fun hl => ?_⟩
 obtain ⟨b, off, rfl, hlt, h⟩ := h hl
 have c : ∀ o v, w.cell? ⟨b, o, none⟩ = some v → w'.cell? ⟨b, o, none⟩ = some v := fun o v h => (hb.cell (p := ⟨b, o, none⟩) hlt).trans h
 refine ⟨b, off, rfl, Nat.lt_of_lt_of_le hlt hb.size, fun i hi j hj => ?_⟩
 obtain ⟨x, h1, h2, h3, h4⟩ := h i hi j hj
 exact ⟨x, c _ _ h1, c _ _ h2, c _ _ h3, h4.below hb⟩
theorem RowOf.mono {p : Bool} {k : Nat} {w w' : World} {xs : List Value} {qs : List (List Rat)} (h : RowOf p k w xs qs) (hf : ∀ v q, Fr p w v q → Fr p w' v q) : RowOf p k w' xs qs :=
 ⟨h.1, fun i hi j hj => by obtain ⟨x, h1, h2, h3, h4⟩ := h.2 i hi j hj; exact ⟨x, h1, h2, h3, hf _ _ h4⟩⟩
theorem RowOf.nil (p : Bool) (k : Nat) (w : World) : RowOf p k w [] [] := ⟨by simp, fun i hi => absurd hi (by simp)⟩
def cellsR (l : List R3) : List Value := l.flatMap fun x => [.bool x.b, .slice x.a x.n x.c, .slice x.d x.m x.e]
theorem cellsR_length (l : List R3) : (cellsR l).length = l.length * 3 := by
 induction l with
 | nil => rfl
 | cons x l ih => simp [cellsR] at ih ⊢; omega
theorem cellsR_at (l : List R3) (j : Nat) (hj : j < l.length) : ∃ x, l[j]? = some x ∧ (cellsR l)[j * 3]? = some (.bool x.b) ∧ (cellsR l)[j * 3 + 1]? = some (.slice x.a x.n x.c) ∧ (cellsR l)[j * 3 + 2]? = some (.slice x.d x.m x.e) := by
 induction l generalizing j with
 | nil => simp at hj
 | cons y l ih =>
  match j with
  | 0 => exact ⟨y, rfl, rfl, rfl, rfl⟩
  | j + 1 =>
   obtain ⟨x, h0, h1, h2, h3⟩ := ih j (by simpa using hj)
   have e : ∀ m, (cellsR (y :: l))[(j + 1) * 3 + m]? = (cellsR l)[j * 3 + m]? := fun m => by
    show (_ :: _ :: _ :: cellsR l)[(j + 1) * 3 + m]? = _
    rw [show (j + 1) * 3 + m = (j * 3 + m) + 1 + 1 + 1 by omega, List.getElem?_cons_succ, List.getElem?_cons_succ, List.getElem?_cons_succ]
   exact ⟨x, by simpa using h0, by rw [← h1]; exact e 0, by rw [← h2]; exact e 1, by rw [← h3]; exact e 2⟩
theorem RowOf.snoc {p : Bool} {k : Nat} {w : World} {xs : List Value} {qs : List (List Rat)} (h : RowOf p k w xs qs) (l : List R3) (rs : List Rat) (hl : l.length = k) (hr : ∀ j x, l[j]? = some x → Fr p w x.val (rs.getD j 0)) :
  RowOf p k w (xs ++ cellsR l) (qs ++ [rs]) := by
 obtain ⟨h0, h1⟩ := h
 refine ⟨by rw [List.length_append, List.length_append, cellsR_length, h0, hl, List.length_singleton, Nat.add_mul]; omega, fun i hi j hj => ?_⟩
 rw [List.length_append, List.length_singleton] at hi
 rcases Nat.lt_or_ge i qs.length with hi1 | hi1
 ·
  obtain ⟨x, g1, g2, g3, g4⟩ := h1 i hi1 j hj
  have hlt : i * (3 * k) + j * 3 + 2 < xs.length := by
   rw [h0]
   have : (i + 1) * (3 * k) ≤ qs.length * (3 * k) := Nat.mul_le_mul_right _ hi1
   rw [Nat.add_mul] at this
   omega
  have e2 : (qs ++ [rs]).getD i [] = qs.getD i [] := by simp [List.getD, List.getElem?_append_left hi1]
  rw [e2]
  exact ⟨x, by rw [List.getElem?_append_left (by omega)]; exact g1, by rw [List.getElem?_append_left (by omega)]; exact g2, by rw [List.getElem?_append_left (by omega)]; exact g3, g4⟩
 ·
  obtain rfl : i = qs.length := by omega
  obtain ⟨x, g0, g1, g2, g3⟩ := cellsR_at l j (by omega)
  have e : ∀ m, (xs ++ cellsR l)[qs.length * (3 * k) + j * 3 + m]? = (cellsR l)[j * 3 + m]? := fun m => by
   rw [List.getElem?_append_right (by omega), h0]
   congr 1
   omega
  have e2 : (qs ++ [rs]).getD qs.length [] = rs := by simp [List.getD]
  rw [e2]
  exact ⟨x, by rw [← g1]; exact e 0, by rw [← g2]; exact e 1, by rw [← g3]; exact e 2, hr j x g0⟩
theorem RecsOf.ofRow {p : Bool} {k : Nat} {w : World} {base : Nat} {e : TypeId} {v : Value} {xs : List Value} {qs : List (List Rat)} (h : LRow w base e (3 * k) v qs.length xs) (ht : RowOf p k w xs qs) : RecsOf p k w v qs := by
 rcases Nat.eq_zero_or_pos qs.length with h0 | hp
 ·
  rcases h.1.2 with ⟨rfl, _⟩ | ⟨g, cap, cur, rfl, _⟩
  ·
   exact ⟨none, 0, by rw [h0], fun h => absurd h (by omega)⟩
  ·
   exact ⟨_, _, rfl, fun h => absurd h (by omega)⟩
 ·
  obtain ⟨g, cap, rfl⟩ := ownsRow_some h.1 hp
  have hc : ∀ j u, xs[j]? = some u → w.cell? ((⟨g, 0, none⟩ : Addr).add j) = some u := h.1.cells (g := g) rfl
  have hlt : g < w.heap.size := (h.lt rfl).1
  refine ⟨_, _, rfl, fun _ => ⟨g, 0, rfl, hlt, fun i hi j hj => ?_⟩⟩
  obtain ⟨x, h1, h2, h3, h4⟩ := ht.2 i hi j hj
  have ea : ∀ j, (⟨g, 0, none⟩ : Addr).add j = ⟨g, 0 + j, none⟩ := fun j => by unfold Addr.add; split <;> simp_all
  have ec : ∀ o u, xs[o]? = some u → w.cell? ⟨g, 0 + o, none⟩ = some u := fun o u h => by rw [← ea]; exact hc _ _ h
  refine ⟨x, ?_, ?_, ?_, h4⟩
  ·
   have := ec _ _ h1; rw [show 0 + (i * (3 * k) + j * 3) = 0 + i * (3 * k) + j * 3 by omega] at this; exact this
  ·
   have := ec _ _ h2; rw [show 0 + (i * (3 * k) + j * 3 + 1) = 0 + i * (3 * k) + j * 3 + 1 by omega] at this; exact this
  ·
   have := ec _ _ h3; rw [show 0 + (i * (3 * k) + j * 3 + 2) = 0 + i * (3 * k) + j * 3 + 2 by omega] at this; exact this
structure GrR where
 e : TypeId
 p : Bool
 k : Nat
 v : Value
 xs : List Value
 qs : List (List Rat)
structure GsR (w0 w : World) (bs : List Bx) (gs : List GrR) : Prop where
 row : ∀ (i : Nat) (g : GrR), gs[i]? = some g → LRow w w0.heap.size g.e (3 * g.k) g.v g.qs.length g.xs
 mean : ∀ (i : Nat) (g : GrR), gs[i]? = some g → RowOf g.p g.k w g.xs g.qs
 sep : ∀ b, b ∈ bs → ∀ g, g ∈ gs → g.v.ownBlock ≠ some b.1
 apart : ∀ (i j : Nat) (g h : GrR), gs[i]? = some g → gs[j]? = some h → i ≠ j → ∀ c, g.v.ownBlock = some c → h.v.ownBlock ≠ some c
theorem GsR.nil (w0 w : World) (bs : List Bx) : GsR w0 w bs [] := ⟨fun i g h => by simp at h, fun i g h => by simp at h, fun b hb g hg => by simp at hg, fun i j g h hi => by simp at hi⟩
theorem GsR.add {w0 w : World} {bs : List Bx} {gs : List GrR} (h : GsR w0 w bs gs) (e : TypeId) (p : Bool) (k : Nat) : GsR w0 w bs (⟨e, p, k, .slice none 0 0, [], []⟩ :: gs) := by
 refine ⟨fun i g hi => ?_, fun i g hi => ?_, fun b hb g hg => ?_, fun i j g g' hi hj hij c hc => ?_⟩
 ·
  match i, hi with
  | 0, hi => simp at hi; subst hi; exact LRow.nil _ _ _ _
  | i + 1, hi => exact h.row i g (by simpa using hi)
 ·
  match i, hi with
  | 0, hi => simp at hi; subst hi; exact RowOf.nil _ _ _
  | i + 1, hi => exact h.mean i g (by simpa using hi)
 ·
  rcases List.mem_cons.1 hg with rfl | hg
  ·
   exact fun hc => by cases hc
  ·
   exact h.sep b hb g hg
 ·
  match i, j, hi, hj with
  | 0, _, hi, _ => simp at hi; subst hi; cases hc
  | i + 1, 0, _, hj => simp at hj; subst hj; exact fun hc => by cases hc
  | i + 1, j + 1, hi, hj => exact h.apart i j g g' (by simpa using hi) (by simpa using hj) (by omega) c hc
theorem GsR.below {w0 w w' : World} {bs : List Bx} {gs : List GrR} (h : GsR w0 w bs gs) (hb : Below w.heap.size w w') : GsR w0 w' bs gs :=
 ⟨fun i g hi => (h.row i g hi).below hb, fun i g hi => (h.mean i g hi).mono fun _ _ hf => hf.below hb, h.sep, h.apart⟩
theorem GsR.alloc {w0 w : World} {bs : List Bx} {gs : List GrR} (h : GsR w0 w bs gs) {B T : Nat} {cs : Array Value} (hB : w.heap.size = B) : GsR w0 (w.alloc (.cells cs T)) ((B, cs, T) :: bs) gs := by
 have h' := h.below ((Below.refl w.heap.size w).alloc (Nat.le_refl _) (.cells cs T))
 refine ⟨h'.row, h'.mean, fun b hb g hg => ?_, h'.apart⟩
 rcases List.mem_cons.1 hb with rfl | hb
 ·
  intro hc
  obtain ⟨i, hi⟩ := List.mem_iff_getElem?.1 hg
  have := ((h.row i g hi).lt hc).1
  dsimp only at this
  omega
 ·
  exact h.sep b hb g hg
theorem GsR.box {w0 w : World} {bs : List Bx} {gs : List GrR} (h : GsR w0 w bs gs) {B T : Nat} {cs : Array Value} (hne : ∀ g, g ∈ gs → g.v.ownBlock ≠ some B) : GsR w0 w ((B, cs, T) :: bs) gs :=
 ⟨h.row, h.mean, fun b hb g hg => by rcases List.mem_cons.1 hb with rfl | hb; exact hne g hg; exact h.sep b hb g hg, h.apart⟩
theorem GsR.mono {w0 w : World} {bs bs' : List Bx} {gs : List GrR} (h : GsR w0 w bs gs) (hm : ∀ b, b ∈ bs' → ∃ b2, b2 ∈ bs ∧ b2.1 = b.1) : GsR w0 w bs' gs :=
 ⟨h.row, h.mean, fun b hb g hg => by obtain ⟨b2, h1, h2⟩ := hm b hb; rw [← h2]; exact h.sep b2 h1 g hg, h.apart⟩
theorem GsR.set {w0 w : World} {bs : List Bx} {gs : List GrR} {fs : List Fx} (h : GsR w0 w bs gs) (hs : Sx w0 w bs fs) (i : Nat) {B T : Nat} {cs : Array Value} (hi : bs[i]? = some (B, cs, T)) (j : Nat) (v : Value) : GsR w0 (w.setCell ⟨B, j, none⟩ v) bs gs := by
 obtain ⟨h1, h2, h3⟩ := hs.box i _ hi
 have hm : (B, cs, T) ∈ bs := List.mem_iff_getElem?.2 ⟨i, hi⟩
 exact ⟨fun k g hg => (h.row k g hg).keep fun c hc => heap_setCell_other w ⟨B, j, none⟩ c v (fun e => h.sep _ hm g (List.mem_iff_getElem?.2 ⟨k, hg⟩) (by rw [hc, e])), fun k g hg => (h.mean k g hg).mono fun _ _ hf => hf.set h1 h3 j v, h.sep, h.apart⟩
theorem GsR.set2 {w0 w : World} {bs : List Bx} {gs : List GrR} {fs : List Fx} (h : GsR w0 w bs gs) (hs : Sx w0 w bs fs) (i : Nat) {B T : Nat} {cs : Array Value} (hi : bs[i]? = some (B, cs, T)) (j : Nat) (v : Value) : GsR w0 (w.setCell ⟨B, j, none⟩ v) (bs.set i (B, cs.setIfInBounds j v, T)) gs :=
 (h.set hs i hi j v).mono fun b hb => by
  rcases List.mem_or_eq_of_mem_set hb with hb | rfl
  ·
   exact ⟨b, hb, rfl⟩
  ·
   exact ⟨(B, cs, T), List.mem_iff_getElem?.2 ⟨i, hi⟩, rfl⟩
theorem GsR.st_R {w0 w : World} {bs : List Bx} {gs : List GrR} {fs : List Fx} (h : GsR w0 w bs gs) (hs : Sx w0 w bs fs) (i : Nat) (o0 : R3) (n0 : R3) {B T : Nat} (hi : bs[i]? = some (B, #[.bool o0.b, .slice o0.a o0.n o0.c, .slice o0.d o0.m o0.e], T)) :
  GsR w0 ((((w).setCell ⟨B, 0, none⟩ (.bool n0.b)).setCell ⟨B, 1, none⟩ (.slice n0.a n0.n n0.c)).setCell ⟨B, 2, none⟩ (.slice n0.d n0.m n0.e)) (bs.set i (B, #[.bool n0.b, .slice n0.a n0.n n0.c, .slice n0.d n0.m n0.e], T)) gs := by
 have hl := (List.getElem?_eq_some_iff.1 hi).1
 have g := (((h).set2 (hs) i hi 0 (.bool n0.b)).set2 ((hs).set i hi 0 (v := .bool n0.b) rfl) i (by rw [List.getElem?_set, if_pos rfl, if_pos (by simpa using hl)]) 1 (.slice n0.a n0.n n0.c)).set2 (((hs).set i hi 0 (v := .bool n0.b) rfl).set i (by rw [List.getElem?_set, if_pos rfl, if_pos (by simpa using hl)]) 1 (v := .slice n0.a n0.n n0.c) rfl) i (by rw [List.getElem?_set, if_pos rfl, if_pos (by simpa using hl)]) 2 (.slice n0.d n0.m n0.e)
 simpa using g
theorem Fr.grown {p : Bool} {w w' : World} {v : Value} {q : Rat} {row : Option Nat} (h : Fr p w v q) (hg : w.grownBy w' row) (hr : ∀ g, row = some g → NoDig w g) : Fr p w' v q := by
 cases p with
 | true => exact IsRat.grown3 (h : IsRat w v q) hg hr
 | false => exact IsR.grown3 (h : IsR w v q) hg hr
theorem cells_blk {w : World} {B T : Nat} {cs : Array Value} (h : w.heap[B]? = some (.cells cs T (0, 0))) : ∀ j u, cs.toList[j]? = some u → w.cell? ((⟨B, 0, none⟩ : Addr).add j) = some u := by
 intro j u hu
 have ea : (⟨B, 0, none⟩ : Addr).add j = ⟨B, 0 + j, none⟩ := by unfold Addr.add; split <;> simp_all
 rw [ea]
 exact blk_cell h (0 + j) u (by rw [Nat.zero_add]; simpa using hu)
theorem Sx.append {w0 w w' : World} {bs : List Bx} {fs : List Fx} {gs : List GrR} (h : Sx w0 w bs fs) (hg : GsR w0 w bs gs) (i : Nat) {g : GrR} (hi : gs[i]? = some g) (l : List R3) (rs : List Rat) {v' : Value} (hl : l.length = g.k) (hr : ∀ j x, l[j]? = some x → Fr g.p w x.val (rs.getD j 0))
  (hL : LRow w' w0.heap.size g.e (3 * g.k) v' (g.qs.length + 1) (g.xs ++ cellsR l)) (hgr : w.grownBy w' g.v.ownBlock) (hat : ∀ c, v'.ownBlock = some c → g.v.ownBlock = some c ∨ c = w.heap.size) :
  Sx w0 w' bs fs ∧ GsR w0 w' bs (gs.set i ⟨g.e, g.p, g.k, v', g.xs ++ cellsR l, g.qs ++ [rs]⟩) := by
 have hm : g ∈ gs := List.mem_iff_getElem?.2 ⟨i, hi⟩
 have hnd : ∀ c, g.v.ownBlock = some c → NoDig w c := (hg.row i g hi).2
 have hfr : ∀ p v q, Fr p w v q → Fr p w' v q := fun p v q hf => hf.grown hgr hnd
 have hblt : ∀ b, b ∈ bs → b.1 < w.heap.size := fun b hb => by
  obtain ⟨j, hj⟩ := List.mem_iff_getElem?.1 hb
  exact blk_lt (h.box j b hj).1
 refine ⟨⟨h.bel.grown hgr h.bel.size (ownBlock_base3 (hg.row i g hi).1), fun j b hj => ?_, h.nod, fun j f hf => hfr _ _ _ (h.fra j f hf)⟩, fun j g' hj => ?_, fun j g' hj => ?_, fun b hb g' hg' => ?_, fun j k g1 g2 hj hk hjk c hc => ?_⟩
 ·
  obtain ⟨h1, h2⟩ := h.box j b hj
  exact ⟨(hgr.block b.1 (blk_lt h1) (fun e => hg.sep b (List.mem_iff_getElem?.2 ⟨j, hj⟩) g hm e.symm)).trans h1, h2⟩
 ·
  rw [List.getElem?_set] at hj
  by_cases hij : i = j
  ·
   subst hij
   rw [if_pos rfl] at hj
   split at hj
   ·
    injection hj with hj
    subst hj
    show LRow w' w0.heap.size g.e (3 * g.k) v' (g.qs ++ [rs]).length (g.xs ++ cellsR l)
    rw [List.length_append]
    exact hL
   ·
    exact absurd hj (by simp)
  ·
   rw [if_neg hij] at hj
   exact (hg.row j g' hj).grown hgr fun c hc e => hg.apart j i g' g hj hi (fun e => hij e.symm) c hc e.symm
 ·
  rw [List.getElem?_set] at hj
  by_cases hij : i = j
  ·
   subst hij
   rw [if_pos rfl] at hj
   split at hj
   ·
    injection hj with hj
    subst hj
    exact ((hg.mean i g hi).mono fun _ _ hf => hfr _ _ _ hf).snoc l rs hl (fun j x hx => hfr _ _ _ (hr j x hx))
   ·
    exact absurd hj (by simp)
  ·
   rw [if_neg hij] at hj
   exact (hg.mean j g' hj).mono fun _ _ hf => hfr _ _ _ hf
 ·
  rcases List.mem_or_eq_of_mem_set hg' with hg' | rfl
  ·
   exact hg.sep b hb g' hg'
  ·
   intro hc
   rcases hat _ hc with h1 | h1
   ·
    exact hg.sep b hb g hm h1
   ·
    have := hblt b hb; omega
 ·
  have hlt : ∀ (n : Nat) (g' : GrR), gs[n]? = some g' → ∀ c, g'.v.ownBlock = some c → c < w.heap.size := fun n g' hn c hc => ((hg.row n g' hn).lt hc).1
  rw [List.getElem?_set] at hj hk
  by_cases hij : i = j
  ·
   subst hij
   rw [if_pos rfl] at hj
   rw [if_neg hjk] at hk
   split at hj
   ·
    injection hj with hj
    subst hj
    intro hc2
    rcases hat _ hc with h1 | h1
    ·
     exact hg.apart i k g g2 hi hk hjk c h1 hc2
    ·
     have := hlt k g2 hk c hc2; omega
   ·
    exact absurd hj (by simp)
  ·
   rw [if_neg hij] at hj
   by_cases hik : i = k
   ·
    subst hik
    rw [if_pos rfl] at hk
    split at hk
    ·
     injection hk with hk
     subst hk
     intro hc2
     rcases hat _ hc2 with h1 | h1
     ·
      exact hg.apart j i g1 g hj hi hjk c hc h1
     ·
      have := hlt j g1 hj c hc; omega
    ·
     exact absurd hk (by simp)
   ·
    rw [if_neg hik] at hk
    exact hg.apart j k g1 g2 hj hk hjk c hc
end Go.Proofs.Ytgmpekhiohbakaa

namespace Go.Proofs.Ytgmpekhiohbakaa
open Go.RowKit

theorem GsR.to {w0 w W : World} {bs cs : List Bx} {gs : List GrR} (h : GsR w0 w bs gs) (e : w = W) (eb : bs = cs) : GsR w0 W cs gs := by subst e; subst eb; exact h
theorem RecsOf.nil (p : Bool) (k : Nat) (w : World) : RecsOf p k w (.slice none 0 0) [] := ⟨none, 0, rfl, fun h => absurd h (by simp)⟩
end Go.Proofs.Ytgmpekhiohbakaa

namespace Go.Proofs.Ytgmpekhiohbakaa
open Go.RowKit

theorem LRow.capOk {w : World} {base : Nat} {e : TypeId} {size : Nat} {v : Value} {n : Nat} {xs : List Value} (h : LRow w base e size v n xs) : ∃ ao cap, v = .slice ao n cap ∧ n ≤ cap ∧ cap ≤ maxLen := by
 rcases h.1.2 with ⟨rfl, rfl⟩ | ⟨g, cap, cur, rfl, _, _, h1, h2, _⟩
 ·
  exact ⟨none, 0, rfl, Nat.le_refl _, by unfold maxLen; omega⟩
 ·
  exact ⟨_, _, rfl, h1, h2⟩
theorem LRow.lit {w : World} {base : Nat} {e : TypeId} {size : Nat} (hb : base ≤ w.heap.size) (cs : Array Value) (n : Nat) (hm : n ≤ maxLen) (hs : cs.size = n * size) (hd : ∀ u ∈ cs.toList, noDig u) :
  LRow (w.alloc (.cells cs e)) base e size (.slice (some ⟨w.heap.size, 0, none⟩) n n) n cs.toList := by
 refine ⟨⟨by simpa using hs, .inr ⟨w.heap.size, n, cs, rfl, hb, heap_alloc_new w _, Nat.le_refl _, hm, hs, List.take_of_length_le (by rw [Array.length_toList, hs]; exact Nat.le_refl _)⟩⟩, fun g hg => ?_⟩
 obtain rfl : w.heap.size = g := by simpa [Value.ownBlock] using hg
 exact NoDig.of_block (heap_alloc_new w _) hd

end Go.Proofs.Ytgmpekhiohbakaa

namespace Go.Proofs.Ytgmpekhiohbakaa
open Go.RowKit

theorem RowOf.plain {p : Bool} {k : Nat} {w : World} {xs : List Value} {qs : List (List Rat)} (h : RowOf p k w xs qs) : ∀ u ∈ xs, u.oneCell' = true ∧ noDig u := by
 intro u hu
 obtain ⟨m, hm⟩ := List.mem_iff_getElem?.1 hu
 have hml : m < qs.length * (3 * k) := by rw [← h.1]; exact (List.getElem?_eq_some_iff.1 hm).1
 have hk : 0 < 3 * k := by
  rcases Nat.eq_zero_or_pos (3 * k) with h0 | h0
  ·
   rw [h0] at hml; omega
  ·
   exact h0
 have hi : m / (3 * k) < qs.length := Nat.div_lt_of_lt_mul (by rw [Nat.mul_comm]; exact hml)
 have hr : m % (3 * k) < 3 * k := Nat.mod_lt _ hk
 have hj : m % (3 * k) / 3 < k := by omega
 have em : m = m / (3 * k) * (3 * k) + (m % (3 * k) / 3 * 3 + m % (3 * k) % 3) := by
  have e1 := Nat.div_add_mod m (3 * k)
  have e2 := Nat.div_add_mod (m % (3 * k)) 3
  have e3 : 3 * k * (m / (3 * k)) = m / (3 * k) * (3 * k) := Nat.mul_comm _ _
  omega
 obtain ⟨x, h0, h1, h2, _⟩ := h.2 _ hi _ hj
 generalize m / (3 * k) * (3 * k) = A at *
 generalize m % (3 * k) / 3 * 3 = C at *
 have h3 : m % (3 * k) % 3 = 0 ∨ m % (3 * k) % 3 = 1 ∨ m % (3 * k) % 3 = 2 := by omega
 rcases h3 with h3 | h3 | h3
 ·
  rw [em, h3, show A + (C + 0) = A + C by omega, h0] at hm; cases hm; exact ⟨by simp [Value.oneCell'], noDig_bool _⟩
 ·
  rw [em, h3, show A + (C + 1) = A + C + 1 by omega, h1] at hm; cases hm; exact ⟨by simp [Value.oneCell'], noDig_slice _ _ _⟩
 ·
  rw [em, h3, show A + (C + 2) = A + C + 2 by omega, h2] at hm; cases hm; exact ⟨by simp [Value.oneCell'], noDig_slice _ _ _⟩
theorem RowOf.cons {p : Bool} {k : Nat} {w : World} {xs : List Value} {qs : List (List Rat)} (h : RowOf p k w xs qs) (l : List R3) (rs : List Rat) (hl : l.length = k) (hr : ∀ j x, l[j]? = some x → Fr p w x.val (rs.getD j 0)) : RowOf p k w (cellsR l ++ xs) ([rs] ++ qs) := by
 have h0 : RowOf p k w (cellsR l) [rs] := by
  have := (RowOf.nil p k w).snoc l rs hl hr
  simpa using this
 have hc : (cellsR l).length = 3 * k := by have := h0.1; simpa using this
 refine ⟨by rw [List.length_append, List.length_append, hc, h.1]; simp [Nat.add_mul], fun i hi j hj => ?_⟩
 rcases Nat.eq_zero_or_pos i with rfl | hp
 ·
  obtain ⟨x, h1, h2, h3, h4⟩ := h0.2 0 (by simp) j hj
  have g : ∀ o u, (cellsR l)[o]? = some u → (cellsR l ++ xs)[o]? = some u := fun o u ho => by rw [List.getElem?_append_left (List.getElem?_eq_some_iff.1 ho).1]; exact ho
  exact ⟨x, g _ _ h1, g _ _ h2, g _ _ h3, h4⟩
 ·
  obtain ⟨i, rfl⟩ : ∃ i', i = i' + 1 := ⟨i - 1, by omega⟩
  have hi' : i < qs.length := by simp at hi; omega
  obtain ⟨x, h1, h2, h3, h4⟩ := h.2 i hi' j hj
  have g : ∀ o u, xs[o]? = some u → (cellsR l ++ xs)[3 * k + o]? = some u := fun o u ho => by
   rw [List.getElem?_append_right (by rw [hc]; omega), hc, Nat.add_sub_cancel_left]; exact ho
  have e : (i + 1) * (3 * k) = 3 * k + i * (3 * k) := by rw [Nat.add_mul, Nat.one_mul]; omega
  refine ⟨x, ?_, ?_, ?_, ?_⟩
  ·
   rw [e, Nat.add_assoc]; exact g _ _ h1
  ·
   rw [e, Nat.add_assoc, Nat.add_assoc, ← Nat.add_assoc (i * (3 * k))]; exact g _ _ h2
  ·
   rw [e, Nat.add_assoc, Nat.add_assoc, ← Nat.add_assoc (i * (3 * k))]; exact g _ _ h3
  ·
   have eg : ([rs] ++ qs).getD (i + 1) [] = qs.getD i [] := rfl
   rw [eg]; exact h4
theorem mem_eraseIdx {w0 w : World} {bs : List Bx} {fs : List Fx} (h : Sx w0 w bs fs) (i : Nat) {B T : Nat} {cs : Array Value} (hi : bs[i]? = some (B, cs, T)) : ∀ b, b ∈ bs.eraseIdx i → b ∈ bs ∧ b.1 ≠ B := by
 intro b hb
 obtain ⟨k, hk⟩ := List.mem_iff_getElem?.1 hb
 rw [List.getElem?_eraseIdx] at hk
 split at hk
 ·
  exact ⟨List.mem_iff_getElem?.2 ⟨k, hk⟩, h.ne k i hk hi (by omega)⟩
 ·
  exact ⟨List.mem_iff_getElem?.2 ⟨k + 1, hk⟩, h.ne (k + 1) i hk hi (by omega)⟩
theorem Sx.turn {w0 w w' : World} {bs : List Bx} {fs : List Fx} {gs : List GrR} (h : Sx w0 w bs fs) (hg : GsR w0 w bs gs) (i : Nat) {B T : Nat} {cs : Array Value} (hi : bs[i]? = some (B, cs, T)) (hd : ∀ u ∈ cs.toList, noDig u) (j : Nat) {g : GrR} (hj : gs[j]? = some g) (l : List R3) (rs : List Rat) {v' : Value}
  (hl : l.length = g.k) (hr : ∀ n x, l[n]? = some x → Fr g.p w x.val (rs.getD n 0)) (hL : LRow w' w0.heap.size g.e (3 * g.k) v' (1 + g.qs.length) (cellsR l ++ g.xs)) (hgr : w.grownBy w' (some B)) (hat : ∀ c, v'.ownBlock = some c → some B = some c ∨ c = w.heap.size) :
  Sx w0 w' (bs.eraseIdx i) fs ∧ GsR w0 w' (bs.eraseIdx i) (gs.set j ⟨g.e, g.p, g.k, v', cellsR l ++ g.xs, [rs] ++ g.qs⟩) := by
 obtain ⟨hB, hB0, _⟩ := h.box i _ hi
 have hnd : NoDig w B := NoDig.of_block hB hd
 have hfr : ∀ p v q, Fr p w v q → Fr p w' v q := fun p v q hf => hf.grown hgr fun c e => by cases e; exact hnd
 have hm := mem_eraseIdx h i hi
 have hblt : ∀ b, b ∈ bs → b.1 < w.heap.size := fun b hb => by
  obtain ⟨n, hn⟩ := List.mem_iff_getElem?.1 hb
  exact blk_lt (h.box n b hn).1
 have hE := h.erase i
 have hbm : (B, cs, T) ∈ bs := List.mem_iff_getElem?.2 ⟨i, hi⟩
 refine ⟨⟨h.bel.grown hgr h.bel.size (fun k e => by cases e; exact hB0), fun n b hn => ?_, hE.nod, fun n f hf => hfr _ _ _ (h.fra n f hf)⟩, fun n g' hn => ?_, fun n g' hn => ?_, fun b hb g' hg' => ?_, fun n k g1 g2 hn hk hnk c hc => ?_⟩
 ·
  obtain ⟨h1, h2⟩ := hE.box n b hn
  exact ⟨(hgr.block b.1 (blk_lt h1) (fun e => by injection e with e; exact (hm b (List.mem_iff_getElem?.2 ⟨n, hn⟩)).2 (by omega))).trans h1, h2⟩
 ·
  rw [List.getElem?_set] at hn
  by_cases hjn : j = n
  ·
   subst hjn
   rw [if_pos rfl] at hn
   split at hn
   ·
    injection hn with hn
    subst hn
    show LRow w' w0.heap.size g.e (3 * g.k) v' ([rs] ++ g.qs).length (cellsR l ++ g.xs)
    rw [List.length_append]
    exact hL
   ·
    exact absurd hn (by simp)
  ·
   rw [if_neg hjn] at hn
   exact (hg.row n g' hn).grown hgr fun c hc e => hg.sep _ hbm g' (List.mem_iff_getElem?.2 ⟨n, hn⟩) (by rw [hc, e])
 ·
  rw [List.getElem?_set] at hn
  by_cases hjn : j = n
  ·
   subst hjn
   rw [if_pos rfl] at hn
   split at hn
   ·
    injection hn with hn
    subst hn
    exact ((hg.mean j g hj).mono fun _ _ hf => hfr _ _ _ hf).cons l rs hl (fun n x hx => hfr _ _ _ (hr n x hx))
   ·
    exact absurd hn (by simp)
  ·
   rw [if_neg hjn] at hn
   exact (hg.mean n g' hn).mono fun _ _ hf => hfr _ _ _ hf
 ·
  rcases List.mem_or_eq_of_mem_set hg' with hg' | rfl
  ·
   exact hg.sep b (hm b hb).1 g' hg'
  ·
   intro hc
   rcases hat _ hc with h1 | h1
   ·
    injection h1 with h1; exact (hm b hb).2 h1.symm
   ·
    have := hblt b (hm b hb).1; omega
 ·
  have hlt : ∀ (n : Nat) (g' : GrR), gs[n]? = some g' → ∀ c, g'.v.ownBlock = some c → c < w.heap.size := fun n g' hn c hc => ((hg.row n g' hn).lt hc).1
  have hnew : ∀ (n : Nat) (g' : GrR), gs[n]? = some g' → ∀ c, g'.v.ownBlock = some c → v'.ownBlock ≠ some c := fun n g' hn c hc e => by
   rcases hat _ e with h1 | h1
   ·
    exact hg.sep _ hbm g' (List.mem_iff_getElem?.2 ⟨n, hn⟩) (by rw [hc, h1])
   ·
    have := hlt n g' hn c hc; omega
  rw [List.getElem?_set] at hn hk
  by_cases hjn : j = n
  ·
   subst hjn
   rw [if_pos rfl] at hn
   rw [if_neg hnk] at hk
   split at hn
   ·
    injection hn with hn
    subst hn
    intro hc2
    exact hnew k g2 hk c hc2 hc
   ·
    exact absurd hn (by simp)
  ·
   rw [if_neg hjn] at hn
   by_cases hjk : j = k
   ·
    subst hjk
    rw [if_pos rfl] at hk
    split at hk
    ·
     injection hk with hk
     subst hk
     exact hnew n g1 hn c hc
    ·
     exact absurd hk (by simp)
   ·
    rw [if_neg hjk] at hk
    exact hg.apart n k g1 g2 hn hk hnk c hc

end Go.Proofs.Ytgmpekhiohbakaa

namespace Go.Proofs.Ytgmpekhiohbakaa
open Go.RowKit

structure GrG where
 e : TypeId
 size : Nat
 v : Value
 n : Nat
 xs : List Value
 fr : List Fx
structure GsG (w0 w : World) (bs : List Bx) (gs : List GrG) : Prop where
 row : ∀ (i : Nat) (g : GrG), gs[i]? = some g → LRow w w0.heap.size g.e g.size g.v g.n g.xs
 fra : ∀ (i : Nat) (g : GrG), gs[i]? = some g → ∀ f, f ∈ g.fr → Fr f.1 w f.2.1 f.2.2
 sep : ∀ b, b ∈ bs → ∀ g, g ∈ gs → g.v.ownBlock ≠ some b.1
 apart : ∀ (i j : Nat) (g h : GrG), gs[i]? = some g → gs[j]? = some h → i ≠ j → ∀ c, g.v.ownBlock = some c → h.v.ownBlock ≠ some c
theorem GsG.nil (w0 w : World) (bs : List Bx) : GsG w0 w bs [] := ⟨fun i g h => by simp at h, fun i g h => by simp at h, fun b hb g hg => by simp at hg, fun i j g h hi => by simp at hi⟩
theorem GsG.lt {w0 w : World} {bs : List Bx} {gs : List GrG} (h : GsG w0 w bs gs) : ∀ g, g ∈ gs → ∀ c, g.v.ownBlock = some c → c < w.heap.size := fun g hg c hc => by
 obtain ⟨i, hi⟩ := List.mem_iff_getElem?.1 hg
 exact ((h.row i g hi).lt hc).1
theorem LRow.weaken {w : World} {b b' e size n : Nat} {v : Value} {xs : List Value} (h : LRow w b e size v n xs) (hb : b' ≤ b) : LRow w b' e size v n xs := by
 refine ⟨⟨h.1.1, ?_⟩, h.2⟩
 rcases h.1.2 with ⟨h1, h2⟩ | ⟨g, cap, cur, h1, h2, h3⟩
 ·
  exact .inl ⟨h1, h2⟩
 ·
  exact .inr ⟨g, cap, cur, h1, Nat.le_trans hb h2, h3⟩
theorem GsG.addRow {w0 w : World} {bs : List Bx} {gs : List GrG} (h : GsG w0 w bs gs) {n : Nat} {r : GrG} (hL : LRow w n r.e r.size r.v r.n r.xs) (hn : w0.heap.size ≤ n) (hf : ∀ f, f ∈ r.fr → Fr f.1 w f.2.1 f.2.2) (hs : ∀ b, b ∈ bs → b.1 < n) (hg : ∀ g, g ∈ gs → ∀ c, g.v.ownBlock = some c → c < n) : GsG w0 w bs (r :: gs) := by
 refine ⟨fun i g hi => ?_, fun i g hi => ?_, fun b hb g hg' => ?_, fun i j g g' hi hj hij c hc => ?_⟩
 ·
  match i, hi with
  | 0, hi => simp at hi; subst hi; exact hL.weaken hn
  | i + 1, hi => exact h.row i g (by simpa using hi)
 ·
  match i, hi with
  | 0, hi => simp at hi; subst hi; exact hf
  | i + 1, hi => exact h.fra i g (by simpa using hi)
 ·
  rcases List.mem_cons.1 hg' with rfl | hg'
  ·
   exact fun hc => by have := (hL.lt hc).2; have := hs b hb; omega
  ·
   exact h.sep b hb g hg'
 ·
  match i, j, hi, hj with
  | 0, 0, _, _ => exact absurd rfl hij
  | 0, j + 1, hi, hj =>
   simp at hi; subst hi
   exact fun hc2 => by have := (hL.lt hc).2; have := hg g' (List.mem_iff_getElem?.2 ⟨j, by simpa using hj⟩) c hc2; omega
  | i + 1, 0, hi, hj =>
   simp at hj; subst hj
   exact fun hc2 => by have := (hL.lt hc2).2; have := hg g (List.mem_iff_getElem?.2 ⟨i, by simpa using hi⟩) c hc; omega
  | i + 1, j + 1, hi, hj => exact h.apart i j g g' (by simpa using hi) (by simpa using hj) (by omega) c hc
theorem GsG.add {w0 w : World} {bs : List Bx} {gs : List GrG} (h : GsG w0 w bs gs) (hw : w0.heap.size ≤ w.heap.size) (hs : ∀ b, b ∈ bs → b.1 < w.heap.size) (e : TypeId) (size : Nat) : GsG w0 w bs (⟨e, size, .slice none 0 0, 0, [], []⟩ :: gs) :=
 h.addRow (n := w.heap.size) (LRow.nil _ _ _ _) hw (fun f hf => by cases hf) hs h.lt
theorem GsG.below {w0 w w' : World} {bs : List Bx} {gs : List GrG} (h : GsG w0 w bs gs) (hb : Below w.heap.size w w') : GsG w0 w' bs gs :=
 ⟨fun i g hi => (h.row i g hi).below hb, fun i g hi f hf => (h.fra i g hi f hf).below hb, h.sep, h.apart⟩
theorem GsG.alloc {w0 w : World} {bs : List Bx} {gs : List GrG} (h : GsG w0 w bs gs) {B T : Nat} {cs : Array Value} (hB : w.heap.size = B) : GsG w0 (w.alloc (.cells cs T)) ((B, cs, T) :: bs) gs := by
 have h' := h.below ((Below.refl w.heap.size w).alloc (Nat.le_refl _) (.cells cs T))
 refine ⟨h'.row, h'.fra, fun b hb g hg => ?_, h'.apart⟩
 rcases List.mem_cons.1 hb with rfl | hb
 ·
  intro hc
  have := h.lt g hg _ hc
  dsimp only at this
  omega
 ·
  exact h.sep b hb g hg
theorem GsG.box {w0 w : World} {bs : List Bx} {gs : List GrG} (h : GsG w0 w bs gs) {B T : Nat} {cs : Array Value} (hne : ∀ g, g ∈ gs → g.v.ownBlock ≠ some B) : GsG w0 w ((B, cs, T) :: bs) gs :=
 ⟨h.row, h.fra, fun b hb g hg => by rcases List.mem_cons.1 hb with rfl | hb; exact hne g hg; exact h.sep b hb g hg, h.apart⟩
theorem GsG.mono {w0 w : World} {bs bs' : List Bx} {gs : List GrG} (h : GsG w0 w bs gs) (hm : ∀ b, b ∈ bs' → ∃ b2, b2 ∈ bs ∧ b2.1 = b.1) : GsG w0 w bs' gs :=
 ⟨h.row, h.fra, fun b hb g hg => by obtain ⟨b2, h1, h2⟩ := hm b hb; rw [← h2]; exact h.sep b2 h1 g hg, h.apart⟩
theorem GsG.set {w0 w : World} {bs : List Bx} {gs : List GrG} {fs : List Fx} (h : GsG w0 w bs gs) (hs : Sx w0 w bs fs) (i : Nat) {B T : Nat} {cs : Array Value} (hi : bs[i]? = some (B, cs, T)) (j : Nat) (v : Value) : GsG w0 (w.setCell ⟨B, j, none⟩ v) bs gs := by
 obtain ⟨h1, h2, h3⟩ := hs.box i _ hi
 have hm : (B, cs, T) ∈ bs := List.mem_iff_getElem?.2 ⟨i, hi⟩
 exact ⟨fun k g hg => (h.row k g hg).keep fun c hc => heap_setCell_other w ⟨B, j, none⟩ c v (fun e => h.sep _ hm g (List.mem_iff_getElem?.2 ⟨k, hg⟩) (by rw [hc, e])), fun k g hg f hf => (h.fra k g hg f hf).set h1 h3 j v, h.sep, h.apart⟩
theorem GsG.set2 {w0 w : World} {bs : List Bx} {gs : List GrG} {fs : List Fx} (h : GsG w0 w bs gs) (hs : Sx w0 w bs fs) (i : Nat) {B T : Nat} {cs : Array Value} (hi : bs[i]? = some (B, cs, T)) (j : Nat) (v : Value) : GsG w0 (w.setCell ⟨B, j, none⟩ v) (bs.set i (B, cs.setIfInBounds j v, T)) gs :=
 (h.set hs i hi j v).mono fun b hb => by
  rcases List.mem_or_eq_of_mem_set hb with hb | rfl
  ·
   exact ⟨b, hb, rfl⟩
  ·
   exact ⟨(B, cs, T), List.mem_iff_getElem?.2 ⟨i, hi⟩, rfl⟩
theorem GsG.to {w0 w w' : World} {bs bs' : List Bx} {gs : List GrG} (h : GsG w0 w bs gs) (hw : w = w') (hb : bs = bs') : GsG w0 w' bs' gs := by subst hw; subst hb; exact h
theorem Sx.appendG {w0 w w' : World} {bs : List Bx} {fs : List Fx} {gs : List GrG} (h : Sx w0 w bs fs) (hg : GsG w0 w bs gs) (i : Nat) {g : GrG} (hi : gs[i]? = some g) (m : Nat) (news : List Value) (frs : List Fx) {v' : Value} (hr : ∀ f, f ∈ frs → Fr f.1 w f.2.1 f.2.2)
  (hL : LRow w' w0.heap.size g.e g.size v' (g.n + m) (g.xs ++ news)) (hgr : w.grownBy w' g.v.ownBlock) (hat : ∀ c, v'.ownBlock = some c → g.v.ownBlock = some c ∨ c = w.heap.size) :
  Sx w0 w' bs fs ∧ GsG w0 w' bs (gs.set i ⟨g.e, g.size, v', g.n + m, g.xs ++ news, g.fr ++ frs⟩) := by
 have hm : g ∈ gs := List.mem_iff_getElem?.2 ⟨i, hi⟩
 have hnd : ∀ c, g.v.ownBlock = some c → NoDig w c := (hg.row i g hi).2
 have hfr : ∀ p v q, Fr p w v q → Fr p w' v q := fun p v q hf => hf.grown hgr hnd
 have hblt : ∀ b, b ∈ bs → b.1 < w.heap.size := fun b hb => by
  obtain ⟨j, hj⟩ := List.mem_iff_getElem?.1 hb
  exact blk_lt (h.box j b hj).1
 refine ⟨⟨h.bel.grown hgr h.bel.size (ownBlock_base3 (hg.row i g hi).1), fun j b hj => ?_, h.nod, fun j f hf => hfr _ _ _ (h.fra j f hf)⟩, fun j g' hj => ?_, fun j g' hj => ?_, fun b hb g' hg' => ?_, fun j k g1 g2 hj hk hjk c hc => ?_⟩
 ·
  obtain ⟨h1, h2⟩ := h.box j b hj
  exact ⟨(hgr.block b.1 (blk_lt h1) (fun e => hg.sep b (List.mem_iff_getElem?.2 ⟨j, hj⟩) g hm e.symm)).trans h1, h2⟩
 ·
  rw [List.getElem?_set] at hj
  by_cases hij : i = j
  ·
   subst hij
   rw [if_pos rfl] at hj
   split at hj
   ·
    injection hj with hj
    subst hj
    exact hL
   ·
    exact absurd hj (by simp)
  ·
   rw [if_neg hij] at hj
   exact (hg.row j g' hj).grown hgr fun c hc e => hg.apart j i g' g hj hi (fun e => hij e.symm) c hc e.symm
 ·
  rw [List.getElem?_set] at hj
  by_cases hij : i = j
  ·
   subst hij
   rw [if_pos rfl] at hj
   split at hj
   ·
    injection hj with hj
    subst hj
    intro f hf
    rcases List.mem_append.1 hf with hf | hf
    ·
     exact hfr _ _ _ (hg.fra i g hi f hf)
    ·
     exact hfr _ _ _ (hr f hf)
   ·
    exact absurd hj (by simp)
  ·
   rw [if_neg hij] at hj
   exact fun f hf => hfr _ _ _ (hg.fra j g' hj f hf)
 ·
  rcases List.mem_or_eq_of_mem_set hg' with hg' | rfl
  ·
   exact hg.sep b hb g' hg'
  ·
   intro hc
   rcases hat _ hc with h1 | h1
   ·
    exact hg.sep b hb g hm h1
   ·
    have := hblt b hb; omega
 ·
  have hlt : ∀ (n : Nat) (g' : GrG), gs[n]? = some g' → ∀ c, g'.v.ownBlock = some c → c < w.heap.size := fun n g' hn c hc => ((hg.row n g' hn).lt hc).1
  have hnew : ∀ (n : Nat) (g' : GrG), gs[n]? = some g' → n ≠ i → ∀ c, g'.v.ownBlock = some c → v'.ownBlock ≠ some c := fun n g' hn hni c hc e => by
   rcases hat _ e with h1 | h1
   ·
    exact hg.apart i n g g' hi hn (fun e => hni e.symm) c h1 hc
   ·
    have := hlt n g' hn c hc; omega
  rw [List.getElem?_set] at hj hk
  by_cases hij : i = j
  ·
   subst hij
   rw [if_pos rfl] at hj
   rw [if_neg hjk] at hk
   split at hj
   ·
    injection hj with hj
    subst hj
    exact fun hc2 => hnew k g2 hk (fun e => hjk e.symm) c hc2 hc
   ·
    exact absurd hj (by simp)
  ·
   rw [if_neg hij] at hj
   by_cases hik : i = k
   ·
    subst hik
    rw [if_pos rfl] at hk
    split at hk
    ·
     injection hk with hk
     subst hk
     exact hnew j g1 hj (fun e => hij e.symm) c hc
    ·
     exact absurd hk (by simp)
   ·
    rw [if_neg hik] at hk
    exact hg.apart j k g1 g2 hj hk hjk c hc
end Go.Proofs.Ytgmpekhiohbakaa

namespace Go.Proofs.Ytgmpekhiohbakaa
open Go.RowKit

def prC : List (Int × Int) → List Value
 | [] => []
 | r :: l => .int .i64 r.1 :: .int .i64 r.2 :: prC l
theorem prC_append (a b : List (Int × Int)) : prC (a ++ b) = prC a ++ prC b := by
 induction a with
 | nil => rfl
 | cons r a ih => simp [prC, ih]
theorem prC_get (ls : List (Int × Int)) : ∀ i, i < ls.length → (prC ls)[i * 2]? = some (.int .i64 (ls.getD i (0, 0)).1) ∧ (prC ls)[i * 2 + 1]? = some (.int .i64 (ls.getD i (0, 0)).2) := by
 induction ls with
 | nil => intro i hi; simp at hi
 | cons r l ih =>
  intro i hi
  cases i with
  | zero => simp [prC]
  | succ i =>
   have := ih i (by simpa using hi)
   simpa [prC, Nat.succ_mul] using this
theorem PairsOf.ofPr {w : World} {base : Nat} {e : TypeId} {v : Value} {ls : List (Int × Int)} (h : LRow w base e 2 v ls.length (prC ls)) : PairsOf w v ls := by
 rcases Nat.eq_zero_or_pos ls.length with h0 | hp
 ·
  rcases h.1.2 with ⟨rfl, _⟩ | ⟨g, cap, cur, rfl, _⟩
  ·
   exact ⟨none, 0, by rw [h0], fun h => absurd h (by omega)⟩
  ·
   exact ⟨_, _, rfl, fun h => absurd h (by omega)⟩
 ·
  obtain ⟨g, cap, rfl⟩ := ownsRow_some h.1 hp
  have hc : ∀ j u, (prC ls)[j]? = some u → w.cell? ((⟨g, 0, none⟩ : Addr).add j) = some u := h.1.cells (g := g) rfl
  have hlt : g < w.heap.size := (h.lt rfl).1
  refine ⟨_, _, rfl, fun _ => ⟨g, 0, rfl, hlt, fun i hi => ?_⟩⟩
  obtain ⟨h0, h1⟩ := prC_get ls i hi
  have ea : ∀ j, (⟨g, 0, none⟩ : Addr).add j = ⟨g, 0 + j, none⟩ := fun j => by unfold Addr.add; split <;> simp_all
  refine ⟨?_, ?_⟩
  ·
   rw [← ea]; exact hc _ _ h0
  ·
   rw [show 0 + i * 2 + 1 = 0 + (i * 2 + 1) by omega, ← ea]; exact hc _ _ h1
def Pairs8i (w : World) (v : Value) (ps : List Pt) : Prop :=
 ∃ ao cap, v = .slice ao ps.length cap ∧ (0 < ps.length → ∃ b off, ao = some ⟨b, off, none⟩ ∧ b < w.heap.size ∧ ∀ i, i < ps.length → w.cell? ⟨b, off + i * 2, none⟩ = some (.int .i8 (ps.getD i (0, 0)).1) ∧ w.cell? ⟨b, off + i * 2 + 1, none⟩ = some (.int .i8 (ps.getD i (0, 0)).2))
def RetPt1 (x y : Int) (w : World) (e : Ending) (w' : World) : Prop := e = .returned (.agg #[.int .i64 x, .int .i64 y]) ∧ Below w.heap.size w w'
theorem way_row {w : World} {base m : Nat} {e : TypeId} {v : Value} {xs : List Value} {l : List Pt} (h : LRow w base e 2 v m xs) (hm : m = l.length) (hx : xs = prC l) : PairsOf w v l := by
 subst hm
 subst hx
 exact PairsOf.ofPr h
theorem way_cap {w : World} {base m : Nat} {e : TypeId} {v : Value} {xs : List Value} (h : LRow w base e 2 v m xs) : CapP v := by
 obtain ⟨a, c, hv, hc, _⟩ := h.capOk
 exact ⟨a, m, c, hv, hc⟩
theorem ptOk_small {p : Pt} (h1 : -1000000000 ≤ p.1 ∧ p.1 ≤ 1000000000) (h2 : -1000000000 ≤ p.2 ∧ p.2 ≤ 1000000000) : ptOk p = true := by
 unfold ptOk inL far
 rw [decide_eq_true (by omega), decide_eq_true (by omega), decide_eq_true (by omega), decide_eq_true (by omega)]
 rfl
theorem wayTo_app {ps : List Pt} {i : Nat} (h : (wayTo ps i).length = 0 ∨ (wayTo ps i).getD ((wayTo ps i).length - 1) (0, 0) ≠ ps.getD i (0, 0)) : (wayTo ps (i + 1)).length = (wayTo ps i).length + 1 ∧ prC (wayTo ps (i + 1)) = prC (wayTo ps i) ++ [.int .i64 (ps.getD i (0, 0)).1, .int .i64 (ps.getD i (0, 0)).2] := by
 have e : wayTo ps (i + 1) = wayTo ps i ++ [ps.getD i (0, 0)] := if_pos h
 rw [e, List.length_append, prC_append]
 exact ⟨rfl, rfl⟩
theorem wayTo_same {ps : List Pt} {i : Nat} (h0 : (wayTo ps i).length ≠ 0) (h : (wayTo ps i).getD ((wayTo ps i).length - 1) (0, 0) = ps.getD i (0, 0)) : wayTo ps (i + 1) = wayTo ps i :=
 if_neg (fun g => g.elim h0 (fun k => k h))
theorem GsR.st_II {w0 w : World} {bs : List Bx} {gs : List GrR} {fs : List Fx} (h : GsR w0 w bs gs) (hs : Sx w0 w bs fs) (i : Nat) (o0 : Int) (o1 : Int) (n0 : Int) (n1 : Int) {B T : Nat} (hi : bs[i]? = some (B, #[.int .i64 o0, .int .i64 o1], T)) :
  GsR w0 (((w).setCell ⟨B, 0, none⟩ (.int .i64 n0)).setCell ⟨B, 1, none⟩ (.int .i64 n1)) (bs.set i (B, #[.int .i64 n0, .int .i64 n1], T)) gs := by
 have hl := (List.getElem?_eq_some_iff.1 hi).1
 have g := ((h).set2 (hs) i hi 0 (.int .i64 n0)).set2 ((hs).set i hi 0 (v := .int .i64 n0) rfl) i (by rw [List.getElem?_set, if_pos rfl, if_pos (by simpa using hl)]) 1 (.int .i64 n1)
 simpa using g
theorem GsG.st_II {w0 w : World} {bs : List Bx} {gs : List GrG} {fs : List Fx} (h : GsG w0 w bs gs) (hs : Sx w0 w bs fs) (i : Nat) (o0 : Int) (o1 : Int) (n0 : Int) (n1 : Int) {B T : Nat} (hi : bs[i]? = some (B, #[.int .i64 o0, .int .i64 o1], T)) :
  GsG w0 (((w).setCell ⟨B, 0, none⟩ (.int .i64 n0)).setCell ⟨B, 1, none⟩ (.int .i64 n1)) (bs.set i (B, #[.int .i64 n0, .int .i64 n1], T)) gs := by
 have hl := (List.getElem?_eq_some_iff.1 hi).1
 have g := ((h).set2 (hs) i hi 0 (.int .i64 n0)).set2 ((hs).set i hi 0 (v := .int .i64 n0) rfl) i (by rw [List.getElem?_set, if_pos rfl, if_pos (by simpa using hl)]) 1 (.int .i64 n1)
 simpa using g
theorem GsG.st_R {w0 w : World} {bs : List Bx} {gs : List GrG} {fs : List Fx} (h : GsG w0 w bs gs) (hs : Sx w0 w bs fs) (i : Nat) (o0 : R3) (n0 : R3) {B T : Nat} (hi : bs[i]? = some (B, #[.bool o0.b, .slice o0.a o0.n o0.c, .slice o0.d o0.m o0.e], T)) :
  GsG w0 ((((w).setCell ⟨B, 0, none⟩ (.bool n0.b)).setCell ⟨B, 1, none⟩ (.slice n0.a n0.n n0.c)).setCell ⟨B, 2, none⟩ (.slice n0.d n0.m n0.e)) (bs.set i (B, #[.bool n0.b, .slice n0.a n0.n n0.c, .slice n0.d n0.m n0.e], T)) gs := by
 have hl := (List.getElem?_eq_some_iff.1 hi).1
 have g := (((h).set2 (hs) i hi 0 (.bool n0.b)).set2 ((hs).set i hi 0 (v := .bool n0.b) rfl) i (by rw [List.getElem?_set, if_pos rfl, if_pos (by simpa using hl)]) 1 (.slice n0.a n0.n n0.c)).set2 (((hs).set i hi 0 (v := .bool n0.b) rfl).set i (by rw [List.getElem?_set, if_pos rfl, if_pos (by simpa using hl)]) 1 (v := .slice n0.a n0.n n0.c) rfl) i (by rw [List.getElem?_set, if_pos rfl, if_pos (by simpa using hl)]) 2 (.slice n0.d n0.m n0.e)
 simpa using g
theorem inf_api_Point : (Try.prog.info? 27).map (fun i => (i.zero, i.size, i.bytes)) = some (some (.agg #[.int .i64 0, .int .i64 0]), 2, 16) := by kernel_rfl
set_option maxRecDepth 100000 in
set_option maxHeartbeats 30000000 in
theorem point_any (k a0 a1 d0 d1 : Int) (w : World) (hk : 0 ≤ k ∧ k ≤ 256) (ha0 : -32768 ≤ a0 ∧ a0 ≤ 32767) (ha1 : -32768 ≤ a1 ∧ a1 ≤ 32767) (hd0 : -32768 ≤ d0 ∧ d0 ≤ 32767) (hd1 : -32768 ≤ d1 ∧ d1 ≤ 32767) : Calls Try.prog 4 #[.agg #[.int .i16 a0, .int .i16 a1], .int .i64 k, .agg #[.int .i16 d0, .int .i16 d1]] w (RetPt1 (k * a0 + d0) (k * a1 + d1) w) := by
 have HS := Lib.hid (Sx.init w)
 have p0 := mul_absI (a := k) (b := a0) (A := 256) (B := 32768) (by omega) (by omega)
 have p1 := mul_absI (a := k) (b := a1) (A := 256) (B := 32768) (by omega) (by omega)
 obtain ⟨m0, hm0⟩ : ∃ z, z = k * a0 := ⟨_, rfl⟩
 obtain ⟨m1, hm1⟩ : ∃ z, z = k * a1 := ⟨_, rfl⟩
 rw [← hm0] at p0
 rw [← hm1] at p1
 obtain ⟨s0, hs0⟩ : ∃ z, z = m0 + d0 := ⟨_, rfl⟩
 obtain ⟨s1, hs1⟩ : ∃ z, z = m1 + d1 := ⟨_, rfl⟩
 have HE0 : Hid (k * a0 + d0 = s0) := by show _ = _; rw [hs0, hm0]
 have HE1 : Hid (k * a1 + d1 = s1) := by show _ = _; rw [hs1, hm1]
 have w1 : IntKind.i64.wrap a0 = a0 := IntWalk.i64_in _ (by omega)
 have w2 : IntKind.i64.wrap a1 = a1 := IntWalk.i64_in _ (by omega)
 have w3 : IntKind.i64.wrap d0 = d0 := IntWalk.i64_in _ (by omega)
 have w4 : IntKind.i64.wrap d1 = d1 := IntWalk.i64_in _ (by omega)
 have w5 : IntKind.i64.wrap (k * a0) = m0 := (IntWalk.i64_in _ (by omega)).trans hm0.symm
 have w6 : IntKind.i64.wrap (k * a1) = m1 := (IntWalk.i64_in _ (by omega)).trans hm1.symm
 have w7 : IntKind.i64.wrap (m0 + d0) = s0 := (IntWalk.i64_in _ (by omega)).trans hs0.symm
 have w8 : IntKind.i64.wrap (m1 + d1) = s1 := (IntWalk.i64_in _ (by omega)).trans hs1.symm
 clear hk ha0 ha1 hd0 hd1 p0 p1 hm0 hm1 hs0 hs1
 go_enter Try.func4, Try.ntmps4
 go_wp2_with fail
 generalize hW1 : (((w).alloc (.cells _ _)).alloc (.cells _ _)).alloc (.cells _ _) = W1 at *
 replace HS := Lib.hid (((((HS.out).alloc (B := w.heap.size) rfl (by rfl)).alloc (B := w.heap.size + 1) (by simp) (by rfl)).alloc (B := w.heap.size + 2) (by simp) (by rfl)).to hW1 (by (try simp only [nb5, nb6]); rfl))
 clear hW1
 have b2e := (HS.out.at 0 _ _ _ rfl)
 have b2c0 := blk_cell b2e 0 (.int .i64 s0) rfl
 have b2c1 := blk_cell b2e 1 (.int .i64 s1) rfl
 clear b2e
 refine bodyPost_ret (v := .agg #[.int .i64 s0, .int .i64 s1]) (by simp [results, Try.results4, go_sem, b2c0, b2c1]) rfl ⟨by rw [HE0.out, HE1.out], HS.out.bel⟩
set_option maxRecDepth 100000 in
set_option maxHeartbeats 30000000 in
theorem layupCircles_any (a0 a1 b0 b1 c0 c1 d0 d1 : Int) (n le ls : Nat) (ps : List Pt) (v : Value) (w : World) (ha0 : -32768 ≤ a0 ∧ a0 ≤ 32767) (ha1 : -32768 ≤ a1 ∧ a1 ≤ 32767) (hb0 : -32768 ≤ b0 ∧ b0 ≤ 32767) (hb1 : -32768 ≤ b1 ∧ b1 ≤ 32767) (hc0 : -32768 ≤ c0 ∧ c0 ≤ 32767) (hc1 : -32768 ≤ c1 ∧ c1 ≤ 32767) (hd0 : -32768 ≤ d0 ∧ d0 ≤ 32767) (hd1 : -32768 ≤ d1 ∧ d1 ≤ 32767) (hn : n ≤ 255) (hle : le ≤ 65535) (hls : ls ≤ 65535) (h : Pairs8i w v ps) (hps : ∀ i, i < ps.length → (-128 ≤ (ps.getD i (0, 0)).1 ∧ (ps.getD i (0, 0)).1 ≤ 127) ∧ (-128 ≤ (ps.getD i (0, 0)).2 ∧ (ps.getD i (0, 0)).2 ≤ 127)) :
  Calls Try.prog 3 #[.agg #[.int .i16 a0, .int .i16 a1], .agg #[.int .i16 b0, .int .i16 b1], .agg #[.int .i16 c0, .int .i16 c1], .agg #[.int .i16 d0, .int .i16 d1], .int .u8 (n : Int), v, .int .u16 (le : Int), .int .u16 (ls : Int)] w (RetBool true w) := by
 have HS := Lib.hid (Sx.init w)
 have HPS := Lib.hid hps
 obtain ⟨ao, cap, rfl, hEB⟩ := h
 have HEB := Lib.hid hEB
 obtain ⟨k, hk⟩ : ∃ z : Int, z = 1 + (n : Int) := ⟨_, rfl⟩
 have hkb : 0 ≤ k ∧ k ≤ 256 := by omega
 have hk0 : k ≠ 0 := by omega
 have hwk : IntKind.i64.wrap (1 + (n : Int)) = k := (IntWalk.i64_in _ (by omega)).trans (by omega)
 have hwn : IntKind.i64.wrap (n : Int) = (n : Int) := IntWalk.i64_in _ (by omega)
 have hkk0 := mul_absI (a := k) (b := k) (A := 256) (B := 256) (by omega) (by omega)
 obtain ⟨kk, hkk⟩ : ∃ z, z = k * k := ⟨_, rfl⟩
 rw [← hkk] at hkk0
 have hwkk : IntKind.i64.wrap (k * k) = kk := (IntWalk.i64_in _ (by omega)).trans hkk.symm
 have hwle : IntKind.i64.wrap (le : Int) = (le : Int) := IntWalk.i64_in _ (by omega)
 have hwls : IntKind.i64.wrap (ls : Int) = (ls : Int) := IntWalk.i64_in _ (by omega)
 obtain ⟨df, hdf⟩ : ∃ z : Int, z = (le : Int) - (ls : Int) := ⟨_, rfl⟩
 have hwdf : IntKind.i64.wrap ((le : Int) - (ls : Int)) = df := (IntWalk.i64_in _ (by omega)).trans hdf.symm
 obtain ⟨mx, hmx⟩ : ∃ z : Int, z = max 0 df := ⟨_, rfl⟩
 have hmx2 : max 0 df = mx := hmx.symm
 have HMX : Hid (0 ≤ mx ∧ mx ≤ (le : Int)) := by show _ ∧ _; omega
 have HLE : Hid ((le : Int) ≤ 65535) := by show _ ≤ _; omega
 have oka : ptOk (a0, a1) = true := ptOk_small (by dsimp only; omega) (by dsimp only; omega)
 have HPa1 : Hid (∀ W, Calls Try.prog 4 #[.agg #[.int .i16 a0, .int .i16 a1], .int .i64 1, .agg #[.int .i16 0, .int .i16 0]] W (RetPt1 a0 a1 W)) := fun W => by
  have := point_any 1 a0 a1 0 0 W (by omega) ha0 ha1 (by omega) (by omega)
  rw [Int.one_mul, Int.one_mul, Int.add_zero, Int.add_zero] at this
  exact this
 have HPak : Hid (∀ W, Calls Try.prog 4 #[.agg #[.int .i16 a0, .int .i16 a1], .int .i64 k, .agg #[.int .i16 d0, .int .i16 d1]] W (RetPt1 (k * a0 + d0) (k * a1 + d1) W)) := fun W => point_any k a0 a1 d0 d1 W hkb ha0 ha1 hd0 hd1
 have pa0 := mul_absI (a := k) (b := a0) (A := 256) (B := 32768) (by omega) (by omega)
 have pa1 := mul_absI (a := k) (b := a1) (A := 256) (B := 32768) (by omega) (by omega)
 have oksa : ptOk (scPt k (d0, d1) (a0, a1)) = true := ptOk_small (by unfold scPt; dsimp only; omega) (by unfold scPt; dsimp only; omega)
 have okb : ptOk (b0, b1) = true := ptOk_small (by dsimp only; omega) (by dsimp only; omega)
 have HPb1 : Hid (∀ W, Calls Try.prog 4 #[.agg #[.int .i16 b0, .int .i16 b1], .int .i64 1, .agg #[.int .i16 0, .int .i16 0]] W (RetPt1 b0 b1 W)) := fun W => by
  have := point_any 1 b0 b1 0 0 W (by omega) hb0 hb1 (by omega) (by omega)
  rw [Int.one_mul, Int.one_mul, Int.add_zero, Int.add_zero] at this
  exact this
 have HPbk : Hid (∀ W, Calls Try.prog 4 #[.agg #[.int .i16 b0, .int .i16 b1], .int .i64 k, .agg #[.int .i16 d0, .int .i16 d1]] W (RetPt1 (k * b0 + d0) (k * b1 + d1) W)) := fun W => point_any k b0 b1 d0 d1 W hkb hb0 hb1 hd0 hd1
 have pb0 := mul_absI (a := k) (b := b0) (A := 256) (B := 32768) (by omega) (by omega)
 have pb1 := mul_absI (a := k) (b := b1) (A := 256) (B := 32768) (by omega) (by omega)
 have oksb : ptOk (scPt k (d0, d1) (b0, b1)) = true := ptOk_small (by unfold scPt; dsimp only; omega) (by unfold scPt; dsimp only; omega)
 have okc : ptOk (c0, c1) = true := ptOk_small (by dsimp only; omega) (by dsimp only; omega)
 have HPc1 : Hid (∀ W, Calls Try.prog 4 #[.agg #[.int .i16 c0, .int .i16 c1], .int .i64 1, .agg #[.int .i16 0, .int .i16 0]] W (RetPt1 c0 c1 W)) := fun W => by
  have := point_any 1 c0 c1 0 0 W (by omega) hc0 hc1 (by omega) (by omega)
  rw [Int.one_mul, Int.one_mul, Int.add_zero, Int.add_zero] at this
  exact this
 have HPck : Hid (∀ W, Calls Try.prog 4 #[.agg #[.int .i16 c0, .int .i16 c1], .int .i64 k, .agg #[.int .i16 d0, .int .i16 d1]] W (RetPt1 (k * c0 + d0) (k * c1 + d1) W)) := fun W => point_any k c0 c1 d0 d1 W hkb hc0 hc1 hd0 hd1
 have pc0 := mul_absI (a := k) (b := c0) (A := 256) (B := 32768) (by omega) (by omega)
 have pc1 := mul_absI (a := k) (b := c1) (A := 256) (B := 32768) (by omega) (by omega)
 have oksc : ptOk (scPt k (d0, d1) (c0, c1)) = true := ptOk_small (by unfold scPt; dsimp only; omega) (by unfold scPt; dsimp only; omega)
 have HR1 : Hid (∀ W, Calls Try.prog 5 #[.agg #[.int .i64 a0, .int .i64 a1], .agg #[.int .i64 b0, .int .i64 b1], .agg #[.int .i64 c0, .int .i64 c1]] W (RetRatE (radQ (a0, a1) (b0, b1) (c0, c1)) (radE (a0, a1) (b0, b1) (c0, c1)) W)) := fun W => radius_any (a0, a1) (b0, b1) (c0, c1) W oka okb okc
 have HR2 : Hid (∀ W, Calls Try.prog 5 #[.agg #[.int .i64 c0, .int .i64 c1], .agg #[.int .i64 a0, .int .i64 a1], .agg #[.int .i64 b0, .int .i64 b1]] W (RetRatE (radQ (a0, a1) (b0, b1) (c0, c1)) (radE (a0, a1) (b0, b1) (c0, c1)) W)) := fun W => by
  rw [← radQ_rot, ← radE_rot]; exact radius_any (c0, c1) (a0, a1) (b0, b1) W okc oka okb
 have HR3 : Hid (∀ W, Calls Try.prog 5 #[.agg #[.int .i64 b0, .int .i64 b1], .agg #[.int .i64 a0, .int .i64 a1], .agg #[.int .i64 c0, .int .i64 c1]] W (RetRatE (radQ (a0, a1) (b0, b1) (c0, c1)) (radE (a0, a1) (b0, b1) (c0, c1)) W)) := fun W => by
  rw [← radQ_swap, ← radE_swap]; exact radius_any (b0, b1) (a0, a1) (c0, c1) W okb oka okc
 have HR4 : Hid (∀ W, Calls Try.prog 5 #[.agg #[.int .i64 (k * a0 + d0), .int .i64 (k * a1 + d1)], .agg #[.int .i64 (k * b0 + d0), .int .i64 (k * b1 + d1)], .agg #[.int .i64 (k * c0 + d0), .int .i64 (k * c1 + d1)]] W (RetRatE (radQ (a0, a1) (b0, b1) (c0, c1) * ((kk : Int) : Rat)) (radE (a0, a1) (b0, b1) (c0, c1)) W)) := fun W => by
  rw [hkk, ← radQ_sc hk0 (d0, d1), ← radE_sc hk0 (d0, d1)]; exact radius_any (scPt k (d0, d1) (a0, a1)) (scPt k (d0, d1) (b0, b1)) (scPt k (d0, d1) (c0, c1)) W oksa oksb oksc
 have HNK : Hid (∀ W, Calls Try.prog 9 #[.int .i64 kk] W (RetRat ((kk : Int) : Rat) W)) := fun W => num03_any kk W (by omega) (by omega)
 have ZR := Lib.hid (rad_sz oka okb okc)
 have ZK := Lib.hid (i64_szR kk (by omega) (by omega) 1 (by omega))
 have HOKP : Hid (∀ i, ptOk (ps.getD i (0, 0)) = true) := fun i => by
  by_cases hi : i < ps.length
  ·
   obtain ⟨⟨r1, r2⟩, r3, r4⟩ := HPS.out i hi
   exact ptOk_small ⟨by omega, by omega⟩ ⟨by omega, by omega⟩
  ·
   rw [List.getD_eq_getElem?_getD, List.getElem?_eq_none (by omega)]; rfl
 clear oka oksa pa0 pa1 ha0 ha1 okb oksb pb0 pb1 hb0 hb1 okc oksc pc0 pc1 hc0 hc1 hd0 hd1 hk hkb hk0 hkk0 hkk hdf hmx hn hle hls hps hEB
 generalize radQ (a0, a1) (b0, b1) (c0, c1) = qr at *
 generalize radE (a0, a1) (b0, b1) (c0, c1) = er at *
 generalize ((kk : Int) : Rat) = qk at *
 generalize k * a0 + d0 = sa0 at *
 generalize k * a1 + d1 = sa1 at *
 generalize k * b0 + d0 = sb0 at *
 generalize k * b1 + d1 = sb1 at *
 generalize k * c0 + d0 = sc0 at *
 generalize k * c1 + d1 = sc1 at *
 go_enter Try.func3, Try.ntmps3
 go_wp2_with fail
 generalize hW1 : ((((w).alloc (.cells _ _)).alloc (.cells _ _)).alloc (.cells _ _)).alloc (.cells _ _) = W1 at *
 replace HS := Lib.hid ((((((HS.out).alloc (B := w.heap.size) rfl (by rfl)).alloc (B := w.heap.size + 1) (by simp) (by rfl)).alloc (B := w.heap.size + 2) (by simp) (by rfl)).alloc (B := w.heap.size + 3) (by simp) (by rfl)).to hW1 (by (try simp only [nb5, nb6]); rfl))
 clear hW1
 refine wp_region_held_drew (S := (fun w' => Sx w w' [(w.heap.size + 3, #[.int .i16 d0, .int .i16 d1], 23), (w.heap.size + 2, #[.int .i16 c0, .int .i16 c1], 23), (w.heap.size + 1, #[.int .i16 b0, .int .i16 b1], 23), (w.heap.size, #[.int .i16 a0, .int .i16 a1], 23)] [])) (by kernel_rfl) ((HS.out.drew).bare) (fun hh => ?_)
 replace HS := Lib.hid HS.out.drew
 have HSW := Lib.hid HS.out.bel.size
 refine tkB (i := 0) (v := ?vk3) rfl ?hk3 ?rk3
 case hk3 => intro u hSu; go_simp <;> with_reducible rfl
 try simp only [nbs, Act.put]
 refine tkB (i := 1) (v := ?vk4) rfl ?hk4 ?rk4
 case hk4 => intro u hSu; (try dsimp only at hSu); have qb0e := (hSu.at 3 _ _ _ rfl); have qb0c0 := blk_cell qb0e 0 (.int .i16 a0) rfl; have qb0c1 := blk_cell qb0e 1 (.int .i16 a1) rfl; clear qb0e; clear hSu; go_simp <;> with_reducible rfl
 try simp only [nbs, Act.put]
 refine tkB (i := 2) (v := ?vk5) rfl ?hk5 ?rk5
 case hk5 => intro u hSu; go_simp <;> with_reducible rfl
 try simp only [nbs, Act.put]
 refine tkB (i := 4) (v := ?vk6) rfl ?hk6 ?rk6
 case hk6 => intro u hSu; go_simp <;> with_reducible rfl
 try simp only [nbs, Act.put]
 refine tkB (i := 5) (v := ?vk7) rfl ?hk7 ?rk7
 case hk7 => intro u hSu; (try dsimp only at hSu); have qb1e := (hSu.at 2 _ _ _ rfl); have qb1c0 := blk_cell qb1e 0 (.int .i16 b0) rfl; have qb1c1 := blk_cell qb1e 1 (.int .i16 b1) rfl; clear qb1e; clear hSu; go_simp <;> with_reducible rfl
 try simp only [nbs, Act.put]
 refine tkB (i := 6) (v := ?vk8) rfl ?hk8 ?rk8
 case hk8 => intro u hSu; go_simp <;> with_reducible rfl
 try simp only [nbs, Act.put]
 refine tkB (i := 8) (v := ?vk9) rfl ?hk9 ?rk9
 case hk9 => intro u hSu; go_simp <;> with_reducible rfl
 try simp only [nbs, Act.put]
 refine tkB (i := 9) (v := ?vk10) rfl ?hk10 ?rk10
 case hk10 => intro u hSu; (try dsimp only at hSu); have qb2e := (hSu.at 1 _ _ _ rfl); have qb2c0 := blk_cell qb2e 0 (.int .i16 c0) rfl; have qb2c1 := blk_cell qb2e 1 (.int .i16 c1) rfl; clear qb2e; clear hSu; go_simp <;> with_reducible rfl
 try simp only [nbs, Act.put]
 refine tkB (i := 10) (v := ?vk11) rfl ?hk11 ?rk11
 case hk11 => intro u hSu; go_simp <;> with_reducible rfl
 try simp only [nbs, Act.put]
 refine wpAnyH_modular [3, 7, 11, 12, 13, 14] [3, 7, 11, 12, 13, 14] [] [42, 46, 50, 19, 20, 21] #[true, true, true, true, true, true, true, true, true, true, true, true, true, true, true, false, false, false] 3 [(3, 42), (7, 46), (11, 50), (12, 19), (13, 20), (14, 21)] [(3, []), (7, [3]), (11, [7]), (12, []), (13, []), (14, [])] [12, 13, 14] [(3, fun v w => v = .agg #[.int .i64 a0, .int .i64 a1]), (7, fun v w => v = .agg #[.int .i64 b0, .int .i64 b1]), (11, fun v w => v = .agg #[.int .i64 c0, .int .i64 c1]), (12, fun v w => ∃ Br2_12 : Nat, v = .pointer (some ⟨Br2_12, 0, none⟩) ∧ W1.drew.heap.size ≤ Br2_12 ∧ w.heap[Br2_12]? = some (.cells #[.int .i64 0, .int .i64 0] 27 (0, 0))), (13, fun v w => ∃ Br2_13 : Nat, v = .pointer (some ⟨Br2_13, 0, none⟩) ∧ W1.drew.heap.size ≤ Br2_13 ∧ w.heap[Br2_13]? = some (.cells #[.int .i64 0, .int .i64 0] 27 (0, 0))), (14, fun v w => ∃ Br2_14 : Nat, v = .pointer (some ⟨Br2_14, 0, none⟩) ∧ W1.drew.heap.size ≤ Br2_14 ∧ w.heap[Br2_14]? = some (.cells #[.int .i64 0, .int .i64 0] 27 (0, 0)))]
  rfl (by kernel_rfl) (by decide) rfl ⟨(fun v w w' hb e => e), ⟨(fun v w w' hb e => e), ⟨(fun v w w' hb e => e), ⟨(fun v w w' hb ⟨B, e, g, k⟩ => ⟨B, e, g, blk_keep k hb (blk_lt k)⟩), ⟨(fun v w w' hb ⟨B, e, g, k⟩ => ⟨B, e, g, blk_keep k hb (blk_lt k)⟩), ⟨(fun v w w' hb ⟨B, e, g, k⟩ => ⟨B, e, g, blk_keep k hb (blk_lt k)⟩), trivial⟩⟩⟩⟩⟩⟩ ⟨fun v w ⟨B, e, g, k⟩ => ⟨B, e, blk_lt k⟩, ⟨fun v w ⟨B, e, g, k⟩ => ⟨B, e, blk_lt k⟩, ⟨fun v w ⟨B, e, g, k⟩ => ⟨B, e, blk_lt k⟩, trivial⟩⟩⟩ (fun w' hb => Sx.below hh hb) ⟨?_, ?_, ?_, ?_, ?_, ?_, trivial⟩ trivial (by decide) ?_
 ·
  refine StepM.of rfl (fun f w' hb hp K hK => ?_)
  have HSB := HS
  replace HS := Lib.hid (HS.out.below hb)
  simp only [fillA, fillT, List.foldl_cons, List.foldl_nil, Act.put, nb4, nb5, nb6]
  go_simp
  go_wp2_with (go_at_call 4; (with_reducible refine (HPa1.out _).mono ?_); rintro e w12 ⟨rfl, hb12⟩)
  exact hK.out _ _ (.agg #[.int .i64 a0, .int .i64 a1]) (by simp only [fillA, fillT, List.foldl_cons, List.foldl_nil, Act.put, nb4, nb5, nb6, nb1, nb2, nb3]) rfl (fun h => absurd h (by decide)) hb12
 ·
  refine StepM.of rfl (fun f w' hb hp K hK => ?_)
  have HSB := HS
  replace HS := Lib.hid (HS.out.below hb)
  simp only [fillA, fillT, List.foldl_cons, List.foldl_nil, Act.put, nb4, nb5, nb6]
  go_simp
  go_wp2_with (go_at_call 4; (with_reducible refine (HPb1.out _).mono ?_); rintro e w13 ⟨rfl, hb13⟩)
  exact hK.out _ _ (.agg #[.int .i64 b0, .int .i64 b1]) (by simp only [fillA, fillT, List.foldl_cons, List.foldl_nil, Act.put, nb4, nb5, nb6, nb1, nb2, nb3]) rfl (fun h => absurd h (by decide)) hb13
 ·
  refine StepM.of rfl (fun f w' hb hp K hK => ?_)
  have HSB := HS
  replace HS := Lib.hid (HS.out.below hb)
  simp only [fillA, fillT, List.foldl_cons, List.foldl_nil, Act.put, nb4, nb5, nb6]
  go_simp
  go_wp2_with (go_at_call 4; (with_reducible refine (HPc1.out _).mono ?_); rintro e w14 ⟨rfl, hb14⟩)
  exact hK.out _ _ (.agg #[.int .i64 c0, .int .i64 c1]) (by simp only [fillA, fillT, List.foldl_cons, List.foldl_nil, Act.put, nb4, nb5, nb6, nb1, nb2, nb3]) rfl (fun h => absurd h (by decide)) hb14
 ·
  refine StepM.of rfl (fun f w' hb hp K hK => ?_)
  have HSB := HS
  replace HS := Lib.hid (HS.out.below hb)
  simp only [fillA, fillT, List.foldl_cons, List.foldl_nil, Act.put, nb4, nb5, nb6]
  go_simp
  exact hK.out _ _ (.pointer (some ⟨w'.heap.size, 0, none⟩)) (by simp only [fillA, fillT, List.foldl_cons, List.foldl_nil, Act.put, nb4, nb5, nb6, nb1, nb2, nb3]) ⟨_, rfl, hb.size, blk_new _ _ _⟩ (fun _ => rfl) (below1 w' _)
 ·
  refine StepM.of rfl (fun f w' hb hp K hK => ?_)
  have HSB := HS
  replace HS := Lib.hid (HS.out.below hb)
  simp only [fillA, fillT, List.foldl_cons, List.foldl_nil, Act.put, nb4, nb5, nb6]
  go_simp
  exact hK.out _ _ (.pointer (some ⟨w'.heap.size, 0, none⟩)) (by simp only [fillA, fillT, List.foldl_cons, List.foldl_nil, Act.put, nb4, nb5, nb6, nb1, nb2, nb3]) ⟨_, rfl, hb.size, blk_new _ _ _⟩ (fun _ => rfl) (below1 w' _)
 ·
  refine StepM.of rfl (fun f w' hb hp K hK => ?_)
  have HSB := HS
  replace HS := Lib.hid (HS.out.below hb)
  simp only [fillA, fillT, List.foldl_cons, List.foldl_nil, Act.put, nb4, nb5, nb6]
  go_simp
  exact hK.out _ _ (.pointer (some ⟨w'.heap.size, 0, none⟩)) (by simp only [fillA, fillT, List.foldl_cons, List.foldl_nil, Act.put, nb4, nb5, nb6, nb1, nb2, nb3]) ⟨_, rfl, hb.size, blk_new _ _ _⟩ (fun _ => rfl) (below1 w' _)
 ·
  intro f wr2 hb hp hd
  obtain e3 : f 42 = .agg #[.int .i64 a0, .int .i64 a1] := hp 3 (by decide)
  obtain e7 : f 46 = .agg #[.int .i64 b0, .int .i64 b1] := hp 7 (by decide)
  obtain e11 : f 50 = .agg #[.int .i64 c0, .int .i64 c1] := hp 11 (by decide)
  obtain ⟨Br2_12, e12, g12, k12⟩ : ∃ Br2_12 : Nat, f 19 = .pointer (some ⟨Br2_12, 0, none⟩) ∧ W1.drew.heap.size ≤ Br2_12 ∧ wr2.heap[Br2_12]? = some (.cells #[.int .i64 0, .int .i64 0] 27 (0, 0)) := hp 12 (by decide)
  obtain ⟨Br2_13, e13, g13, k13⟩ : ∃ Br2_13 : Nat, f 20 = .pointer (some ⟨Br2_13, 0, none⟩) ∧ W1.drew.heap.size ≤ Br2_13 ∧ wr2.heap[Br2_13]? = some (.cells #[.int .i64 0, .int .i64 0] 27 (0, 0)) := hp 13 (by decide)
  obtain ⟨Br2_14, e14, g14, k14⟩ : ∃ Br2_14 : Nat, f 21 = .pointer (some ⟨Br2_14, 0, none⟩) ∧ W1.drew.heap.size ≤ Br2_14 ∧ wr2.heap[Br2_14]? = some (.cells #[.int .i64 0, .int .i64 0] 27 (0, 0)) := hp 14 (by decide)
  have hd12_13 : Br2_12 ≠ Br2_13 := fun h => hd 12 13 (by decide) (by decide) (by decide) (by decide) (by decide) (by show f 19 = f 20; rw [e12, e13, h])
  have hd12_14 : Br2_12 ≠ Br2_14 := fun h => hd 12 14 (by decide) (by decide) (by decide) (by decide) (by decide) (by show f 19 = f 21; rw [e12, e14, h])
  have hd13_14 : Br2_13 ≠ Br2_14 := fun h => hd 13 14 (by decide) (by decide) (by decide) (by decide) (by decide) (by show f 20 = f 21; rw [e13, e14, h])
  replace hh := Sx.below hh hb
  have hlt := HS.out.lt
  replace HS := Lib.hid (HS.out.below hb)
  have hge12 : w.heap.size ≤ Br2_12 := Nat.le_trans HSW.out g12
  have hne12 : ∀ b, b ∈ ([(w.heap.size + 3, #[.int .i16 d0, .int .i16 d1], 23), (w.heap.size + 2, #[.int .i16 c0, .int .i16 c1], 23), (w.heap.size + 1, #[.int .i16 b0, .int .i16 b1], 23), (w.heap.size, #[.int .i16 a0, .int .i16 a1], 23)] : List Bx) → b.1 ≠ Br2_12 := by
   intro b hb
   simp only [List.mem_cons, List.not_mem_nil, or_false] at hb
   rcases hb with rfl | rfl | rfl | rfl
   ·
    have := hlt _ (List.mem_iff_getElem?.2 ⟨0, rfl⟩); dsimp only at this ⊢; omega
   ·
    have := hlt _ (List.mem_iff_getElem?.2 ⟨1, rfl⟩); dsimp only at this ⊢; omega
   ·
    have := hlt _ (List.mem_iff_getElem?.2 ⟨2, rfl⟩); dsimp only at this ⊢; omega
   ·
    have := hlt _ (List.mem_iff_getElem?.2 ⟨3, rfl⟩); dsimp only at this ⊢; omega
  replace HS := Lib.hid (HS.out.addBox k12 hge12 (by rfl) hne12)
  have hge13 : w.heap.size ≤ Br2_13 := Nat.le_trans HSW.out g13
  have hne13 : ∀ b, b ∈ ([(Br2_12, #[.int .i64 0, .int .i64 0], 27), (w.heap.size + 3, #[.int .i16 d0, .int .i16 d1], 23), (w.heap.size + 2, #[.int .i16 c0, .int .i16 c1], 23), (w.heap.size + 1, #[.int .i16 b0, .int .i16 b1], 23), (w.heap.size, #[.int .i16 a0, .int .i16 a1], 23)] : List Bx) → b.1 ≠ Br2_13 := by
   intro b hb
   simp only [List.mem_cons, List.not_mem_nil, or_false] at hb
   rcases hb with rfl | rfl | rfl | rfl | rfl
   ·
    exact hd12_13
   ·
    have := hlt _ (List.mem_iff_getElem?.2 ⟨0, rfl⟩); dsimp only at this ⊢; omega
   ·
    have := hlt _ (List.mem_iff_getElem?.2 ⟨1, rfl⟩); dsimp only at this ⊢; omega
   ·
    have := hlt _ (List.mem_iff_getElem?.2 ⟨2, rfl⟩); dsimp only at this ⊢; omega
   ·
    have := hlt _ (List.mem_iff_getElem?.2 ⟨3, rfl⟩); dsimp only at this ⊢; omega
  replace HS := Lib.hid (HS.out.addBox k13 hge13 (by rfl) hne13)
  have hge14 : w.heap.size ≤ Br2_14 := Nat.le_trans HSW.out g14
  have hne14 : ∀ b, b ∈ ([(Br2_13, #[.int .i64 0, .int .i64 0], 27), (Br2_12, #[.int .i64 0, .int .i64 0], 27), (w.heap.size + 3, #[.int .i16 d0, .int .i16 d1], 23), (w.heap.size + 2, #[.int .i16 c0, .int .i16 c1], 23), (w.heap.size + 1, #[.int .i16 b0, .int .i16 b1], 23), (w.heap.size, #[.int .i16 a0, .int .i16 a1], 23)] : List Bx) → b.1 ≠ Br2_14 := by
   intro b hb
   simp only [List.mem_cons, List.not_mem_nil, or_false] at hb
   rcases hb with rfl | rfl | rfl | rfl | rfl | rfl
   ·
    exact hd13_14
   ·
    exact hd12_14
   ·
    have := hlt _ (List.mem_iff_getElem?.2 ⟨0, rfl⟩); dsimp only at this ⊢; omega
   ·
    have := hlt _ (List.mem_iff_getElem?.2 ⟨1, rfl⟩); dsimp only at this ⊢; omega
   ·
    have := hlt _ (List.mem_iff_getElem?.2 ⟨2, rfl⟩); dsimp only at this ⊢; omega
   ·
    have := hlt _ (List.mem_iff_getElem?.2 ⟨3, rfl⟩); dsimp only at this ⊢; omega
  replace HS := Lib.hid (HS.out.addBox k14 hge14 (by rfl) hne14)
  simp only [fillA, fillT, List.foldl_cons, List.foldl_nil, Act.put, nb4, nb5, nb6, e3, e7, e11, e12, e13, e14]
  clear hp hd hb hlt e3 e7 e11 e12 e13 e14
  refine rdA (i := 15) rfl (fun K hK => ?_)
  have b4e := (HS.out.at 2 _ _ _ rfl)
  have b4c0 := blk_cell b4e 0 (.int .i64 0) rfl
  have b4c1 := blk_cell b4e 1 (.int .i64 0) rfl
  have b4f0 := blk_frozen b4e 0
  have b4f1 := blk_frozen b4e 1
  have b4l := blk_lt b4e
  clear b4e
  go_simp
  refine hK.out _ _ ((((((((HS.out).st_II 2 0 0 a0 a1 rfl)).erase 2)).erase 1)).erase 0) (fun hh => ?_)
  clear hK K b4c0 b4c1 b4f0 b4f1 b4l
  try simp only [nbs, Act.put]
  generalize hW15 : ((wr2).setCell _ _).setCell _ _ = W15 at *
  replace HS := Lib.hid (((HS.out).st_II 2 0 0 a0 a1 rfl).to hW15 (by (try simp only [nb5, nb6]); rfl))
  clear hW15
  refine rdA (i := 16) rfl (fun K hK => ?_)
  have b5e := (HS.out.at 1 _ _ _ rfl)
  have b5c0 := blk_cell b5e 0 (.int .i64 0) rfl
  have b5c1 := blk_cell b5e 1 (.int .i64 0) rfl
  have b5f0 := blk_frozen b5e 0
  have b5f1 := blk_frozen b5e 1
  have b5l := blk_lt b5e
  clear b5e
  go_simp
  refine hK.out _ _ ((((((((HS.out).st_II 1 0 0 b0 b1 rfl)).erase 2)).erase 1)).erase 0) (fun hh => ?_)
  clear hK K b5c0 b5c1 b5f0 b5f1 b5l
  try simp only [nbs, Act.put]
  generalize hW16 : ((W15).setCell _ _).setCell _ _ = W16 at *
  replace HS := Lib.hid (((HS.out).st_II 1 0 0 b0 b1 rfl).to hW16 (by (try simp only [nb5, nb6]); rfl))
  clear hW16
  refine rdA (i := 17) rfl (fun K hK => ?_)
  have b6e := (HS.out.at 0 _ _ _ rfl)
  have b6c0 := blk_cell b6e 0 (.int .i64 0) rfl
  have b6c1 := blk_cell b6e 1 (.int .i64 0) rfl
  have b6f0 := blk_frozen b6e 0
  have b6f1 := blk_frozen b6e 1
  have b6l := blk_lt b6e
  clear b6e
  go_simp
  refine hK.out _ _ ((((((((HS.out).st_II 0 0 0 c0 c1 rfl)).erase 2)).erase 1)).erase 0) (fun hh => ?_)
  clear hK K b6c0 b6c1 b6f0 b6f1 b6l
  try simp only [nbs, Act.put]
  generalize hW17 : ((W16).setCell _ _).setCell _ _ = W17 at *
  replace HS := Lib.hid (((HS.out).st_II 0 0 0 c0 c1 rfl).to hW17 (by (try simp only [nb5, nb6]); rfl))
  clear hW17
  refine wpAnyH_done (by kernel_rfl) ?_ _
  have b4e := (HS.out.at 2 _ _ _ rfl)
  have b4c0 := blk_cell b4e 0 (.int .i64 a0) rfl
  have b4c1 := blk_cell b4e 1 (.int .i64 a1) rfl
  have b4f0 := blk_frozen b4e 0
  have b4f1 := blk_frozen b4e 1
  have b4l := blk_lt b4e
  clear b4e
  have b5e := (HS.out.at 1 _ _ _ rfl)
  have b5c0 := blk_cell b5e 0 (.int .i64 b0) rfl
  have b5c1 := blk_cell b5e 1 (.int .i64 b1) rfl
  have b5f0 := blk_frozen b5e 0
  have b5f1 := blk_frozen b5e 1
  have b5l := blk_lt b5e
  clear b5e
  have b6e := (HS.out.at 0 _ _ _ rfl)
  have b6c0 := blk_cell b6e 0 (.int .i64 c0) rfl
  have b6c1 := blk_cell b6e 1 (.int .i64 c1) rfl
  have b6f0 := blk_frozen b6e 0
  have b6f1 := blk_frozen b6e 1
  have b6l := blk_lt b6e
  clear b6e
  have bn4_5 := HS.out.ne 2 1 rfl rfl (by decide)
  have bn4_6 := HS.out.ne 2 0 rfl rfl (by decide)
  have bn5_6 := HS.out.ne 1 0 rfl rfl (by decide)
  go_wp2_with fail
  clear b4c0 b4c1 b4f0 b4f1 b4l b5c0 b5c1 b5f0 b5f1 b5l b6c0 b6c1 b6f0 b6f1 b6l bn4_5 bn4_6 bn5_6
  refine (HR1.out _).mono ?_
  rintro e w18 ⟨v18, rfl, hv18, hb18⟩
  obtain ⟨z18, rfl⟩ := hv18.open3
  replace HS := Lib.hid (HS.out.below hb18)
  clear hb18
  replace HS := Lib.hid (HS.out.addP hv18)
  clear hv18
  have b6e := (HS.out.at 0 _ _ _ rfl)
  have b6c0 := blk_cell b6e 0 (.int .i64 c0) rfl
  have b6c1 := blk_cell b6e 1 (.int .i64 c1) rfl
  have b6f0 := blk_frozen b6e 0
  have b6f1 := blk_frozen b6e 1
  have b6l := blk_lt b6e
  clear b6e
  have b4e := (HS.out.at 2 _ _ _ rfl)
  have b4c0 := blk_cell b4e 0 (.int .i64 a0) rfl
  have b4c1 := blk_cell b4e 1 (.int .i64 a1) rfl
  have b4f0 := blk_frozen b4e 0
  have b4f1 := blk_frozen b4e 1
  have b4l := blk_lt b4e
  clear b4e
  have b5e := (HS.out.at 1 _ _ _ rfl)
  have b5c0 := blk_cell b5e 0 (.int .i64 b0) rfl
  have b5c1 := blk_cell b5e 1 (.int .i64 b1) rfl
  have b5f0 := blk_frozen b5e 0
  have b5f1 := blk_frozen b5e 1
  have b5l := blk_lt b5e
  clear b5e
  have bn6_4 := HS.out.ne 0 2 rfl rfl (by decide)
  have bn6_5 := HS.out.ne 0 1 rfl rfl (by decide)
  have bn4_5 := HS.out.ne 2 1 rfl rfl (by decide)
  go_wp2_with fail
  clear b6c0 b6c1 b6f0 b6f1 b6l b4c0 b4c1 b4f0 b4f1 b4l b5c0 b5c1 b5f0 b5f1 b5l bn6_4 bn6_5 bn4_5
  generalize hW19 : (w18).alloc (.cells _ _) = W19 at *
  replace HS := Lib.hid (((HS.out).alloc (B := w18.heap.size) rfl (by rfl)).to hW19 (by (try simp only [nb5, nb6]); rfl))
  clear hW19
  refine (HR2.out _).mono ?_
  rintro e w20 ⟨v20, rfl, hv20, hb20⟩
  obtain ⟨z20, rfl⟩ := hv20.open3
  replace HS := Lib.hid (HS.out.below hb20)
  clear hb20
  replace HS := Lib.hid (HS.out.addP hv20)
  clear hv20
  have b5e := (HS.out.at 2 _ _ _ rfl)
  have b5c0 := blk_cell b5e 0 (.int .i64 b0) rfl
  have b5c1 := blk_cell b5e 1 (.int .i64 b1) rfl
  have b5f0 := blk_frozen b5e 0
  have b5f1 := blk_frozen b5e 1
  have b5l := blk_lt b5e
  clear b5e
  have b4e := (HS.out.at 3 _ _ _ rfl)
  have b4c0 := blk_cell b4e 0 (.int .i64 a0) rfl
  have b4c1 := blk_cell b4e 1 (.int .i64 a1) rfl
  have b4f0 := blk_frozen b4e 0
  have b4f1 := blk_frozen b4e 1
  have b4l := blk_lt b4e
  clear b4e
  have b6e := (HS.out.at 1 _ _ _ rfl)
  have b6c0 := blk_cell b6e 0 (.int .i64 c0) rfl
  have b6c1 := blk_cell b6e 1 (.int .i64 c1) rfl
  have b6f0 := blk_frozen b6e 0
  have b6f1 := blk_frozen b6e 1
  have b6l := blk_lt b6e
  clear b6e
  have bn5_4 := HS.out.ne 2 3 rfl rfl (by decide)
  have bn5_6 := HS.out.ne 2 1 rfl rfl (by decide)
  have bn4_6 := HS.out.ne 3 1 rfl rfl (by decide)
  go_wp2_with fail
  clear b5c0 b5c1 b5f0 b5f1 b5l b4c0 b4c1 b4f0 b4f1 b4l b6c0 b6c1 b6f0 b6f1 b6l bn5_4 bn5_6 bn4_6
  generalize hW21 : (w20).alloc (.cells _ _) = W21 at *
  replace HS := Lib.hid (((HS.out).alloc (B := w20.heap.size) rfl (by rfl)).to hW21 (by (try simp only [nb5, nb6]); rfl))
  clear hW21
  refine (HR3.out _).mono ?_
  rintro e w22 ⟨v22, rfl, hv22, hb22⟩
  obtain ⟨z22, rfl⟩ := hv22.open3
  replace HS := Lib.hid (HS.out.below hb22)
  clear hb22
  replace HS := Lib.hid (HS.out.addP hv22)
  clear hv22
  go_wp2_with fail
  generalize hW23 : (w22).alloc (.cells _ _) = W23 at *
  replace HS := Lib.hid (((HS.out).alloc (B := w22.heap.size) rfl (by rfl)).to hW23 (by (try simp only [nb5, nb6]); rfl))
  clear hW23
  refine wp_region_held_drew (S := (fun w' => Sx w w' [(w22.heap.size, z22.arr, 32), (w20.heap.size, z20.arr, 32), (w18.heap.size, z18.arr, 32), (Br2_14, #[.int .i64 c0, .int .i64 c1], 27), (Br2_13, #[.int .i64 b0, .int .i64 b1], 27), (Br2_12, #[.int .i64 a0, .int .i64 a1], 27), (w.heap.size + 3, #[.int .i16 d0, .int .i16 d1], 23), (w.heap.size + 2, #[.int .i16 c0, .int .i16 c1], 23), (w.heap.size + 1, #[.int .i16 b0, .int .i16 b1], 23), (w.heap.size, #[.int .i16 a0, .int .i16 a1], 23)] [])) (by kernel_rfl) ((HS.out.drew).bare) (fun hh => ?_)
  replace HS := Lib.hid HS.out.drew
  have HSW := Lib.hid HS.out.bel.size
  refine tkB (i := 0) (v := ?vk25) rfl ?hk25 ?rk25
  case hk25 => intro u hSu; go_simp <;> with_reducible rfl
  try simp only [nbs, Act.put]
  refine tkB (i := 1) (v := ?vk26) rfl ?hk26 ?rk26
  case hk26 => intro u hSu; (try dsimp only at hSu); have qb0e := (hSu.at 9 _ _ _ rfl); have qb0c0 := blk_cell qb0e 0 (.int .i16 a0) rfl; have qb0c1 := blk_cell qb0e 1 (.int .i16 a1) rfl; clear qb0e; clear hSu; go_simp <;> with_reducible rfl
  try simp only [nbs, Act.put]
  refine tkB (i := 2) (v := ?vk27) rfl ?hk27 ?rk27
  case hk27 => intro u hSu; go_simp <;> with_reducible rfl
  try simp only [nbs, Act.put]
  refine tkB (i := 3) (v := ?vk28) rfl ?hk28 ?rk28
  case hk28 => intro u hSu; (try dsimp only at hSu); have qb3e := (hSu.at 6 _ _ _ rfl); have qb3c0 := blk_cell qb3e 0 (.int .i16 d0) rfl; have qb3c1 := blk_cell qb3e 1 (.int .i16 d1) rfl; clear qb3e; clear hSu; go_simp <;> with_reducible rfl
  try simp only [nbs, Act.put]
  refine tkB (i := 5) (v := ?vk29) rfl ?hk29 ?rk29
  case hk29 => intro u hSu; go_simp <;> with_reducible rfl
  try simp only [nbs, Act.put]
  refine tkB (i := 6) (v := ?vk30) rfl ?hk30 ?rk30
  case hk30 => intro u hSu; (try dsimp only at hSu); have qb1e := (hSu.at 8 _ _ _ rfl); have qb1c0 := blk_cell qb1e 0 (.int .i16 b0) rfl; have qb1c1 := blk_cell qb1e 1 (.int .i16 b1) rfl; clear qb1e; clear hSu; go_simp <;> with_reducible rfl
  try simp only [nbs, Act.put]
  refine tkB (i := 7) (v := ?vk31) rfl ?hk31 ?rk31
  case hk31 => intro u hSu; go_simp <;> with_reducible rfl
  try simp only [nbs, Act.put]
  refine tkB (i := 8) (v := ?vk32) rfl ?hk32 ?rk32
  case hk32 => intro u hSu; (try dsimp only at hSu); have qb3e := (hSu.at 6 _ _ _ rfl); have qb3c0 := blk_cell qb3e 0 (.int .i16 d0) rfl; have qb3c1 := blk_cell qb3e 1 (.int .i16 d1) rfl; clear qb3e; clear hSu; go_simp <;> with_reducible rfl
  try simp only [nbs, Act.put]
  refine tkB (i := 10) (v := ?vk33) rfl ?hk33 ?rk33
  case hk33 => intro u hSu; go_simp <;> with_reducible rfl
  try simp only [nbs, Act.put]
  refine tkB (i := 11) (v := ?vk34) rfl ?hk34 ?rk34
  case hk34 => intro u hSu; (try dsimp only at hSu); have qb2e := (hSu.at 7 _ _ _ rfl); have qb2c0 := blk_cell qb2e 0 (.int .i16 c0) rfl; have qb2c1 := blk_cell qb2e 1 (.int .i16 c1) rfl; clear qb2e; clear hSu; go_simp <;> with_reducible rfl
  try simp only [nbs, Act.put]
  refine tkB (i := 12) (v := ?vk35) rfl ?hk35 ?rk35
  case hk35 => intro u hSu; go_simp <;> with_reducible rfl
  try simp only [nbs, Act.put]
  refine tkB (i := 13) (v := ?vk36) rfl ?hk36 ?rk36
  case hk36 => intro u hSu; (try dsimp only at hSu); have qb3e := (hSu.at 6 _ _ _ rfl); have qb3c0 := blk_cell qb3e 0 (.int .i16 d0) rfl; have qb3c1 := blk_cell qb3e 1 (.int .i16 d1) rfl; clear qb3e; clear hSu; go_simp <;> with_reducible rfl
  try simp only [nbs, Act.put]
  refine wpAnyH_modular [4, 9, 14, 15, 16, 17, 18, 19] [4, 9, 14, 15, 19] [16, 17, 18] [77, 82, 87, 88, 72, 89, 90, 28] #[true, true, true, true, true, true, true, true, true, true, true, true, true, true, true, true, true, true, true, true, false, false] 2 [(4, 77), (9, 82), (14, 87), (15, 88), (16, 72), (17, 89), (18, 90), (19, 28)] [(4, []), (9, [4]), (14, [9]), (15, [4, 9, 14]), (16, [15]), (17, [16]), (18, [16]), (19, [])] [19] [(4, fun v w => v = .agg #[.int .i64 sa0, .int .i64 sa1]), (9, fun v w => v = .agg #[.int .i64 sb0, .int .i64 sb1]), (14, fun v w => v = .agg #[.int .i64 sc0, .int .i64 sc1]), (15, fun v w => ∃ z40 : R3, v = .tuple #[z40.val, .int .i64 er] ∧ Fr true w z40.val (qr * qk)), (16, fun v w => ∃ z40q16 : R3, v = .tuple #[z40q16.val, .int .i64 er] ∧ Fr true w z40q16.val (qr * qk)), (17, fun v w => ∃ z40q16q17 : R3, v = z40q16q17.val ∧ Fr true w z40q16q17.val (qr * qk)), (18, fun v w => v = .int .i64 er), (19, fun v w => ∃ Br24_19 : Nat, v = .pointer (some ⟨Br24_19, 0, none⟩) ∧ W23.drew.heap.size ≤ Br24_19 ∧ w.heap[Br24_19]? = some (.cells #[.bool false, .slice none 0 0, .slice none 0 0] 32 (0, 0)))]
   rfl (by kernel_rfl) (by decide) rfl ⟨(fun v w w' hb e => e), ⟨(fun v w w' hb e => e), ⟨(fun v w w' hb e => e), ⟨(fun v w w' hb ⟨z0, e, h0⟩ => ⟨z0, e, Fr.below h0 hb⟩), ⟨(fun v w w' hb ⟨z0, e, h0⟩ => ⟨z0, e, Fr.below h0 hb⟩), ⟨(fun v w w' hb ⟨z0, e, h0⟩ => ⟨z0, e, Fr.below h0 hb⟩), ⟨(fun v w w' hb e => e), ⟨(fun v w w' hb ⟨B, e, g, k⟩ => ⟨B, e, g, blk_keep k hb (blk_lt k)⟩), trivial⟩⟩⟩⟩⟩⟩⟩⟩ ⟨fun v w ⟨B, e, g, k⟩ => ⟨B, e, blk_lt k⟩, trivial⟩ (fun w' hb => Sx.below hh hb) ⟨?_, ?_, ?_, ?_, ?_, trivial⟩ ⟨?_, ?_, ?_, trivial⟩ (by decide) ?_
  ·
   refine StepM.of rfl (fun f w' hb hp K hK => ?_)
   have HSB := HS
   replace HS := Lib.hid (HS.out.below hb)
   simp only [fillA, fillT, List.foldl_cons, List.foldl_nil, Act.put, nb4, nb5, nb6]
   go_simp
   go_wp2_with (go_at_call 4; (with_reducible refine (HPak.out _).mono ?_); rintro e w37 ⟨rfl, hb37⟩)
   exact hK.out _ _ (.agg #[.int .i64 sa0, .int .i64 sa1]) (by simp only [fillA, fillT, List.foldl_cons, List.foldl_nil, Act.put, nb4, nb5, nb6, nb1, nb2, nb3]) rfl (fun h => absurd h (by decide)) hb37
  ·
   refine StepM.of rfl (fun f w' hb hp K hK => ?_)
   have HSB := HS
   replace HS := Lib.hid (HS.out.below hb)
   simp only [fillA, fillT, List.foldl_cons, List.foldl_nil, Act.put, nb4, nb5, nb6]
   go_simp
   go_wp2_with (go_at_call 4; (with_reducible refine (HPbk.out _).mono ?_); rintro e w38 ⟨rfl, hb38⟩)
   exact hK.out _ _ (.agg #[.int .i64 sb0, .int .i64 sb1]) (by simp only [fillA, fillT, List.foldl_cons, List.foldl_nil, Act.put, nb4, nb5, nb6, nb1, nb2, nb3]) rfl (fun h => absurd h (by decide)) hb38
  ·
   refine StepM.of rfl (fun f w' hb hp K hK => ?_)
   have HSB := HS
   replace HS := Lib.hid (HS.out.below hb)
   simp only [fillA, fillT, List.foldl_cons, List.foldl_nil, Act.put, nb4, nb5, nb6]
   go_simp
   go_wp2_with (go_at_call 4; (with_reducible refine (HPck.out _).mono ?_); rintro e w39 ⟨rfl, hb39⟩)
   exact hK.out _ _ (.agg #[.int .i64 sc0, .int .i64 sc1]) (by simp only [fillA, fillT, List.foldl_cons, List.foldl_nil, Act.put, nb4, nb5, nb6, nb1, nb2, nb3]) rfl (fun h => absurd h (by decide)) hb39
  ·
   refine StepM.of rfl (fun f w' hb hp K hK => ?_)
   obtain e4 : f 77 = .agg #[.int .i64 sa0, .int .i64 sa1] := hp 4 (by decide)
   obtain e9 : f 82 = .agg #[.int .i64 sb0, .int .i64 sb1] := hp 9 (by decide)
   obtain e14 : f 87 = .agg #[.int .i64 sc0, .int .i64 sc1] := hp 14 (by decide)
   have HSB := HS
   replace HS := Lib.hid (HS.out.below hb)
   simp only [fillA, fillT, List.foldl_cons, List.foldl_nil, Act.put, nb4, nb5, nb6, e4, e9, e14]
   go_simp
   go_wp2_with (go_at_call 5; (with_reducible refine (HR4.out _).mono ?_); rintro e w40 ⟨v40, rfl, hv40, hb40⟩; obtain ⟨z40, rfl⟩ := hv40.open3)
   exact hK.out _ _ (.tuple #[z40.val, .int .i64 er]) (by simp only [fillA, fillT, List.foldl_cons, List.foldl_nil, Act.put, nb4, nb5, nb6, nb1, nb2, nb3, e4, e9, e14]) ⟨z40, rfl, hv40⟩ (fun h => absurd h (by decide)) hb40
  ·
   refine StepM.of rfl (fun f w' hb hp K hK => ?_)
   have HSB := HS
   replace HS := Lib.hid (HS.out.below hb)
   simp only [fillA, fillT, List.foldl_cons, List.foldl_nil, Act.put, nb4, nb5, nb6]
   go_simp
   exact hK.out _ _ (.pointer (some ⟨w'.heap.size, 0, none⟩)) (by simp only [fillA, fillT, List.foldl_cons, List.foldl_nil, Act.put, nb4, nb5, nb6, nb1, nb2, nb3]) ⟨_, rfl, hb.size, blk_new _ _ _⟩ (fun _ => rfl) (below1 w' _)
  ·
   refine EagerM.of rfl (fun f w' hb hp => ?_)
   obtain ⟨z40, e15, h15_0⟩ : ∃ z40 : R3, f 88 = .tuple #[z40.val, .int .i64 er] ∧ Fr true w' z40.val (qr * qk) := hp 15 (by decide)
   refine ⟨.tuple #[z40.val, .int .i64 er], ⟨z40, rfl, h15_0⟩, by first | rfl | kernel_rfl, fun u => ?_⟩
   simp only [fillA, fillT, List.foldl_cons, List.foldl_nil, Act.put, nb4, nb5, nb6, e15]
   go_simp <;> with_reducible rfl
  ·
   refine EagerM.of rfl (fun f w' hb hp => ?_)
   obtain ⟨z40q16, e16, h16_0⟩ : ∃ z40q16 : R3, f 72 = .tuple #[z40q16.val, .int .i64 er] ∧ Fr true w' z40q16.val (qr * qk) := hp 16 (by decide)
   refine ⟨z40q16.val, ⟨z40q16, rfl, h16_0⟩, by first | rfl | kernel_rfl, fun u => ?_⟩
   simp only [fillA, fillT, List.foldl_cons, List.foldl_nil, Act.put, nb4, nb5, nb6, e16]
   go_simp <;> with_reducible rfl
  ·
   refine EagerM.of rfl (fun f w' hb hp => ?_)
   obtain ⟨z40q16, e16, h16_0⟩ : ∃ z40q16 : R3, f 72 = .tuple #[z40q16.val, .int .i64 er] ∧ Fr true w' z40q16.val (qr * qk) := hp 16 (by decide)
   refine ⟨.int .i64 er, rfl, by first | rfl | kernel_rfl, fun u => ?_⟩
   simp only [fillA, fillT, List.foldl_cons, List.foldl_nil, Act.put, nb4, nb5, nb6, e16]
   go_simp <;> with_reducible rfl
  ·
   intro f wr24 hb hp hd
   obtain e4 : f 77 = .agg #[.int .i64 sa0, .int .i64 sa1] := hp 4 (by decide)
   obtain e9 : f 82 = .agg #[.int .i64 sb0, .int .i64 sb1] := hp 9 (by decide)
   obtain e14 : f 87 = .agg #[.int .i64 sc0, .int .i64 sc1] := hp 14 (by decide)
   obtain ⟨z40, e15, h15_0⟩ : ∃ z40 : R3, f 88 = .tuple #[z40.val, .int .i64 er] ∧ Fr true wr24 z40.val (qr * qk) := hp 15 (by decide)
   obtain ⟨z40q16, e16, h16_0⟩ : ∃ z40q16 : R3, f 72 = .tuple #[z40q16.val, .int .i64 er] ∧ Fr true wr24 z40q16.val (qr * qk) := hp 16 (by decide)
   obtain ⟨z40q16q17, e17, h17_0⟩ : ∃ z40q16q17 : R3, f 89 = z40q16q17.val ∧ Fr true wr24 z40q16q17.val (qr * qk) := hp 17 (by decide)
   obtain e18 : f 90 = .int .i64 er := hp 18 (by decide)
   obtain ⟨Br24_19, e19, g19, k19⟩ : ∃ Br24_19 : Nat, f 28 = .pointer (some ⟨Br24_19, 0, none⟩) ∧ W23.drew.heap.size ≤ Br24_19 ∧ wr24.heap[Br24_19]? = some (.cells #[.bool false, .slice none 0 0, .slice none 0 0] 32 (0, 0)) := hp 19 (by decide)
   replace hh := Sx.below hh hb
   have hlt := HS.out.lt
   replace HS := Lib.hid (HS.out.below hb)
   replace HS := Lib.hid (HS.out.addP h15_0)
   replace HS := Lib.hid (HS.out.addP h16_0)
   replace HS := Lib.hid (HS.out.addP h17_0)
   have hge19 : w.heap.size ≤ Br24_19 := Nat.le_trans HSW.out g19
   have hne19 : ∀ b, b ∈ ([(w22.heap.size, z22.arr, 32), (w20.heap.size, z20.arr, 32), (w18.heap.size, z18.arr, 32), (Br2_14, #[.int .i64 c0, .int .i64 c1], 27), (Br2_13, #[.int .i64 b0, .int .i64 b1], 27), (Br2_12, #[.int .i64 a0, .int .i64 a1], 27), (w.heap.size + 3, #[.int .i16 d0, .int .i16 d1], 23), (w.heap.size + 2, #[.int .i16 c0, .int .i16 c1], 23), (w.heap.size + 1, #[.int .i16 b0, .int .i16 b1], 23), (w.heap.size, #[.int .i16 a0, .int .i16 a1], 23)] : List Bx) → b.1 ≠ Br24_19 := by
    intro b hb
    simp only [List.mem_cons, List.not_mem_nil, or_false] at hb
    rcases hb with rfl | rfl | rfl | rfl | rfl | rfl | rfl | rfl | rfl | rfl
    ·
     have := hlt _ (List.mem_iff_getElem?.2 ⟨0, rfl⟩); dsimp only at this ⊢; omega
    ·
     have := hlt _ (List.mem_iff_getElem?.2 ⟨1, rfl⟩); dsimp only at this ⊢; omega
    ·
     have := hlt _ (List.mem_iff_getElem?.2 ⟨2, rfl⟩); dsimp only at this ⊢; omega
    ·
     have := hlt _ (List.mem_iff_getElem?.2 ⟨3, rfl⟩); dsimp only at this ⊢; omega
    ·
     have := hlt _ (List.mem_iff_getElem?.2 ⟨4, rfl⟩); dsimp only at this ⊢; omega
    ·
     have := hlt _ (List.mem_iff_getElem?.2 ⟨5, rfl⟩); dsimp only at this ⊢; omega
    ·
     have := hlt _ (List.mem_iff_getElem?.2 ⟨6, rfl⟩); dsimp only at this ⊢; omega
    ·
     have := hlt _ (List.mem_iff_getElem?.2 ⟨7, rfl⟩); dsimp only at this ⊢; omega
    ·
     have := hlt _ (List.mem_iff_getElem?.2 ⟨8, rfl⟩); dsimp only at this ⊢; omega
    ·
     have := hlt _ (List.mem_iff_getElem?.2 ⟨9, rfl⟩); dsimp only at this ⊢; omega
   replace HS := Lib.hid (HS.out.addBox k19 hge19 (by rfl) hne19)
   simp only [fillA, fillT, List.foldl_cons, List.foldl_nil, Act.put, nb4, nb5, nb6, e4, e9, e14, e15, e16, e17, e18, e19]
   clear hp hd hb hlt e4 e9 e14 e15 e16 e17 e18 e19
   refine rdA (i := 20) rfl (fun K hK => ?_)
   have b10e := (HS.out.at 0 _ _ _ rfl)
   have b10c0 := blk_cell b10e 0 (.bool false) rfl
   have b10c1 := blk_cell b10e 1 (.slice none 0 0) rfl
   have b10c2 := blk_cell b10e 2 (.slice none 0 0) rfl
   have b10f0 := blk_frozen b10e 0
   have b10f1 := blk_frozen b10e 1
   have b10f2 := blk_frozen b10e 2
   have b10l := blk_lt b10e
   clear b10e
   go_simp
   refine hK.out _ _ ((((HS.out).st_R 0 r30 z40q16q17 rfl)).erase 0) (fun hh => ?_)
   clear hK K b10c0 b10c1 b10c2 b10f0 b10f1 b10f2 b10l
   try simp only [nbs, Act.put]
   generalize hW41 : (((wr24).setCell _ _).setCell _ _).setCell _ _ = W41 at *
   replace HS := Lib.hid (((HS.out).st_R 0 r30 z40q16q17 rfl).to hW41 (by (try simp only [nb5, nb6]); rfl))
   clear hW41
   refine tkB (i := 21) (v := ?vk42) rfl ?hk42 ?rk42
   case hk42 => intro u hSu; go_simp <;> with_reducible rfl
   try simp only [nbs, Act.put]
   refine wpAnyH_done (by kernel_rfl) ?_ _
   go_wp2_with fail
   refine wp_region_held_drew (S := (fun w' => Sx w w' [(Br24_19, z40q16q17.arr, 32), (w22.heap.size, z22.arr, 32), (w20.heap.size, z20.arr, 32), (w18.heap.size, z18.arr, 32), (Br2_14, #[.int .i64 c0, .int .i64 c1], 27), (Br2_13, #[.int .i64 b0, .int .i64 b1], 27), (Br2_12, #[.int .i64 a0, .int .i64 a1], 27), (w.heap.size + 3, #[.int .i16 d0, .int .i16 d1], 23), (w.heap.size + 2, #[.int .i16 c0, .int .i16 c1], 23), (w.heap.size + 1, #[.int .i16 b0, .int .i16 b1], 23), (w.heap.size, #[.int .i16 a0, .int .i16 a1], 23)] [])) (by kernel_rfl) ((HS.out.drew).bare) (fun hh => ?_)
   replace HS := Lib.hid HS.out.drew
   refine rdA (i := 0) rfl (fun K hK => ?_)
   go_simp
   go_wp2_with (go_at_call 6; (with_reducible refine (awake03_any _).mono ?_); rintro e w44 ⟨rfl, hb44⟩)
   refine hK.out _ _ (Sx.below hh hb44) (fun hh => ?_)
   clear hK K
   try simp only [nbs, Act.put]
   replace HS := Lib.hid (HS.out.below hb44)
   clear hb44
   refine tkB (i := 1) (v := ?vk45) rfl ?hk45 ?rk45
   case hk45 => intro u hSu; go_simp <;> with_reducible rfl
   try simp only [nbs, Act.put]
   refine tkB (i := 2) (v := ?vk46) rfl ?hk46 ?rk46
   case hk46 => intro u hSu; go_simp <;> with_reducible rfl
   try simp only [nbs, Act.put]
   refine tkB (i := 3) (v := ?vk47) rfl ?hk47 ?rk47
   case hk47 => intro u hSu; go_simp <;> with_reducible rfl
   try simp only [nbs, Act.put]
   refine tkB (i := 4) (v := ?vk48) rfl ?hk48 ?rk48
   case hk48 => intro u hSu; go_simp <;> with_reducible rfl
   try simp only [nbs, Act.put]
   refine tkB (i := 5) (v := ?vk49) rfl ?hk49 ?rk49
   case hk49 => intro u hSu; go_simp <;> with_reducible rfl
   try simp only [nbs, Act.put]
   refine tkB (i := 6) (v := ?vk50) rfl ?hk50 ?rk50
   case hk50 => intro u hSu; go_simp <;> with_reducible rfl
   try simp only [nbs, Act.put]
   refine tkB (i := 7) (v := ?vk51) rfl ?hk51 ?rk51
   case hk51 => intro u hSu; go_simp <;> with_reducible rfl
   try simp only [nbs, Act.put]
   refine tkB (i := 8) (v := ?vk52) rfl ?hk52 ?rk52
   case hk52 => intro u hSu; go_simp <;> with_reducible rfl
   try simp only [nbs, Act.put]
   refine tkB (i := 9) (v := ?vk53) rfl ?hk53 ?rk53
   case hk53 => intro u hSu; go_simp <;> with_reducible rfl
   try simp only [nbs, Act.put]
   refine tkB (i := 10) (v := ?vk54) rfl ?hk54 ?rk54
   case hk54 => intro u hSu; go_simp <;> with_reducible rfl
   try simp only [nbs, Act.put]
   refine tkB (i := 11) (v := ?vk55) rfl ?hk55 ?rk55
   case hk55 => intro u hSu; go_simp <;> with_reducible rfl
   try simp only [nbs, Act.put]
   refine tkB (i := 12) (v := ?vk56) rfl ?hk56 ?rk56
   case hk56 => intro u hSu; go_simp <;> with_reducible rfl
   try simp only [nbs, Act.put]
   refine tkB (i := 13) (v := ?vk57) rfl ?hk57 ?rk57
   case hk57 => intro u hSu; go_simp <;> with_reducible rfl
   try simp only [nbs, Act.put]
   refine tkB (i := 14) (v := ?vk58) rfl ?hk58 ?rk58
   case hk58 => intro u hSu; go_simp <;> with_reducible rfl
   try simp only [nbs, Act.put]
   refine tkB (i := 15) (v := ?vk59) rfl ?hk59 ?rk59
   case hk59 => intro u hSu; go_simp <;> with_reducible rfl
   try simp only [nbs, Act.put]
   refine tkB (i := 16) (v := ?vk60) rfl ?hk60 ?rk60
   case hk60 => intro u hSu; go_simp <;> with_reducible rfl
   try simp only [nbs, Act.put]
   refine tkB (i := 17) (v := ?vk61) rfl ?hk61 ?rk61
   case hk61 => intro u hSu; go_simp <;> with_reducible rfl
   try simp only [nbs, Act.put]
   refine tkB (i := 18) (v := ?vk62) rfl ?hk62 ?rk62
   case hk62 => intro u hSu; (try dsimp only at hSu); obtain ⟨qb7c0, qb7c1, qb7c2, _⟩ := fac3 (x := z18) (hSu.at 3 _ _ _ rfl); clear hSu; go_simp <;> with_reducible rfl
   try simp only [nbs, Act.put]
   refine tkB (i := 19) (v := ?vk63) rfl ?hk63 ?rk63
   case hk63 => intro u hSu; (try dsimp only at hSu); obtain ⟨qb8c0, qb8c1, qb8c2, _⟩ := fac3 (x := z20) (hSu.at 2 _ _ _ rfl); clear hSu; go_simp <;> with_reducible rfl
   try simp only [nbs, Act.put]
   refine rdA (i := 20) rfl (fun K hK => ?_)
   go_simp
   have a65 := HS.out.p 5 _ _ rfl
   have a66 := HS.out.p 4 _ _ rfl
   go_wp2_with (go_at_call 7; (with_reducible refine (same_any qr qr _ _ _ a65 a66).mono ?_); rw [decide_eq_true rfl]; rintro e w64 ⟨rfl, hb64⟩)
   refine hK.out _ _ (Sx.below hh hb64) (fun hh => ?_)
   clear hK K
   try simp only [nbs, Act.put]
   replace HS := Lib.hid (HS.out.below hb64)
   clear hb64 a65 a66
   refine tkB (i := 21) (v := ?vk67) rfl ?hk67 ?rk67
   case hk67 => intro u hSu; go_simp <;> with_reducible rfl
   try simp only [nbs, Act.put]
   refine tkB (i := 22) (v := ?vk68) rfl ?hk68 ?rk68
   case hk68 => intro u hSu; go_simp <;> with_reducible rfl
   try simp only [nbs, Act.put]
   refine tkB (i := 23) (v := ?vk69) rfl ?hk69 ?rk69
   case hk69 => intro u hSu; go_simp <;> with_reducible rfl
   try simp only [nbs, Act.put]
   refine tkB (i := 24) (v := ?vk70) rfl ?hk70 ?rk70
   case hk70 => intro u hSu; (try dsimp only at hSu); obtain ⟨qb7c0, qb7c1, qb7c2, _⟩ := fac3 (x := z18) (hSu.at 3 _ _ _ rfl); clear hSu; go_simp <;> with_reducible rfl
   try simp only [nbs, Act.put]
   refine tkB (i := 25) (v := ?vk71) rfl ?hk71 ?rk71
   case hk71 => intro u hSu; (try dsimp only at hSu); obtain ⟨qb9c0, qb9c1, qb9c2, _⟩ := fac3 (x := z22) (hSu.at 1 _ _ _ rfl); clear hSu; go_simp <;> with_reducible rfl
   try simp only [nbs, Act.put]
   refine rdA (i := 26) rfl (fun K hK => ?_)
   go_simp
   have a73 := HS.out.p 5 _ _ rfl
   have a74 := HS.out.p 3 _ _ rfl
   go_wp2_with (go_at_call 7; (with_reducible refine (same_any qr qr _ _ _ a73 a74).mono ?_); rw [decide_eq_true rfl]; rintro e w72 ⟨rfl, hb72⟩)
   refine hK.out _ _ (Sx.below hh hb72) (fun hh => ?_)
   clear hK K
   try simp only [nbs, Act.put]
   replace HS := Lib.hid (HS.out.below hb72)
   clear hb72 a73 a74
   refine tkB (i := 27) (v := ?vk75) rfl ?hk75 ?rk75
   case hk75 => intro u hSu; go_simp <;> with_reducible rfl
   try simp only [nbs, Act.put]
   refine tkB (i := 28) (v := ?vk76) rfl ?hk76 ?rk76
   case hk76 => intro u hSu; go_simp <;> with_reducible rfl
   try simp only [nbs, Act.put]
   refine tkB (i := 29) (v := ?vk77) rfl ?hk77 ?rk77
   case hk77 => intro u hSu; go_simp <;> with_reducible rfl
   try simp only [nbs, Act.put]
   refine tkB (i := 30) (v := ?vk78) rfl ?hk78 ?rk78
   case hk78 => intro u hSu; (try dsimp only at hSu); obtain ⟨qb10c0, qb10c1, qb10c2, _⟩ := fac3 (x := z40q16q17) (hSu.at 0 _ _ _ rfl); clear hSu; go_simp <;> with_reducible rfl
   try simp only [nbs, Act.put]
   refine tkB (i := 31) (v := ?vk79) rfl ?hk79 ?rk79
   case hk79 => intro u hSu; (try dsimp only at hSu); obtain ⟨qb7c0, qb7c1, qb7c2, _⟩ := fac3 (x := z18) (hSu.at 3 _ _ _ rfl); clear hSu; go_simp <;> with_reducible rfl
   try simp only [nbs, Act.put]
   refine tkB (i := 32) (v := ?vk80) rfl ?hk80 ?rk80
   case hk80 => intro u hSu; go_simp <;> with_reducible rfl
   try simp only [nbs, Act.put]
   refine tkB (i := 33) (v := ?vk81) rfl ?hk81 ?rk81
   case hk81 => intro u hSu; go_simp <;> with_reducible rfl
   try simp only [nbs, Act.put]
   refine tkB (i := 34) (v := ?vk82) rfl ?hk82 ?rk82
   case hk82 => intro u hSu; go_simp <;> with_reducible rfl
   try simp only [nbs, Act.put]
   refine rdA (i := 35) rfl (fun K hK => ?_)
   go_simp
   go_wp2_with (go_at_call 9; (with_reducible refine (HNK.out _).mono ?_); rintro e w83 ⟨v83, rfl, hv83, hb83⟩; obtain ⟨z83, rfl⟩ := hv83.open3)
   refine hK.out _ _ (Sx.below hh hb83) (fun hh => ?_)
   clear hK K
   try simp only [nbs, Act.put]
   replace HS := Lib.hid (HS.out.below hb83)
   clear hb83
   replace HS := Lib.hid (HS.out.addP hv83)
   clear hv83
   refine rdA (i := 36) rfl (fun K hK => ?_)
   go_simp
   have a85 := HS.out.p 6 _ _ rfl
   have a86 := HS.out.p 0 _ _ rfl
   go_wp2_with (go_at_call 8; (with_reducible refine (mulRat_any qr qk _ _ _ a85 a86 (szR_mono ZR.out (by omega)) (szR_mono ZK.out (by omega))).mono ?_); rintro e w84 ⟨v84, rfl, hv84, hb84⟩; obtain ⟨z84, rfl⟩ := hv84.open3)
   refine hK.out _ _ (Sx.below hh hb84) (fun hh => ?_)
   clear hK K
   try simp only [nbs, Act.put]
   replace HS := Lib.hid (HS.out.below hb84)
   clear hb84 a85 a86
   replace HS := Lib.hid (HS.out.addP hv84)
   clear hv84
   refine rdA (i := 37) rfl (fun K hK => ?_)
   go_simp
   have a88 := HS.out.p 2 _ _ rfl
   have a89 := HS.out.p 0 _ _ rfl
   go_wp2_with (go_at_call 7; (with_reducible refine (same_any (qr * qk) (qr * qk) _ _ _ a88 a89).mono ?_); rw [decide_eq_true rfl]; rintro e w87 ⟨rfl, hb87⟩)
   refine hK.out _ _ (Sx.below hh hb87) (fun hh => ?_)
   clear hK K
   try simp only [nbs, Act.put]
   replace HS := Lib.hid (HS.out.below hb87)
   clear hb87 a88 a89
   refine tkB (i := 38) (v := ?vk90) rfl ?hk90 ?rk90
   case hk90 => intro u hSu; go_simp <;> with_reducible rfl
   try simp only [nbs, Act.put]
   refine tkB (i := 39) (v := ?vk91) rfl ?hk91 ?rk91
   case hk91 => intro u hSu; go_simp <;> with_reducible rfl
   try simp only [nbs, Act.put]
   refine tkB (i := 40) (v := ?vk92) rfl ?hk92 ?rk92
   case hk92 => intro u hSu; go_simp <;> with_reducible rfl
   try simp only [nbs, Act.put]
   refine tkB (i := 41) (v := ?vk93) rfl ?hk93 ?rk93
   case hk93 => intro u hSu; go_simp <;> with_reducible rfl
   try simp only [nbs, Act.put]
   refine tkB (i := 42) (v := ?vk94) rfl ?hk94 ?rk94
   case hk94 => intro u hSu; go_simp <;> with_reducible rfl
   try simp only [nbs, Act.put]
   by_cases t95p : ps.length > 20
   ·
    have t95i : decide ((ps.length : Int) > 20) = true := decide_eq_true (by omega)
    have t95j : decide (20 < (ps.length : Int)) = true := decide_eq_true (by omega)
    have t95k : decide (20 < ps.length) = true := decide_eq_true (by omega)
    have t95 : decide (ps.length > 20) = true := decide_eq_true t95p
    have T95 := Lib.hid t95p
    clear t95p
    refine tkB (i := 43) (v := ?vk96) rfl ?hk96 ?rk96
    case hk96 => intro u hSu; go_simp <;> with_reducible rfl
    try simp only [nbs, Act.put]
    refine tkB (i := 44) (v := ?vk97) rfl ?hk97 ?rk97
    case hk97 => intro u hSu; go_simp <;> with_reducible rfl
    try simp only [nbs, Act.put]
    refine wpAnyH_done (by kernel_rfl) ?_ _
    go_wp2_with fail
    refine (awake03_any _).mono ?_
    rintro e w98 ⟨rfl, hb98⟩
    replace HS := Lib.hid (HS.out.below hb98)
    clear hb98
    go_wp2_with fail
    go_ret
    exact ⟨by rfl, HS.out.bel⟩
   ·
    have t95i : decide ((ps.length : Int) > 20) = false := decide_eq_false (by omega)
    have t95j : decide (20 < (ps.length : Int)) = false := decide_eq_false (by omega)
    have t95k : decide (20 < ps.length) = false := decide_eq_false (by omega)
    have t95 : decide (ps.length > 20) = false := decide_eq_false t95p
    have T95 := Lib.hid t95p
    clear t95p
    refine tkB (i := 43) (v := ?vk99) rfl ?hk99 ?rk99
    case hk99 => intro u hSu; go_simp <;> with_reducible rfl
    try simp only [nbs, Act.put]
    refine tkB (i := 44) (v := ?vk100) rfl ?hk100 ?rk100
    case hk100 => intro u hSu; go_simp <;> with_reducible rfl
    try simp only [nbs, Act.put]
    refine wpAnyH_done (by kernel_rfl) ?_ _
    go_wp2_with fail
    have HL20 : Hid (ps.length ≤ 20) := by show _ ≤ _; have := T95.out; omega
    have HG := Lib.hid ((GsG.nil w w87 [(Br24_19, z40q16q17.arr, 32), (w22.heap.size, z22.arr, 32), (w20.heap.size, z20.arr, 32), (w18.heap.size, z18.arr, 32), (Br2_14, #[.int .i64 c0, .int .i64 c1], 27), (Br2_13, #[.int .i64 b0, .int .i64 b1], 27), (Br2_12, #[.int .i64 a0, .int .i64 a1], 27), (w.heap.size + 3, #[.int .i16 d0, .int .i16 d1], 23), (w.heap.size + 2, #[.int .i16 c0, .int .i16 c1], 23), (w.heap.size + 1, #[.int .i16 b0, .int .i16 b1], 23), (w.heap.size, #[.int .i16 a0, .int .i16 a1], 23)]).add HS.out.bel.size (Sx.lt HS.out) 27 2)
    go_wp2_with fail
    go_loopw [144, 30] (fun u144 u30 wr => ∃ (i : Nat) (ta : Option Addr) (tc : Nat) (tx : List Value) (m : Nat), i ≤ ps.length ∧ u144 = .int .i64 i ∧ u30 = .slice ta m tc ∧ Hid (m = (wayTo ps i).length ∧ tx = prC (wayTo ps i)) ∧ Hid (Sx w wr [(Br24_19, z40q16q17.arr, 32), (w22.heap.size, z22.arr, 32), (w20.heap.size, z20.arr, 32), (w18.heap.size, z18.arr, 32), (Br2_14, #[.int .i64 c0, .int .i64 c1], 27), (Br2_13, #[.int .i64 b0, .int .i64 b1], 27), (Br2_12, #[.int .i64 a0, .int .i64 a1], 27), (w.heap.size + 3, #[.int .i16 d0, .int .i16 d1], 23), (w.heap.size + 2, #[.int .i16 c0, .int .i16 c1], 23), (w.heap.size + 1, #[.int .i16 b0, .int .i16 b1], 23), (w.heap.size, #[.int .i16 a0, .int .i16 a1], 23)] []) ∧ Hid (GsG w wr [(Br24_19, z40q16q17.arr, 32), (w22.heap.size, z22.arr, 32), (w20.heap.size, z20.arr, 32), (w18.heap.size, z18.arr, 32), (Br2_14, #[.int .i64 c0, .int .i64 c1], 27), (Br2_13, #[.int .i64 b0, .int .i64 b1], 27), (Br2_12, #[.int .i64 a0, .int .i64 a1], 27), (w.heap.size + 3, #[.int .i16 d0, .int .i16 d1], 23), (w.heap.size + 2, #[.int .i16 c0, .int .i16 c1], 23), (w.heap.size + 1, #[.int .i16 b0, .int .i16 b1], 23), (w.heap.size, #[.int .i16 a0, .int .i16 a1], 23)] [⟨27, 2, .slice ta m tc, m, tx, []⟩]))
     (fun u _ _ => ps.length - (intOf u).toNat)
    case atStart => exact ⟨0, none, 0, [], 0, Nat.zero_le _, rfl, rfl, Lib.hid ⟨rfl, rfl⟩, Lib.hid (HS.out.bare), HG⟩
    case round =>
     obtain ⟨wr101, hwr101⟩ : ∃ z, z = wr := ⟨_, rfl⟩
     subst hwr101
     clear HS HG
     obtain ⟨i, ta, tc, tx, m, hi, rfl, rfl, HWY, HS, HG⟩ := hrel
     by_cases hlt : i < ps.length
     ·
      have hlt' : (i : Int) < ps.length := by omega
      have hge' : (0 : Int) ≤ i := by omega
      have HLT := Lib.hid hlt
      have h20 : ps.length ≤ 20 := HL20.out
      obtain ⟨bb, ob, hae, hbb, hEB⟩ := HEB.out (by omega)
      subst hae
      have HBB := Lib.hid hbb
      obtain ⟨he0, he1⟩ := hEB i hlt
      obtain ⟨hr0, hr1⟩ := HPS.out i hlt
      have HE0 := Lib.hid he0
      have HE1 := Lib.hid he1
      have hwl : m ≤ i := by rw [HWY.out.1]; exact wayTo_len ps i
      have hwp := wayTo_app (ps := ps) (i := i)
      have hws := wayTo_same (ps := ps) (i := i)
      have hpr := way_row (HG.out.row 0 _ rfl) HWY.out.1 HWY.out.2
      clear hbb hEB he0 he1
      by_cases hm : m = 0
      ·
       have hnx := hwp (.inl (by rw [← HWY.out.1]; exact hm))
       rw [← HWY.out.1, ← HWY.out.2] at hnx
       have tm1 : ((m : Int) == 0) = true := by simp [hm]
       have tm2 : decide ((m : Int) = 0) = true := by simp [hm]
       have tm3 : decide (m = 0) = true := decide_eq_true hm
       generalize hx0 : (ps.getD i (0, 0)).1 = x0 at *
       generalize hx1 : (ps.getD i (0, 0)).2 = x1 at *
       clear hx0 hx1
       have hwx0 : IntKind.i64.wrap x0 = x0 := IntWalk.i64_in _ (by omega)
       have hwx1 : IntKind.i64.wrap x1 = x1 := IntWalk.i64_in _ (by omega)
       have HNX := Lib.hid hnx
       clear hm hwp hws hpr hnx hlt
       have Ec0 := (HS.out.bel.cell (p := ⟨bb, ob + i * 2, none⟩) HBB.out).trans HE0.out
       have Ec1 := (HS.out.bel.cell (p := ⟨bb, ob + i * 2 + 1, none⟩) HBB.out).trans HE1.out
       go_wp2_with fail
       clear Ec0 Ec1
       generalize hW102 : ((wr101).alloc (.cells _ _)).alloc (.cells _ _) = W102 at *
       replace HG := Lib.hid ((((HG.out).alloc (B := wr101.heap.size) rfl).alloc (B := wr101.heap.size + 1) (by simp)).to hW102 (by (try simp only [nb5, nb6]); rfl))
       replace HS := Lib.hid ((((HS.out).alloc (B := wr101.heap.size) rfl (by rfl)).alloc (B := wr101.heap.size + 1) (by simp) (by rfl)).to hW102 (by (try simp only [nb5, nb6]); rfl))
       clear hW102
       refine wp_region_held_drew (S := (fun w' => Sx w w' [(wr101.heap.size + 1, #[.int .i64 x0, .int .i64 x1], 27), (wr101.heap.size, #[.int .i8 x0, .int .i8 x1], 42), (Br24_19, z40q16q17.arr, 32), (w22.heap.size, z22.arr, 32), (w20.heap.size, z20.arr, 32), (w18.heap.size, z18.arr, 32), (Br2_14, #[.int .i64 c0, .int .i64 c1], 27), (Br2_13, #[.int .i64 b0, .int .i64 b1], 27), (Br2_12, #[.int .i64 a0, .int .i64 a1], 27), (w.heap.size + 3, #[.int .i16 d0, .int .i16 d1], 23), (w.heap.size + 2, #[.int .i16 c0, .int .i16 c1], 23), (w.heap.size + 1, #[.int .i16 b0, .int .i16 b1], 23), (w.heap.size, #[.int .i16 a0, .int .i16 a1], 23)] [])) (by kernel_rfl) ((HS.out.drew).bare) (fun hh => ?_)
       replace HS := Lib.hid HS.out.drew
       replace HG := Lib.hid (HG.out.below (Below.refl _ _).drew)
       refine tkB (i := 0) (v := ?vk104) rfl ?hk104 ?rk104
       case hk104 => intro u hSu; go_simp <;> with_reducible rfl
       try simp only [nbs, Act.put]
       refine tkB (i := 1) (v := ?vk105) rfl ?hk105 ?rk105
       case hk105 => intro u hSu; go_simp <;> with_reducible rfl
       try simp only [nbs, Act.put]
       refine tkB (i := 2) (v := ?vk106) rfl ?hk106 ?rk106
       case hk106 => intro u hSu; go_simp <;> with_reducible rfl
       try simp only [nbs, Act.put]
       refine tkB (i := 3) (v := ?vk107) rfl ?hk107 ?rk107
       case hk107 => intro u hSu; go_simp <;> with_reducible rfl
       try simp only [nbs, Act.put]
       refine tkC (i := 4) rfl ?_
       try simp only [nbs, Act.put]
       refine tkC (i := 5) rfl ?_
       try simp only [nbs, Act.put]
       refine tkC (i := 6) rfl ?_
       try simp only [nbs, Act.put]
       refine tkC (i := 7) rfl ?_
       try simp only [nbs, Act.put]
       refine tkC (i := 8) rfl ?_
       try simp only [nbs, Act.put]
       refine tkC (i := 9) rfl ?_
       try simp only [nbs, Act.put]
       refine tkC (i := 10) rfl ?_
       try simp only [nbs, Act.put]
       refine tkC (i := 11) rfl ?_
       try simp only [nbs, Act.put]
       refine tkB (i := 12) (v := ?vk108) rfl ?hk108 ?rk108
       case hk108 => intro u hSu; go_simp <;> with_reducible rfl
       try simp only [nbs, Act.put]
       refine wpAnyH_done (by kernel_rfl) ?_ _
       generalize W102.drew = Wd109 at *
       go_upto_region 16 with fail
       have b12e := (HS.out.at 0 _ _ _ rfl)
       have b12c0 := blk_cell b12e 0 (.int .i64 x0) rfl
       have b12c1 := blk_cell b12e 1 (.int .i64 x1) rfl
       have b12f0 := blk_frozen b12e 0
       have b12f1 := blk_frozen b12e 1
       have b12l := blk_lt b12e
       clear b12e
       have HSA := Lib.hid ((HS.out).alloc (B := Wd109.heap.size) (T := 27) (cs := #[.int .i64 x0, .int .i64 x1]) rfl (by rfl))
       have HGA := Lib.hid ((HG.out).alloc (B := Wd109.heap.size) (T := 27) (cs := #[.int .i64 x0, .int .i64 x1]) rfl)
       obtain ⟨ii110, hi110, hz110, hs110, hy110⟩ := info_parts inf_api_Point
       have hzd110 : ∀ u ∈ (Value.agg #[.int .i64 0, .int .i64 0]).cells.toList, noDig u := by
        intro u hu
        have hu : u ∈ [.int .i64 0, .int .i64 0] := hu
        simp only [List.mem_cons, List.not_mem_nil, or_false] at hu
        rcases hu with rfl | rfl
        all_goals first | exact noDig_bool _ | exact noDig_slice _ _ _ | exact noDig_i64 _
       go_wp2_with (at_builtin; refine wpList_append_lrow _ rfl (.tmp 168) (.tmp 170) 40 rfl w.heap.size 27 ii110 _ 2 16 Try.underlying40 hi110 hz110 hs110 hy110 rfl (by decide) hzd110 _ _ _ rfl (HGA.out.row 0 _ rfl) ⟨Wd109.heap.size, 0, none⟩ 1 1 [.int .i64 x0, .int .i64 x1] rfl rfl (cells_blk (HSA.out.at 0 _ _ _ rfl)) (by simp [Value.oneCell']) (by intro u hu; simp only [List.mem_cons, List.not_mem_nil, or_false] at hu; rcases hu with rfl | rfl; all_goals first | exact noDig_bool _ | exact noDig_slice _ _ _ | exact noDig_i64 _) (by omega) (by dsimp only; unfold maxLen; omega) (by dsimp only; omega) HSA.out.bel.size ?_)
       intro g110 cap110 w110 hL110 hgr110 hat110
       have hL110' : LRow w110 w.heap.size 27 2 (.slice (some ⟨g110, 0, none⟩) (m + 1) cap110) (m + 1) (tx ++ [.int .i64 x0, .int .i64 x1]) := hL110
       clear hL110
       have hL110 := hL110'
       clear hL110'
       obtain ⟨hs110', hg110'⟩ := Sx.appendG HSA.out HGA.out 0 rfl 1 [.int .i64 x0, .int .i64 x1] [] (by intro f hf; simp at hf) hL110 hgr110 (by intro c hc; simp [Value.ownBlock] at hc; subst hc; first | exact hat110 | simpa using hat110)
       clear b12c0 b12c1 b12f0 b12f1 b12l
       clear HSA HGA
       replace HS : Hid (Sx w w110 [(Wd109.heap.size, #[.int .i64 x0, .int .i64 x1], 27), (wr101.heap.size + 1, #[.int .i64 x0, .int .i64 x1], 27), (wr101.heap.size, #[.int .i8 x0, .int .i8 x1], 42), (Br24_19, z40q16q17.arr, 32), (w22.heap.size, z22.arr, 32), (w20.heap.size, z20.arr, 32), (w18.heap.size, z18.arr, 32), (Br2_14, #[.int .i64 c0, .int .i64 c1], 27), (Br2_13, #[.int .i64 b0, .int .i64 b1], 27), (Br2_12, #[.int .i64 a0, .int .i64 a1], 27), (w.heap.size + 3, #[.int .i16 d0, .int .i16 d1], 23), (w.heap.size + 2, #[.int .i16 c0, .int .i16 c1], 23), (w.heap.size + 1, #[.int .i16 b0, .int .i16 b1], 23), (w.heap.size, #[.int .i16 a0, .int .i16 a1], 23)] []) := hs110'
       replace HG : Hid (GsG w w110 [(Wd109.heap.size, #[.int .i64 x0, .int .i64 x1], 27), (wr101.heap.size + 1, #[.int .i64 x0, .int .i64 x1], 27), (wr101.heap.size, #[.int .i8 x0, .int .i8 x1], 42), (Br24_19, z40q16q17.arr, 32), (w22.heap.size, z22.arr, 32), (w20.heap.size, z20.arr, 32), (w18.heap.size, z18.arr, 32), (Br2_14, #[.int .i64 c0, .int .i64 c1], 27), (Br2_13, #[.int .i64 b0, .int .i64 b1], 27), (Br2_12, #[.int .i64 a0, .int .i64 a1], 27), (w.heap.size + 3, #[.int .i16 d0, .int .i16 d1], 23), (w.heap.size + 2, #[.int .i16 c0, .int .i16 c1], 23), (w.heap.size + 1, #[.int .i16 b0, .int .i16 b1], 23), (w.heap.size, #[.int .i16 a0, .int .i16 a1], 23)] [⟨27, 2, (.slice (some ⟨g110, 0, none⟩) (m + 1) cap110), (m + 1), (tx ++ [.int .i64 x0, .int .i64 x1]), ([] ++ [])⟩]) := hg110'
       clear hs110' hg110' hL110 hgr110 hat110 hzd110 hi110 hz110 hs110 hy110
       go_wp2_with fail
       exact ⟨⟨i + 1, (some ⟨g110, 0, none⟩), cap110, (tx ++ [.int .i64 x0, .int .i64 x1]), (m + 1), by have := HLT.out; omega, by go_num, rfl, Lib.hid ⟨HNX.out.1.symm, HNX.out.2.symm⟩, Lib.hid ((((HS.out).erase 0).erase 0).erase 0), Lib.hid (HG.out.mono (fun b hb => ⟨b, by simp only [List.mem_cons] at hb ⊢; first | exact hb | (repeat (first | exact hb | right)), rfl⟩))⟩, meas_up HLT.out⟩
      ·
       have tm1 : ((m : Int) == 0) = false := by simpa using hm
       have tm2 : decide ((m : Int) = 0) = false := by simpa using hm
       have tm3 : decide (m = 0) = false := decide_eq_false hm
       obtain ⟨j, hj⟩ : ∃ j, m = j + 1 := ⟨m - 1, by omega⟩
       obtain ⟨ao', cap', hv, hLW⟩ := hpr
       have hv1 : ta = ao' := by injection hv
       have hv2 : tc = cap' := by injection hv
       subst hv1
       subst hv2
       obtain ⟨bw, ow, hta, hbw, hLV⟩ := hLW (by rw [← HWY.out.1]; omega)
       subst hta
       have HBW := Lib.hid hbw
       obtain ⟨q0, q1⟩ := hLV j (by rw [← HWY.out.1]; omega)
       have Q0 := Lib.hid q0
       have Q1 := Lib.hid q1
       have HMW := Lib.hid (Below.refl wr101.heap.size wr101)
       have hwj : IntKind.i64.wrap ((m : Int) - 1) = (j : Int) := (IntWalk.i64_in _ (by omega)).trans (by omega)
       have hj1 : (0 : Int) ≤ j := by omega
       have hj2 : (j : Int) < m := by omega
       have hjm : j < m := by omega
       have hlst : (wayTo ps i).length - 1 = j := by rw [← HWY.out.1]; omega
       rw [hlst] at hwp hws
       have hneq := neq_pt ((wayTo ps i).getD j (0, 0)).1 ((wayTo ps i).getD j (0, 0)).2 (ps.getD i (0, 0)).1 (ps.getD i (0, 0)).2
       clear hv hbw hLV q0 q1 hj hlst
       by_cases heq : (wayTo ps i).getD j (0, 0) = ps.getD i (0, 0)
       ·
        have hsame := hws (by rw [← HWY.out.1]; omega) heq
        have hnx : (wayTo ps (i + 1)).length = m ∧ prC (wayTo ps (i + 1)) = tx := by rw [hsame]; exact ⟨HWY.out.1.symm, HWY.out.2.symm⟩
        have hb : (((wayTo ps i).getD j (0, 0)).1 == (ps.getD i (0, 0)).1 && ((wayTo ps i).getD j (0, 0)).2 == (ps.getD i (0, 0)).2) = true := by rw [heq]; simp
        clear hsame
        rw [hb] at hneq
        have HNX := Lib.hid hnx
        clear hm hwp hws hnx hlt heq hb
        generalize ((wayTo ps i).getD j (0, 0)).1 = y0 at *
        generalize ((wayTo ps i).getD j (0, 0)).2 = y1 at *
        generalize hx0 : (ps.getD i (0, 0)).1 = x0 at *
        generalize hx1 : (ps.getD i (0, 0)).2 = x1 at *
        clear hx0 hx1
        have hwx0 : IntKind.i64.wrap x0 = x0 := IntWalk.i64_in _ (by omega)
        have hwx1 : IntKind.i64.wrap x1 = x1 := IntWalk.i64_in _ (by omega)
        have Ec0 := (HS.out.bel.cell (p := ⟨bb, ob + i * 2, none⟩) HBB.out).trans HE0.out
        have Ec1 := (HS.out.bel.cell (p := ⟨bb, ob + i * 2 + 1, none⟩) HBB.out).trans HE1.out
        go_wp2_with fail
        clear Ec0 Ec1
        have HG112 : Hid (wr101.heap.size ≤ wr101.heap.size) := by first | exact HMW.out.size | (show _ ≤ _; have := HMW.out.size; omega)
        have HG113 : Hid (wr101.heap.size ≤ wr101.heap.size + 1) := by first | exact HMW.out.size | (show _ ≤ _; have := HMW.out.size; omega)
        generalize hW111 : ((wr101).alloc (.cells _ _)).alloc (.cells _ _) = W111 at *
        replace HG := Lib.hid ((((HG.out).alloc (B := wr101.heap.size) rfl).alloc (B := wr101.heap.size + 1) (by simp)).to hW111 (by (try simp only [nb5, nb6]); rfl))
        replace HS := Lib.hid ((((HS.out).alloc (B := wr101.heap.size) rfl (by rfl)).alloc (B := wr101.heap.size + 1) (by simp) (by rfl)).to hW111 (by (try simp only [nb5, nb6]); rfl))
        replace HMW : Hid (Below wr101.heap.size wr101 W111) := by subst hW111; exact Lib.hid ((mk_alloc (mk_alloc HMW.out)))
        clear hW111
        refine wp_region_held_drew (S := (fun w' => Sx w w' [(wr101.heap.size + 1, #[.int .i64 x0, .int .i64 x1], 27), (wr101.heap.size, #[.int .i8 x0, .int .i8 x1], 42), (Br24_19, z40q16q17.arr, 32), (w22.heap.size, z22.arr, 32), (w20.heap.size, z20.arr, 32), (w18.heap.size, z18.arr, 32), (Br2_14, #[.int .i64 c0, .int .i64 c1], 27), (Br2_13, #[.int .i64 b0, .int .i64 b1], 27), (Br2_12, #[.int .i64 a0, .int .i64 a1], 27), (w.heap.size + 3, #[.int .i16 d0, .int .i16 d1], 23), (w.heap.size + 2, #[.int .i16 c0, .int .i16 c1], 23), (w.heap.size + 1, #[.int .i16 b0, .int .i16 b1], 23), (w.heap.size, #[.int .i16 a0, .int .i16 a1], 23)] [])) (by kernel_rfl) ((HS.out.drew).bare) (fun hh => ?_)
        replace HS := Lib.hid HS.out.drew
        replace HMW := Lib.hid (ext_trans HMW.out (Below.refl _ _).drew)
        replace HG := Lib.hid (HG.out.below (Below.refl _ _).drew)
        refine tkB (i := 0) (v := ?vk115) rfl ?hk115 ?rk115
        case hk115 => intro u hSu; go_simp <;> with_reducible rfl
        try simp only [nbs, Act.put]
        refine tkB (i := 1) (v := ?vk116) rfl ?hk116 ?rk116
        case hk116 => intro u hSu; go_simp <;> with_reducible rfl
        try simp only [nbs, Act.put]
        refine tkB (i := 2) (v := ?vk117) rfl ?hk117 ?rk117
        case hk117 => intro u hSu; go_simp <;> with_reducible rfl
        try simp only [nbs, Act.put]
        refine tkB (i := 3) (v := ?vk118) rfl ?hk118 ?rk118
        case hk118 => intro u hSu; go_simp <;> with_reducible rfl
        try simp only [nbs, Act.put]
        refine tkB (i := 4) (v := ?vk119) rfl ?hk119 ?rk119
        case hk119 => intro u hSu; go_simp <;> with_reducible rfl
        try simp only [nbs, Act.put]
        refine tkB (i := 5) (v := ?vk120) rfl ?hk120 ?rk120
        case hk120 => intro u hSu; go_simp <;> with_reducible rfl
        try simp only [nbs, Act.put]
        refine tkB (i := 6) (v := ?vk121) rfl ?hk121 ?rk121
        case hk121 => intro u hSu; go_simp <;> with_reducible rfl
        try simp only [nbs, Act.put]
        refine tkB (i := 7) (v := ?vk122) rfl ?hk122 ?rk122
        case hk122 => intro u hSu; go_simp <;> with_reducible rfl
        try simp only [nbs, Act.put]
        refine tkB (i := 8) (v := ?vk123) rfl ?hk123 ?rk123
        case hk123 => intro u hSu; go_simp <;> with_reducible rfl
        try simp only [nbs, Act.put]
        refine tkB (i := 10) (v := ?vk124) rfl ?hk124 ?rk124
        case hk124 => intro u hSu; (try dsimp only at hSu); have qb12e := (hSu.at 0 _ _ _ rfl); have qb12c0 := blk_cell qb12e 0 (.int .i64 x0) rfl; have qb12c1 := blk_cell qb12e 1 (.int .i64 x1) rfl; clear qb12e; clear hSu; go_simp <;> with_reducible rfl
        try simp only [nbs, Act.put]
        refine rdA (i := 9) rfl (fun K hK => ?_)
        have Qc0 := (HMW.out.cell (p := ⟨bw, ow + j * 2, none⟩) HBW.out).trans Q0.out
        have Qc1 := (HMW.out.cell (p := ⟨bw, ow + j * 2 + 1, none⟩) HBW.out).trans Q1.out
        go_simp
        refine hK.out _ _ hh (fun hh => ?_)
        clear hK K Qc0 Qc1
        try simp only [nbs, Act.put]
        refine tkB (i := 11) (v := ?vk125) rfl ?hk125 ?rk125
        case hk125 => intro u hSu; go_simp <;> with_reducible rfl
        try simp only [nbs, Act.put]
        refine tkB (i := 12) (v := ?vk126) rfl ?hk126 ?rk126
        case hk126 => intro u hSu; go_simp <;> with_reducible rfl
        try simp only [nbs, Act.put]
        refine wpAnyH_done (by kernel_rfl) ?_ _
        generalize W111.drew = Wd127 at *
        go_wp2_with fail
        exact ⟨⟨i + 1, (some ⟨bw, ow, none⟩), tc, tx, m, by have := HLT.out; omega, by go_num, rfl, Lib.hid ⟨HNX.out.1.symm, HNX.out.2.symm⟩, Lib.hid (((HS.out).erase 0).erase 0), Lib.hid (HG.out.mono (fun b hb => ⟨b, by simp only [List.mem_cons] at hb ⊢; first | exact hb | (repeat (first | exact hb | right)), rfl⟩))⟩, meas_up HLT.out⟩
       ·
        have hnx := hwp (.inr heq)
        rw [← HWY.out.1, ← HWY.out.2] at hnx
        have hb : (((wayTo ps i).getD j (0, 0)).1 == (ps.getD i (0, 0)).1 && ((wayTo ps i).getD j (0, 0)).2 == (ps.getD i (0, 0)).2) = false := by
         cases hc : (((wayTo ps i).getD j (0, 0)).1 == (ps.getD i (0, 0)).1 && ((wayTo ps i).getD j (0, 0)).2 == (ps.getD i (0, 0)).2) with
         | false => rfl
         | true => simp only [Bool.and_eq_true, beq_iff_eq] at hc; exact absurd (Prod.ext hc.1 hc.2) heq
        rw [hb] at hneq
        have HNX := Lib.hid hnx
        clear hm hwp hws hnx hlt heq hb
        generalize ((wayTo ps i).getD j (0, 0)).1 = y0 at *
        generalize ((wayTo ps i).getD j (0, 0)).2 = y1 at *
        generalize hx0 : (ps.getD i (0, 0)).1 = x0 at *
        generalize hx1 : (ps.getD i (0, 0)).2 = x1 at *
        clear hx0 hx1
        have hwx0 : IntKind.i64.wrap x0 = x0 := IntWalk.i64_in _ (by omega)
        have hwx1 : IntKind.i64.wrap x1 = x1 := IntWalk.i64_in _ (by omega)
        have Ec0 := (HS.out.bel.cell (p := ⟨bb, ob + i * 2, none⟩) HBB.out).trans HE0.out
        have Ec1 := (HS.out.bel.cell (p := ⟨bb, ob + i * 2 + 1, none⟩) HBB.out).trans HE1.out
        go_wp2_with fail
        clear Ec0 Ec1
        have HG129 : Hid (wr101.heap.size ≤ wr101.heap.size) := by first | exact HMW.out.size | (show _ ≤ _; have := HMW.out.size; omega)
        have HG130 : Hid (wr101.heap.size ≤ wr101.heap.size + 1) := by first | exact HMW.out.size | (show _ ≤ _; have := HMW.out.size; omega)
        generalize hW128 : ((wr101).alloc (.cells _ _)).alloc (.cells _ _) = W128 at *
        replace HG := Lib.hid ((((HG.out).alloc (B := wr101.heap.size) rfl).alloc (B := wr101.heap.size + 1) (by simp)).to hW128 (by (try simp only [nb5, nb6]); rfl))
        replace HS := Lib.hid ((((HS.out).alloc (B := wr101.heap.size) rfl (by rfl)).alloc (B := wr101.heap.size + 1) (by simp) (by rfl)).to hW128 (by (try simp only [nb5, nb6]); rfl))
        replace HMW : Hid (Below wr101.heap.size wr101 W128) := by subst hW128; exact Lib.hid ((mk_alloc (mk_alloc HMW.out)))
        clear hW128
        refine wp_region_held_drew (S := (fun w' => Sx w w' [(wr101.heap.size + 1, #[.int .i64 x0, .int .i64 x1], 27), (wr101.heap.size, #[.int .i8 x0, .int .i8 x1], 42), (Br24_19, z40q16q17.arr, 32), (w22.heap.size, z22.arr, 32), (w20.heap.size, z20.arr, 32), (w18.heap.size, z18.arr, 32), (Br2_14, #[.int .i64 c0, .int .i64 c1], 27), (Br2_13, #[.int .i64 b0, .int .i64 b1], 27), (Br2_12, #[.int .i64 a0, .int .i64 a1], 27), (w.heap.size + 3, #[.int .i16 d0, .int .i16 d1], 23), (w.heap.size + 2, #[.int .i16 c0, .int .i16 c1], 23), (w.heap.size + 1, #[.int .i16 b0, .int .i16 b1], 23), (w.heap.size, #[.int .i16 a0, .int .i16 a1], 23)] [])) (by kernel_rfl) ((HS.out.drew).bare) (fun hh => ?_)
        replace HS := Lib.hid HS.out.drew
        replace HMW := Lib.hid (ext_trans HMW.out (Below.refl _ _).drew)
        replace HG := Lib.hid (HG.out.below (Below.refl _ _).drew)
        refine tkB (i := 0) (v := ?vk132) rfl ?hk132 ?rk132
        case hk132 => intro u hSu; go_simp <;> with_reducible rfl
        try simp only [nbs, Act.put]
        refine tkB (i := 1) (v := ?vk133) rfl ?hk133 ?rk133
        case hk133 => intro u hSu; go_simp <;> with_reducible rfl
        try simp only [nbs, Act.put]
        refine tkB (i := 2) (v := ?vk134) rfl ?hk134 ?rk134
        case hk134 => intro u hSu; go_simp <;> with_reducible rfl
        try simp only [nbs, Act.put]
        refine tkB (i := 3) (v := ?vk135) rfl ?hk135 ?rk135
        case hk135 => intro u hSu; go_simp <;> with_reducible rfl
        try simp only [nbs, Act.put]
        refine tkB (i := 4) (v := ?vk136) rfl ?hk136 ?rk136
        case hk136 => intro u hSu; go_simp <;> with_reducible rfl
        try simp only [nbs, Act.put]
        refine tkB (i := 5) (v := ?vk137) rfl ?hk137 ?rk137
        case hk137 => intro u hSu; go_simp <;> with_reducible rfl
        try simp only [nbs, Act.put]
        refine tkB (i := 6) (v := ?vk138) rfl ?hk138 ?rk138
        case hk138 => intro u hSu; go_simp <;> with_reducible rfl
        try simp only [nbs, Act.put]
        refine tkB (i := 7) (v := ?vk139) rfl ?hk139 ?rk139
        case hk139 => intro u hSu; go_simp <;> with_reducible rfl
        try simp only [nbs, Act.put]
        refine tkB (i := 8) (v := ?vk140) rfl ?hk140 ?rk140
        case hk140 => intro u hSu; go_simp <;> with_reducible rfl
        try simp only [nbs, Act.put]
        refine tkB (i := 10) (v := ?vk141) rfl ?hk141 ?rk141
        case hk141 => intro u hSu; (try dsimp only at hSu); have qb12e := (hSu.at 0 _ _ _ rfl); have qb12c0 := blk_cell qb12e 0 (.int .i64 x0) rfl; have qb12c1 := blk_cell qb12e 1 (.int .i64 x1) rfl; clear qb12e; clear hSu; go_simp <;> with_reducible rfl
        try simp only [nbs, Act.put]
        refine rdA (i := 9) rfl (fun K hK => ?_)
        have Qc0 := (HMW.out.cell (p := ⟨bw, ow + j * 2, none⟩) HBW.out).trans Q0.out
        have Qc1 := (HMW.out.cell (p := ⟨bw, ow + j * 2 + 1, none⟩) HBW.out).trans Q1.out
        go_simp
        refine hK.out _ _ hh (fun hh => ?_)
        clear hK K Qc0 Qc1
        try simp only [nbs, Act.put]
        refine tkB (i := 11) (v := ?vk142) rfl ?hk142 ?rk142
        case hk142 => intro u hSu; go_simp <;> with_reducible rfl
        try simp only [nbs, Act.put]
        refine tkB (i := 12) (v := ?vk143) rfl ?hk143 ?rk143
        case hk143 => intro u hSu; go_simp <;> with_reducible rfl
        try simp only [nbs, Act.put]
        refine wpAnyH_done (by kernel_rfl) ?_ _
        generalize W128.drew = Wd144 at *
        go_upto_region 16 with fail
        have b12e := (HS.out.at 0 _ _ _ rfl)
        have b12c0 := blk_cell b12e 0 (.int .i64 x0) rfl
        have b12c1 := blk_cell b12e 1 (.int .i64 x1) rfl
        have b12f0 := blk_frozen b12e 0
        have b12f1 := blk_frozen b12e 1
        have b12l := blk_lt b12e
        clear b12e
        have HSA := Lib.hid ((HS.out).alloc (B := Wd144.heap.size) (T := 27) (cs := #[.int .i64 x0, .int .i64 x1]) rfl (by rfl))
        have HGA := Lib.hid ((HG.out).alloc (B := Wd144.heap.size) (T := 27) (cs := #[.int .i64 x0, .int .i64 x1]) rfl)
        obtain ⟨ii145, hi145, hz145, hs145, hy145⟩ := info_parts inf_api_Point
        have hzd145 : ∀ u ∈ (Value.agg #[.int .i64 0, .int .i64 0]).cells.toList, noDig u := by
         intro u hu
         have hu : u ∈ [.int .i64 0, .int .i64 0] := hu
         simp only [List.mem_cons, List.not_mem_nil, or_false] at hu
         rcases hu with rfl | rfl
         all_goals first | exact noDig_bool _ | exact noDig_slice _ _ _ | exact noDig_i64 _
        go_wp2_with (at_builtin; refine wpList_append_lrow _ rfl (.tmp 168) (.tmp 170) 40 rfl w.heap.size 27 ii145 _ 2 16 Try.underlying40 hi145 hz145 hs145 hy145 rfl (by decide) hzd145 _ _ _ rfl (HGA.out.row 0 _ rfl) ⟨Wd144.heap.size, 0, none⟩ 1 1 [.int .i64 x0, .int .i64 x1] rfl rfl (cells_blk (HSA.out.at 0 _ _ _ rfl)) (by simp [Value.oneCell']) (by intro u hu; simp only [List.mem_cons, List.not_mem_nil, or_false] at hu; rcases hu with rfl | rfl; all_goals first | exact noDig_bool _ | exact noDig_slice _ _ _ | exact noDig_i64 _) (by omega) (by dsimp only; unfold maxLen; omega) (by dsimp only; omega) HSA.out.bel.size ?_)
        intro g145 cap145 w145 hL145 hgr145 hat145
        have hL145' : LRow w145 w.heap.size 27 2 (.slice (some ⟨g145, 0, none⟩) (m + 1) cap145) (m + 1) (tx ++ [.int .i64 x0, .int .i64 x1]) := hL145
        clear hL145
        have hL145 := hL145'
        clear hL145'
        obtain ⟨hs145', hg145'⟩ := Sx.appendG HSA.out HGA.out 0 rfl 1 [.int .i64 x0, .int .i64 x1] [] (by intro f hf; simp at hf) hL145 hgr145 (by intro c hc; simp [Value.ownBlock] at hc; subst hc; first | exact hat145 | simpa using hat145)
        clear b12c0 b12c1 b12f0 b12f1 b12l
        clear HSA HGA
        replace HS : Hid (Sx w w145 [(Wd144.heap.size, #[.int .i64 x0, .int .i64 x1], 27), (wr101.heap.size + 1, #[.int .i64 x0, .int .i64 x1], 27), (wr101.heap.size, #[.int .i8 x0, .int .i8 x1], 42), (Br24_19, z40q16q17.arr, 32), (w22.heap.size, z22.arr, 32), (w20.heap.size, z20.arr, 32), (w18.heap.size, z18.arr, 32), (Br2_14, #[.int .i64 c0, .int .i64 c1], 27), (Br2_13, #[.int .i64 b0, .int .i64 b1], 27), (Br2_12, #[.int .i64 a0, .int .i64 a1], 27), (w.heap.size + 3, #[.int .i16 d0, .int .i16 d1], 23), (w.heap.size + 2, #[.int .i16 c0, .int .i16 c1], 23), (w.heap.size + 1, #[.int .i16 b0, .int .i16 b1], 23), (w.heap.size, #[.int .i16 a0, .int .i16 a1], 23)] []) := hs145'
        replace HG : Hid (GsG w w145 [(Wd144.heap.size, #[.int .i64 x0, .int .i64 x1], 27), (wr101.heap.size + 1, #[.int .i64 x0, .int .i64 x1], 27), (wr101.heap.size, #[.int .i8 x0, .int .i8 x1], 42), (Br24_19, z40q16q17.arr, 32), (w22.heap.size, z22.arr, 32), (w20.heap.size, z20.arr, 32), (w18.heap.size, z18.arr, 32), (Br2_14, #[.int .i64 c0, .int .i64 c1], 27), (Br2_13, #[.int .i64 b0, .int .i64 b1], 27), (Br2_12, #[.int .i64 a0, .int .i64 a1], 27), (w.heap.size + 3, #[.int .i16 d0, .int .i16 d1], 23), (w.heap.size + 2, #[.int .i16 c0, .int .i16 c1], 23), (w.heap.size + 1, #[.int .i16 b0, .int .i16 b1], 23), (w.heap.size, #[.int .i16 a0, .int .i16 a1], 23)] [⟨27, 2, (.slice (some ⟨g145, 0, none⟩) (m + 1) cap145), (m + 1), (tx ++ [.int .i64 x0, .int .i64 x1]), ([] ++ [])⟩]) := hg145'
        clear hs145' hg145' hL145 hgr145 hat145 hzd145 hi145 hz145 hs145 hy145
        go_wp2_with fail
        exact ⟨⟨i + 1, (some ⟨g145, 0, none⟩), cap145, (tx ++ [.int .i64 x0, .int .i64 x1]), (m + 1), by have := HLT.out; omega, by go_num, rfl, Lib.hid ⟨HNX.out.1.symm, HNX.out.2.symm⟩, Lib.hid ((((HS.out).erase 0).erase 0).erase 0), Lib.hid (HG.out.mono (fun b hb => ⟨b, by simp only [List.mem_cons] at hb ⊢; first | exact hb | (repeat (first | exact hb | right)), rfl⟩))⟩, meas_up HLT.out⟩
     ·
      obtain rfl : i = ps.length := by omega
      by_cases t146p : (m : Int) < 2
      ·
       have t146 : decide ((m : Int) < 2) = true := decide_eq_true t146p
       have T146 := Lib.hid t146p
       clear t146p
       go_wp2_with fail
       go_ret
       exact ⟨by rfl, HS.out.bel⟩
      ·
       have t146 : decide ((m : Int) < 2) = false := decide_eq_false t146p
       have T146 := Lib.hid t146p
       clear t146p
       have hm2 : 2 ≤ (wayTo ps ps.length).length := by rw [← HWY.out.1]; have := T146.out; omega
       have hpe : pathErr (wayTo ps ps.length) = 0 := wayTo_path HOKP.out (by have := HL20.out; omega) hm2
       have hs1 := fun W v h1 h2 => psteered_any (wayTo ps ps.length) (le : Int) v W h1 h2
       have hs2 := fun W v h1 h2 => psteered_any (wayTo ps ps.length) mx v W h1 h2
       obtain ⟨g1, g2⟩ := st_ok (m := (le : Int)) hpe (by have := HLE.out; omega)
       obtain ⟨g3, g4⟩ := st_ok (m := mx) hpe (by have := HLE.out; have := HMX.out; omega)
       rw [g1] at hs1
       rw [g3] at hs2
       have hfm := first_mono (p := narP (wayTo ps ps.length) mx) (q := narP (wayTo ps ps.length) (le : Int)) (fun i h => narP_mono HMX.out.1 HMX.out.2 h) (wayTo ps ps.length).length
       rw [← g2, ← g4] at hfm
       have HST1 : Hid (∀ W v, PairsOf W v (wayTo ps ps.length) → CapP v → Calls Try.prog 10 #[v, .int .i64 (le : Int)] W (RetTwoI (stVal (wayTo ps ps.length) (le : Int)) 0 W)) := hs1
       have HST2 : Hid (∀ W v, PairsOf W v (wayTo ps ps.length) → CapP v → Calls Try.prog 10 #[v, .int .i64 mx] W (RetTwoI (stVal (wayTo ps ps.length) mx) 0 W)) := hs2
       clear hs1 hs2 g1 g2 g3 g4 hpe hm2
       generalize stVal (wayTo ps ps.length) (le : Int) = vi at *
       generalize stVal (wayTo ps ps.length) mx = vj at *
       go_wp2_with fail
       refine (HST1.out _ _ (way_row (HG.out.row 0 _ rfl) HWY.out.1 HWY.out.2) (way_cap (HG.out.row 0 _ rfl))).mono ?_
       rintro e w147 ⟨rfl, hb147⟩
       replace HS := Lib.hid (HS.out.below hb147)
       replace HG := Lib.hid (HG.out.below hb147)
       clear hb147
       go_wp2_with fail
       refine (HST2.out _ _ (way_row (HG.out.row 0 _ rfl) HWY.out.1 HWY.out.2) (way_cap (HG.out.row 0 _ rfl))).mono ?_
       rintro e w148 ⟨rfl, hb148⟩
       replace HS := Lib.hid (HS.out.below hb148)
       replace HG := Lib.hid (HG.out.below hb148)
       clear hb148
       go_upto_region 22 with fail
       have hvv : vj = -1 ∨ (vj ≠ -1 ∧ 0 ≤ vi ∧ vi ≤ vj) := by omega
       rcases hvv with hv | ⟨hv, hv1, hv2⟩
       ·
        subst hv
        clear hfm
        go_wp2_with fail
        go_ret
        exact ⟨by rfl, HS.out.bel⟩
       ·
        have tv1 : (vj == -1) = false := beq_eq_false_iff_ne.2 hv
        have tv2 : decide (vj = -1) = false := decide_eq_false hv
        have tv3 : decide (vi ≥ 0) = true := decide_eq_true hv1
        have tv4 : decide (0 ≤ vi) = true := decide_eq_true hv1
        have tv5 : decide (vi ≤ vj) = true := decide_eq_true hv2
        clear hfm
        go_wp2_with fail
        go_ret
        exact ⟨by rfl, HS.out.bel⟩
end Go.Proofs.Ytgmpekhiohbakaa
