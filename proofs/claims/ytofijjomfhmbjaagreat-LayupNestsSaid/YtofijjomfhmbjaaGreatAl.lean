/- Part l of the lemmas and walks. -/
import Derived.Test.YtofijjomfhmbjaaGreatAk

namespace Go.Proofs.YtofijjomfhmbjaaGreat
open Go.RowKit

abbrev Bx := Nat × Array Value × Nat
def plainV : Value → Bool
 | .int .u64 _ => false
 | .int .u32 _ => false
 | _ => true
def Fr (p : Bool) (w : World) (v : Value) (q : Rat) : Prop := if p then IsRat w v q else IsR w v q
abbrev Fx := Bool × Value × Rat
structure Sx (w0 w : World) (bs : List Bx) (fs : List Fx) : Prop where
 bel : Below w0.heap.size w0 w
 box : ∀ (i : Nat) (b : Bx), bs[i]? = some b → w.heap[b.1]? = some (.cells b.2.1 b.2.2 (0, 0)) ∧ w0.heap.size ≤ b.1 ∧ b.2.1.toList.all plainV = true
 nod : (bs.map (·.1)).Nodup
 fra : ∀ (i : Nat) (f : Fx), fs[i]? = some f → Fr f.1 w f.2.1 f.2.2
theorem IsRow.set_plain {k : IntKind} {w : World} {v : Value} {ds : List Nat} {B T : Nat} {cs : Array Value} (hk : k = .u64 ∨ k = .u32) (h : IsRow k w v ds) (hB : w.heap[B]? = some (.cells cs T (0, 0))) (hn : cs.toList.all plainV = true) (j : Nat) (u : Value) :
  IsRow k (w.setCell ⟨B, j, none⟩ u) v ds := by
 rcases h with h | ⟨h0, b, off, cap, rfl, h1, h2, h3, h4⟩
 ·
  exact .inl h
 ·
  have hne : b ≠ B := by
   rintro rfl
   have := h4 0 h0
   rw [cell_of_row w b (off + 0) cs T (0, 0) hB] at this
   have hm := List.all_eq_true.1 hn _ (Array.mem_toList_iff.2 (Array.mem_of_getElem? this))
   rcases hk with rfl | rfl <;> exact absurd hm (by simp [plainV])
  refine .inr ⟨h0, b, off, cap, rfl, h1, h2, by simpa [World.setCell] using h3, fun i hi => ?_⟩
  rw [← h4 i hi]
  exact World.cell?_of_block (w := w) (heap_setCell_other w ⟨B, j, none⟩ b u hne)
theorem Fr.set {p : Bool} {w : World} {v : Value} {q : Rat} {B T : Nat} {cs : Array Value} (h : Fr p w v q) (hB : w.heap[B]? = some (.cells cs T (0, 0))) (hn : cs.toList.all plainV = true) (j : Nat) (u : Value) : Fr p (w.setCell ⟨B, j, none⟩ u) v q := by
 cases p with
 | true =>
  obtain ⟨vn, vd, rfl, h1, h2⟩ := (h : IsRat w v q)
  exact (⟨vn, vd, rfl, IsRow.set_plain (.inl rfl) h1 hB hn j u, IsRow.set_plain (.inl rfl) h2 hB hn j u⟩ : IsRat _ _ _)
 | false =>
  obtain ⟨vn, vd, d', rfl, h1, h2, h3⟩ := (h : IsR w v q)
  exact (⟨vn, vd, d', rfl, IsRow.set_plain (.inr rfl) h1 hB hn j u, IsRow.set_plain (.inr rfl) h2 hB hn j u, h3⟩ : IsR _ _ _)
theorem Fr.below {p : Bool} {w w' : World} {v : Value} {q : Rat} (h : Fr p w v q) (hb : Below w.heap.size w w') : Fr p w' v q := by
 cases p with
 | true => exact IsRat.below (h : IsRat w v q) hb
 | false => exact IsR.below (h : IsR w v q) hb
theorem Sx.init (w : World) : Sx w w [] [] := ⟨Below.refl _ _, fun i b h => by simp at h, by simp, fun i f h => by simp at h⟩
theorem Sx.p {w0 w : World} {bs : List Bx} {fs : List Fx} (h : Sx w0 w bs fs) (i : Nat) (v : Value) (q : Rat) (hi : fs[i]? = some (true, v, q)) : IsRat w v q := h.fra i _ hi
theorem Sx.q {w0 w : World} {bs : List Bx} {fs : List Fx} (h : Sx w0 w bs fs) (i : Nat) (v : Value) (q : Rat) (hi : fs[i]? = some (false, v, q)) : IsR w v q := h.fra i _ hi
theorem Sx.at {w0 w : World} {bs : List Bx} {fs : List Fx} (h : Sx w0 w bs fs) (i : Nat) (B T : Nat) (cs : Array Value) (hi : bs[i]? = some (B, cs, T)) : w.heap[B]? = some (.cells cs T (0, 0)) := (h.box i _ hi).1
theorem Sx.addQ {w0 w : World} {bs : List Bx} {fs : List Fx} (h : Sx w0 w bs fs) {v : Value} {q : Rat} (hv : IsR w v q) : Sx w0 w bs ((false, v, q) :: fs) :=
 ⟨h.bel, h.box, h.nod, fun i f hf => by
  match i, hf with
  | 0, hf => simp at hf; subst hf; exact hv
  | i + 1, hf => exact h.fra i f (by simpa using hf)⟩
theorem Sx.below {w0 w w' : World} {bs : List Bx} {fs : List Fx} (h : Sx w0 w bs fs) (hb : Below w.heap.size w w') : Sx w0 w' bs fs :=
 ⟨ext_trans h.bel hb, fun i b hi => by obtain ⟨h1, h2⟩ := h.box i b hi; exact ⟨blk_keep h1 hb (blk_lt h1), h2⟩, h.nod, fun i f hf => (h.fra i f hf).below hb⟩
theorem Sx.drew {w0 w : World} {bs : List Bx} {fs : List Fx} (h : Sx w0 w bs fs) : Sx w0 w.drew bs fs := h.below (Below.refl _ _).drew
theorem Sx.alloc {w0 w : World} {bs : List Bx} {fs : List Fx} (h : Sx w0 w bs fs) {B T : Nat} {cs : Array Value} (hB : w.heap.size = B) (hp : cs.toList.all plainV = true) : Sx w0 (w.alloc (.cells cs T)) ((B, cs, T) :: bs) fs := by
 subst hB
 have hb := (Below.refl w.heap.size w).alloc (Nat.le_refl _) (.cells cs T)
 have h' := h.below hb
 refine ⟨h'.bel, fun i b hi => ?_, ?_, h'.fra⟩
 ·
  match i, hi with
  | 0, hi =>
   simp at hi
   subst hi
   exact ⟨blk_new w cs T, h.bel.size, hp⟩
  | i + 1, hi => exact h'.box i b (by simpa using hi)
 ·
  rw [List.map_cons, List.nodup_cons]
  refine ⟨fun hm => ?_, h.nod⟩
  obtain ⟨b, hb1, hb2⟩ := List.mem_map.1 hm
  obtain ⟨i, hi⟩ := List.mem_iff_getElem?.1 hb1
  have := blk_lt (h.box i b hi).1
  omega
theorem Sx.set {w0 w : World} {bs : List Bx} {fs : List Fx} (h : Sx w0 w bs fs) (i : Nat) {B T : Nat} {cs : Array Value} (hi : bs[i]? = some (B, cs, T)) (j : Nat) {v : Value} (hv : plainV v = true) : Sx w0 (w.setCell ⟨B, j, none⟩ v) (bs.set i (B, cs.setIfInBounds j v, T)) fs := by
 obtain ⟨h1, h2, h3⟩ := h.box i _ hi
 refine ⟨h.bel.setCell (p := ⟨B, j, none⟩) h2 v, fun k b hk => ?_, ?_, fun k f hf => (h.fra k f hf).set h1 h3 j v⟩
 ·
  rw [List.getElem?_set] at hk
  by_cases hik : i = k
  ·
   subst hik
   rw [if_pos rfl] at hk
   split at hk
   ·
    injection hk with hk
    subst hk
    refine ⟨blk_set h1 j v, h2, ?_⟩
    rw [List.all_eq_true] at h3 ⊢
    intro u hu
    rw [Array.toList_setIfInBounds] at hu
    rcases List.mem_or_eq_of_mem_set hu with hu | hu
    ·
     exact h3 u hu
    ·
     rw [hu]; exact hv
   ·
    exact absurd hk (by simp)
  ·
   rw [if_neg hik] at hk
   obtain ⟨g1, g2⟩ := h.box k b hk
   have hne : b.1 ≠ B := by
    intro he
    have e1 : (bs.map (·.1))[i]? = some B := by rw [List.getElem?_map, hi]; rfl
    have e2 : (bs.map (·.1))[k]? = some B := by rw [List.getElem?_map, hk]; simp [he]
    obtain ⟨l1, _⟩ := List.getElem?_eq_some_iff.1 e1
    exact hik ((List.getElem?_inj l1 h.nod).1 (e1.trans e2.symm))
   exact ⟨(heap_setCell_other w ⟨B, j, none⟩ b.1 v hne).trans g1, g2⟩
 ·
  have e : (bs.set i (B, cs.setIfInBounds j v, T)).map (·.1) = bs.map (·.1) := by
   rw [List.map_set]
   apply List.ext_getElem?
   intro k
   rw [List.getElem?_set]
   by_cases hik : i = k
   ·
    subst hik
    have e1 : (bs.map (·.1))[i]? = some B := by rw [List.getElem?_map, hi]; rfl
    obtain ⟨l1, _⟩ := List.getElem?_eq_some_iff.1 e1
    rw [if_pos rfl, if_pos l1, e1]
   ·
    rw [if_neg hik]
  rw [e]
  exact h.nod
theorem Sx.erase {w0 w : World} {bs : List Bx} {fs : List Fx} (h : Sx w0 w bs fs) (i : Nat) : Sx w0 w (bs.eraseIdx i) [] := by
 refine ⟨h.bel, fun k b hk => ?_, ?_, fun k f hf => by simp at hf⟩
 ·
  rw [List.getElem?_eraseIdx] at hk
  split at hk
  ·
   exact h.box _ _ hk
  ·
   exact h.box _ _ hk
 ·
  exact h.nod.sublist ((List.eraseIdx_sublist _ _).map _)
theorem Sx.bare {w0 w : World} {bs : List Bx} {fs : List Fx} (h : Sx w0 w bs fs) : Sx w0 w bs [] := ⟨h.bel, h.box, h.nod, fun k f hf => by simp at hf⟩
theorem Sx.st_R {w0 w : World} {bs : List Bx} {fs : List Fx} (h : Sx w0 w bs fs) (i : Nat) (o0 : R3) (n0 : R3) {B T : Nat} (hi : bs[i]? = some (B, #[.bool o0.b, .slice o0.a o0.n o0.c, .slice o0.d o0.m o0.e], T)) :
  Sx w0 ((((w).setCell ⟨B, 0, none⟩ (.bool n0.b)).setCell ⟨B, 1, none⟩ (.slice n0.a n0.n n0.c)).setCell ⟨B, 2, none⟩ (.slice n0.d n0.m n0.e)) (bs.set i (B, #[.bool n0.b, .slice n0.a n0.n n0.c, .slice n0.d n0.m n0.e], T)) fs := by
 have hl := (List.getElem?_eq_some_iff.1 hi).1
 have g := (((h).set i hi 0 (v := .bool n0.b) rfl).set i (by rw [List.getElem?_set, if_pos rfl, if_pos (by simpa using hl)]) 1 (v := .slice n0.a n0.n n0.c) rfl).set i (by rw [List.getElem?_set, if_pos rfl, if_pos (by simpa using hl)]) 2 (v := .slice n0.d n0.m n0.e) rfl
 simpa using g
theorem Sx.ne {w0 w : World} {bs : List Bx} {fs : List Fx} (h : Sx w0 w bs fs) (i j : Nat) {B T : Nat} {cs : Array Value} {B' T' : Nat} {cs' : Array Value} (hi : bs[i]? = some (B, cs, T)) (hj : bs[j]? = some (B', cs', T')) (hij : i ≠ j) : B ≠ B' := by
 intro e
 obtain ⟨l1, e1⟩ := List.getElem?_eq_some_iff.1 hi
 obtain ⟨l2, e2⟩ := List.getElem?_eq_some_iff.1 hj
 refine hij ((List.getElem_inj (h₀ := by simpa using l1) (h₁ := by simpa using l2) h.nod).1 ?_)
 simp [e1, e2, e]
theorem nb1 {α : Type _} {xs : List α} {i : Nat} (h : i < xs.toArray.size) : xs.toArray[i] = xs[i] := List.getElem_toArray h
theorem nb2 {α : Type _} (a : α) (l : List α) (h : 0 < (a :: l).length) : (a :: l)[0] = a := List.getElem_cons_zero a l h
theorem nb3 {α : Type _} (a : α) (l : List α) (i : Nat) (h : i + 1 < (a :: l).length) : (a :: l)[i + 1] = l[i]'(by simpa using h) := List.getElem_cons_succ a l i h
theorem nb4 {α : Type _} (l : List α) (i : Nat) (a : α) : l.toArray.setIfInBounds i a = (l.set i a).toArray := List.setIfInBounds_toArray l i a
theorem nb5 {α : Type _} {x : α} {xs : List α} {a : α} : (x :: xs).set 0 a = a :: xs := List.set_cons_zero
theorem nb6 {α : Type _} {x : α} {xs : List α} {i : Nat} {a : α} : (x :: xs).set (i + 1) a = x :: xs.set i a := List.set_cons_succ
section
variable {P : Program} {ops : Array Oper} {Q : Exit → Act → World → Prop} {md : Region.Mode} {S : World → Prop}
theorem tkA {i : Nat} {oi : Oper} {v : Value} {fuel : Nat} {listed : Array Bool} {a : Act} {w : World} (hi : ops[i]? = some oi) (hy : YieldsIf P ops S oi v a) (hS : S w)
  (h : wpAnyH P md ops Q S fuel (listed.setIfInBounds i true) (a.put oi.dst v) w) (hs : Region.noSelect ops = true := by kernel_rfl) (hf : Region.free md ops listed i = true := by kernel_rfl)
  (hr : (Region.ready md ops listed).contains i = true := by kernel_rfl) (hQ : ∀ c a w, Q (.panic c) (a.put oi.dst v) w → Q (.panic c) a w := by exact fun _ _ _ h => h) : wpAnyH P md ops Q S (fuel + 1) listed a w :=
 wpAnyH_take hi hs hf hr hQ hy hS h
theorem rdA {i : Nat} {o : Oper} {fuel : Nat} {listed : Array Bool} {a : Act} {w : World} (ho : ops[i]? = some o)
  (h : ∀ K' : Act → World → Prop, Shut (∀ a w, S w → (S w → wpAnyH P md ops Q S fuel (listed.setIfInBounds i true) a w) → K' a w) → if Region.wanted o (yielded ops a.tmps) = true then Oper.wp P o a w K' Q else K' (a.put o.dst undef) w)
  (hr : Region.ready md ops listed = [i] := by kernel_rfl) : wpAnyH P md ops Q S (fuel + 1) listed a w :=
 wpAnyH_ready hr (by simp) (AllReadyH.cons ho h AllReadyH.nil)
end
end Go.Proofs.YtofijjomfhmbjaaGreat

namespace Go.Proofs.YtofijjomfhmbjaaGreat
open Go.RowKit

structure MB (w : World) (y : R3) (q : Rat) (wr : World) : Prop where
 bel : Below w.heap.size w wr
 r : wr.heap[w.heap.size]? = some (.cells r30.arr 54 (0, 0))
 m : wr.heap[w.heap.size + 1]? = some (.cells y.arr 54 (0, 0))
 v : IsRat wr y.val q
theorem MB.below {w a b : World} {y : R3} {q : Rat} (h : MB w y q a) (hb : Below a.heap.size a b) : MB w y q b := ⟨ext_trans h.bel hb, blk_keep h.r hb (blk_lt h.r), blk_keep h.m hb (blk_lt h.m), h.v.below hb⟩
theorem MB.set {w a : World} {y x : R3} {q p : Rat} (h : MB w y q a) (hx : IsRat a x.val p) : MB w x p (((a.setCell ⟨w.heap.size + 1, 0, none⟩ (.bool x.b)).setCell ⟨w.heap.size + 1, 1, none⟩ (.slice x.a x.n x.c)).setCell ⟨w.heap.size + 1, 2, none⟩ (.slice x.d x.m x.e)) :=
 ⟨below3r h.bel (by omega), blk_keep h.r (below3r (Below.refl (w.heap.size + 1) a) (Nat.le_refl _)) (by omega), set3r h.m, hx.set3r h.m⟩
end Go.Proofs.YtofijjomfhmbjaaGreat

namespace Go.Proofs.YtofijjomfhmbjaaGreat
open Go.RowKit

def fillT (t : Array Value) (ds : List Nat) (f : Nat → Value) : Array Value := ds.foldl (fun t d => t.setIfInBounds d (f d)) t
def fillA (a : Act) (ds : List Nat) (f : Nat → Value) : Act := { a with tmps := fillT a.tmps ds f }
theorem fillT_get (f : Nat → Value) (j : Nat) : ∀ (ds : List Nat) (t : Array Value), (fillT t ds f)[j]? = if j ∈ ds ∧ j < t.size then some (f j) else t[j]?
 | [], t => by simp [fillT]
 | d :: ds, t => by
  have ih := fillT_get f j ds (t.setIfInBounds d (f d))
  show (fillT (t.setIfInBounds d (f d)) ds f)[j]? = _
  rw [ih, Array.size_setIfInBounds]
  by_cases h1 : j ∈ ds ∧ j < t.size
  ·
   rw [if_pos h1, if_pos ⟨List.mem_cons_of_mem _ h1.1, h1.2⟩]
  ·
   rw [if_neg h1, Array.getElem?_setIfInBounds]
   by_cases h2 : d = j
   ·
    subst h2
    rw [if_pos rfl]
    by_cases h3 : d < t.size
    ·
     rw [if_pos h3, if_pos ⟨List.mem_cons_self, h3⟩]
    ·
     rw [if_neg h3, if_neg (fun h => h3 h.2), Array.getElem?_eq_none (by omega)]
   ·
    rw [if_neg h2, if_neg (fun h => h1 ⟨by rcases List.mem_cons.1 h.1 with h | h; exact absurd h.symm h2; exact h, h.2⟩)]
theorem fillT_size (f : Nat → Value) : ∀ (ds : List Nat) (t : Array Value), (fillT t ds f).size = t.size
 | [], t => rfl
 | d :: ds, t => by
  show (fillT (t.setIfInBounds d (f d)) ds f).size = _
  rw [fillT_size, Array.size_setIfInBounds]
theorem fillA_put {a : Act} {ds : List Nat} {f : Nat → Value} {d : Nat} {v : Value} (hd : d ∈ ds) : (fillA a ds f).put (some d) v = fillA a ds (fun e => if e = d then v else f e) := by
 have e : (fillT a.tmps ds f).setIfInBounds d v = fillT a.tmps ds (fun e => if e = d then v else f e) := by
  apply Array.ext_getElem?
  intro j
  rw [Array.getElem?_setIfInBounds, fillT_get, fillT_get, fillT_size]
  by_cases h : d = j
  ·
   subst h
   rw [if_pos rfl]
   by_cases h3 : d < a.tmps.size
   ·
    rw [if_pos h3, if_pos ⟨hd, h3⟩]; simp
   ·
    rw [if_neg h3, if_neg (fun h => h3 h.2), Array.getElem?_eq_none (by omega)]
  ·
   rw [if_neg h]
   have h' : ¬ j = d := fun e => h e.symm
   simp [h']
 unfold fillA
 show ({ a with tmps := fillT a.tmps ds f } : Act).put (some d) v = _
 unfold Act.put
 simp [e]
theorem fillA_id (a : Act) (ds : List Nat) : fillA a ds (fun d => a.tmps.getD d undef) = a := by
 unfold fillA
 have e : fillT a.tmps ds (fun d => a.tmps.getD d undef) = a.tmps := by
  apply Array.ext_getElem?
  intro j
  rw [fillT_get]
  split
  ·
   rename_i h
   rw [Array.getElem?_eq_getElem h.2, Array.getD_eq_getD_getElem?, Array.getElem?_eq_getElem h.2]
   rfl
  ·
   rfl
 rw [e]
def AllM (p : Nat → Prop) : List Nat → Prop
 | [] => True
 | i :: l => p i ∧ AllM p l
theorem AllM.at {p : Nat → Prop} {i : Nat} : ∀ {l : List Nat}, AllM p l → i ∈ l → p i
 | j :: l, h, hi => by
  rcases List.mem_cons.1 hi with rfl | hi
  ·
   exact h.1
  ·
   exact h.2.at hi
def modOk (ops : Array Oper) (l0 lM : Array Bool) (M N E : List Nat) (dst : Nat → Nat) (preds : Nat → List Nat) (ds : List Nat) : Bool :=
 l0.size == ops.size && lM.size == ops.size &&
 (List.range ops.size).all (fun i => lM.getD i true == (l0.getD i true || M.contains i)) &&
 M.all (fun i => l0.getD i true == false && (match ops[i]? with
  | some o => o.dst == some (dst i) && ds.contains (dst i) && (preds i).all (fun j => M.contains j && o.after.any (fun e => Region.binds .any e && e.on == j)) &&
    o.after.all (fun e => !Region.binds .any e || l0.getD e.on false || (M.contains e.on && Nat.blt e.on i))
  | none => false)) &&
 (List.range ops.size).all (fun i => l0.getD i true || M.contains i || (match ops[i]? with
  | some o => o.after.any (fun e => Region.binds .any e && (l0.getD e.on true == false && M.contains e.on == false)) || M.all (fun j => o.after.any (fun e => Region.binds .any e && e.on == j) || M.any (fun l => Nat.blt j l && (match ops[l]? with
    | some o' => o'.after.any (fun e => Region.binds .any e && e.on == j)
    | none => false)) || (E.contains j && (match ops[j]? with
    | some oj => oj.after.all (fun e => !Region.binds .any e || l0.getD e.on false || o.after.any (fun e' => Region.binds .any e' && e'.on == e.on))
    | none => false)))
  | none => false)) &&
 M.all (fun i => M.all (fun j => i == j || dst i != dst j)) && M.all (fun i => N.contains i || E.contains i) && Region.noSelect ops &&
 E.all (fun i => M.contains i && (match ops[i]? with
  | some oi => (List.range ops.size).all (fun j => j == i || oi.after.any (fun e => Region.binds .any e && e.on == j) || (match ops[j]? with
   | some oj => oj.after.any (fun e => Region.binds .any e && e.on == i) || oi.apart ops oj
   | none => true))
  | none => false))
section
variable {P : Program} {ops : Array Oper} {Q : Exit → Act → World → Prop}
def StepM (P : Program) (ops : Array Oper) (Q : Exit → Act → World → Prop) (a0 : Act) (ds : List Nat) (W0 : World) (PV : Nat → Value → World → Prop) (dst : Nat → Nat) (preds : Nat → List Nat) (al : List Nat) (i : Nat) : Prop :=
 ∀ o, ops[i]? = some o → ∀ f w, Below W0.heap.size W0 w → (∀ j, j ∈ preds i → PV j (f (dst j)) w) →
  ∀ K' : Act → World → Prop, Shut (∀ a' w'' v, a' = (fillA a0 ds f).put o.dst v → PV i v w'' → (i ∈ al → v = .pointer (some ⟨w.heap.size, 0, none⟩)) → Below w.heap.size w w'' → K' a' w'') →
   if Region.wanted o (yielded ops (fillA a0 ds f).tmps) = true then Oper.wp P o (fillA a0 ds f) w K' Q else K' ((fillA a0 ds f).put o.dst undef) w
theorem StepM.of {a0 : Act} {ds : List Nat} {W0 : World} {PV : Nat → Value → World → Prop} {dst : Nat → Nat} {preds : Nat → List Nat} {al : List Nat} {i : Nat} {o : Oper} (ho : ops[i]? = some o)
  (h : ∀ f w, Below W0.heap.size W0 w → (∀ j, j ∈ preds i → PV j (f (dst j)) w) →
   ∀ K' : Act → World → Prop, Shut (∀ a' w'' v, a' = (fillA a0 ds f).put o.dst v → PV i v w'' → (i ∈ al → v = .pointer (some ⟨w.heap.size, 0, none⟩)) → Below w.heap.size w w'' → K' a' w'') →
   if Region.wanted o (yielded ops (fillA a0 ds f).tmps) = true then Oper.wp P o (fillA a0 ds f) w K' Q else K' ((fillA a0 ds f).put o.dst undef) w) : StepM P ops Q a0 ds W0 PV dst preds al i :=
 fun o' ho' => by rw [ho] at ho'; cases ho'; exact h
def EagerM (P : Program) (ops : Array Oper) (a0 : Act) (ds : List Nat) (W0 : World) (PV : Nat → Value → World → Prop) (dst : Nat → Nat) (preds : Nat → List Nat) (i : Nat) : Prop :=
 ∀ o, ops[i]? = some o → ∀ f w, Below W0.heap.size W0 w → (∀ j, j ∈ preds i → PV j (f (dst j)) w) →
  ∃ v, PV i v w ∧ Region.wanted o (yielded ops (fillA a0 ds f).tmps) = true ∧ ∀ u, (execOp (fillA a0 ds f).eval o).run P u = .ok (.value v) u
theorem EagerM.of {a0 : Act} {ds : List Nat} {W0 : World} {PV : Nat → Value → World → Prop} {dst : Nat → Nat} {preds : Nat → List Nat} {i : Nat} {o : Oper} (ho : ops[i]? = some o)
  (h : ∀ f w, Below W0.heap.size W0 w → (∀ j, j ∈ preds i → PV j (f (dst j)) w) →
   ∃ v, PV i v w ∧ Region.wanted o (yielded ops (fillA a0 ds f).tmps) = true ∧ ∀ u, (execOp (fillA a0 ds f).eval o).run P u = .ok (.value v) u) : EagerM P ops a0 ds W0 PV dst preds i :=
 fun o' ho' => by rw [ho] at ho'; cases ho'; exact h
theorem wpAnyH_mod {S : World → Prop} {a0 : Act} {ds : List Nat} {l0 lM : Array Bool} {M N E : List Nat} {F : Nat} {W0 : World} {PV : Nat → Value → World → Prop} {dst : Nat → Nat} {preds : Nat → List Nat} {al : List Nat}
  (hchk : modOk ops l0 lM M N E dst preds ds = true) (hQ : ∀ c a (d : Nat) v w, Q (.panic c) (Act.put a (some d) v) w → Q (.panic c) a w)
  (hst : ∀ i v w w', Below w.heap.size w w' → PV i v w → PV i v w')
  (hal : ∀ i v w, i ∈ al → PV i v w → ∃ B, v = .pointer (some ⟨B, 0, none⟩) ∧ B < w.heap.size)
  (hS : ∀ w, Below W0.heap.size W0 w → S w)
  (hstep : AllM (StepM P ops Q a0 ds W0 PV dst preds al) N) (heag : AllM (EagerM P ops a0 ds W0 PV dst preds) E) (hEal : ∀ i, i ∈ E → i ∉ al)
  (hend : ∀ f w, Below W0.heap.size W0 w → (∀ i, i ∈ M → PV i (f (dst i)) w) → (∀ i j, i ∈ M → j ∈ M → i ∈ al → j ∈ al → i ≠ j → f (dst i) ≠ f (dst j)) → wpAnyH P .any ops Q S F lM (fillA a0 ds f) w) :
  ∀ (n : Nat) (U : List Nat) (listed : Array Bool) (f : Nat → Value) (w : World), U.length = n → listed.size = ops.size →
   (∀ i, i ∉ M → listed.getD i true = l0.getD i true) → (∀ i, i ∈ M → (listed.getD i true = false ↔ i ∈ U)) → (∀ i, i ∈ U → i ∈ M) → U.Nodup → Below W0.heap.size W0 w →
   (∀ i, i ∈ M → i ∉ U → PV i (f (dst i)) w) → (∀ i j, i ∈ M → j ∈ M → i ∉ U → j ∉ U → i ∈ al → j ∈ al → i ≠ j → f (dst i) ≠ f (dst j)) →
   (∀ i, i ∈ M → i ∉ U → ∀ o, ops[i]? = some o → ∀ e, e ∈ o.after → Region.binds .any e = true → e.on ∈ U → False) →
   wpAnyH P .any ops Q S (F + n) listed (fillA a0 ds f) w := by
 unfold modOk at hchk
 simp only [Bool.and_eq_true, beq_iff_eq, List.all_eq_true, List.mem_range] at hchk
 obtain ⟨⟨⟨⟨⟨⟨⟨⟨k1, k2⟩, k3⟩, k4⟩, k5⟩, k6⟩, k7⟩, k8⟩, k9⟩ := hchk
 intro n
 induction n with
 | zero =>
  intro U listed f w hU hsz hout hin hsub hnd hb hp hdist hdc
  obtain rfl : U = [] := List.eq_nil_of_length_eq_zero hU
  have e : listed = lM := by
   apply Array.ext (by omega)
   intro i h1 h2
   have hi : i < ops.size := by omega
   have g1 : listed.getD i true = listed[i] := by simp [Array.getD_eq_getD_getElem?, h1]
   have g2 : lM.getD i true = lM[i] := by simp [Array.getD_eq_getD_getElem?, h2]
   rw [← g1, ← g2, k3 i hi]
   by_cases hm : i ∈ M
   ·
    have := hin i hm
    have h3 : M.contains i = true := by simpa using hm
    rw [h3, Bool.or_true]
    cases h4 : listed.getD i true with
    | true => rfl
    | false => exact absurd (this.1 h4) (by simp)
   ·
    have h3 : M.contains i = false := by simpa using hm
    rw [h3, Bool.or_false, hout i hm]
  rw [e]
  exact hend f w hb (fun i hi => hp i hi (by simp)) (fun i j h1 h2 => hdist i j h1 h2 (by simp) (by simp))
 | succ n ih =>
  intro U listed f w hU hsz hout hin hsub hnd hb hp hdist hdc
  have hpre : ∀ i, i ∈ U → i ∈ Region.ready .any ops listed → ∀ o, ops[i]? = some o → ∀ j, j ∈ preds i → PV j (f (dst j)) w := by
   intro i hiU hi o ho j hj
   have hm := hsub i hiU
   have h4 := k4 i hm
   rw [ho] at h4
   simp only [Bool.and_eq_true, beq_iff_eq] at h4
   obtain ⟨_, ⟨⟨hdst, hds⟩, hpr⟩, _⟩ := h4
   rw [List.all_eq_true] at hpr
   have h6 := hpr j hj
   simp only [Bool.and_eq_true] at h6
   obtain ⟨hjM, hja⟩ := h6
   have hjM : j ∈ M := by simpa using hjM
   refine hp j hjM (fun hjU => ?_)
   obtain ⟨_, o', ho', hall⟩ := mem_ready.1 hi
   rw [ho] at ho'
   cases ho'
   rw [Array.any_eq_true'] at hja
   obtain ⟨e, he, hbe⟩ := hja
   simp only [Bool.and_eq_true, beq_iff_eq] at hbe
   have h7 := hall e he hbe.1
   rw [hbe.2] at h7
   have h8 := (hin j hjM).2 hjU
   rw [Array.getD_eq_getD_getElem?] at h7 h8
   cases hx : listed[j]? with
   | none => rw [hx] at h7; simp at h7
   | some b => rw [hx] at h7 h8; simp at h7 h8; rw [h7] at h8; cases h8
  -- behind an operation of U that was ready
  have hgo : ∀ i, i ∈ U → i ∈ Region.ready .any ops listed → ∀ o, ops[i]? = some o → ∀ w'' v, PV i v w'' → (i ∈ al → v = .pointer (some ⟨w.heap.size, 0, none⟩)) → Below w.heap.size w w'' →
    wpAnyH P .any ops Q S (F + n) (listed.setIfInBounds i true) (fillA a0 ds (fun e => if e = dst i then v else f e)) w'' := by
   intro i hiU hi o ho w'' v hv hfresh hb'
   have hm := hsub i hiU
   have hdd : ∀ j, j ∈ M → j ≠ i → dst j ≠ dst i := fun j hj hne h => by
    have := k6 j hj i hm
    simp only [Bool.or_eq_true, beq_iff_eq, bne_iff_ne] at this
    rcases this with h1 | h1
    ·
     exact hne h1
    ·
     exact h1 h
   refine ih (U.erase i) _ _ _ (by rw [List.length_erase_of_mem hiU]; omega) (by rw [Array.size_setIfInBounds]; exact hsz) (fun j hj => ?_) (fun j hj => ?_) (fun j hj => hsub j (List.mem_of_mem_erase hj)) (hnd.erase i) (hb.trans (hb'.mono hb.size)) (fun j hj hju => ?_) (fun j l hj hl hju hlu hja hla hjl => ?_) (fun j hj hju o' ho' e he hbe heU => ?_)
   ·
    have hne : i ≠ j := fun h => hj (h ▸ hm)
    rw [getD_set_ne true hne]
    exact hout j hj
   ·
    by_cases hij : i = j
    ·
     subst hij
     have hlt : i < listed.size := by rw [hsz]; exact (Array.getElem?_eq_some_iff.1 ho).1
     constructor
     ·
      intro h
      rw [Array.getD_eq_getD_getElem?, Array.getElem?_setIfInBounds] at h
      simp [hlt] at h
     ·
      intro h
      exact absurd h (List.Nodup.not_mem_erase hnd)
    ·
     rw [getD_set_ne true hij, hin j hj, List.Nodup.mem_erase_iff hnd]
     constructor
     ·
      intro h; exact ⟨fun e => hij e.symm, h⟩
     ·
      intro h; exact h.2
   ·
    by_cases hij : j = i
    ·
     subst hij
     simpa using hv
    ·
     have := hp j hj (fun h => hju ((List.Nodup.mem_erase_iff hnd).2 ⟨hij, h⟩))
     show PV j (if dst j = dst i then v else f (dst j)) w''
     rw [if_neg (hdd j hj hij)]
     exact hst j _ _ _ hb' this
   ·
    show (if dst j = dst i then v else f (dst j)) ≠ (if dst l = dst i then v else f (dst l))
    have hnew : ∀ k, k ∈ M → k ≠ i → k ∉ U.erase i → k ∈ al → i ∈ al → f (dst k) ≠ v := fun k hk hki hku hka hia => by
     have h1 := hp k hk (fun h => hku ((List.Nodup.mem_erase_iff hnd).2 ⟨hki, h⟩))
     obtain ⟨B, hB, hlt⟩ := hal k _ _ hka h1
     rw [hB, hfresh hia]
     intro h
     have h2 := congrArg (fun v => match v with | Value.pointer (some a) => a.block | _ => 0) h
     dsimp only at h2
     omega
    by_cases h1 : j = i
    ·
     subst h1
     rw [if_pos rfl, if_neg (hdd l hl (fun h => hjl h.symm))]
     exact fun h => hnew l hl (fun h => hjl h.symm) hlu hla hja h.symm
    ·
     rw [if_neg (hdd j hj h1)]
     by_cases h2 : l = i
     ·
      subst h2
      rw [if_pos rfl]
      exact hnew j hj h1 hju hja hla
     ·
      rw [if_neg (hdd l hl h2)]
      exact hdist j l hj hl (fun h => hju ((List.Nodup.mem_erase_iff hnd).2 ⟨h1, h⟩)) (fun h => hlu ((List.Nodup.mem_erase_iff hnd).2 ⟨h2, h⟩)) hja hla hjl
   ·
    have heU2 : e.on ∈ U := List.mem_of_mem_erase heU
    by_cases hij : j = i
    ·
     subst hij
     obtain ⟨_, o2, ho2, hall⟩ := mem_ready.1 hi
     rw [ho'] at ho2
     cases ho2
     have h7 := hall e he hbe
     have h8 := (hin e.on (hsub _ heU2)).2 heU2
     rw [Array.getD_eq_getD_getElem?] at h7 h8
     cases hx : listed[e.on]? with
     | none => rw [hx] at h7; simp at h7
     | some b => rw [hx] at h7 h8; simp at h7 h8; rw [h7] at h8; cases h8
    ·
     exact hdc j hj (fun h => hju ((List.Nodup.mem_erase_iff hnd).2 ⟨hij, h⟩)) o' ho' e he hbe heU2
  have hdstd : ∀ i, i ∈ M → ∀ o, ops[i]? = some o → o.dst = some (dst i) ∧ dst i ∈ ds := by
   intro i hm o ho
   have h4 := k4 i hm
   rw [ho] at h4
   simp only [Bool.and_eq_true, beq_iff_eq] at h4
   obtain ⟨_, ⟨⟨hdst, hds⟩, hpr⟩, _⟩ := h4
   exact ⟨hdst, by simpa using hds⟩
  by_cases hE : ∃ i, i ∈ E ∧ i ∈ U ∧ i ∈ Region.ready .any ops listed
  ·
   obtain ⟨i, hiE, hiU, hi⟩ := hE
   obtain ⟨_, o, ho, _⟩ := mem_ready.1 hi
   obtain ⟨hdst, hds⟩ := hdstd i (hsub i hiU) o ho
   obtain ⟨v, hv, hw, hrun⟩ := heag.at hiE o ho f w hb (hpre i hiU hi o ho)
   refine wpAnyH_first (v := v) ho (Region.noSelect_spec k8) (fun c a w h => hQ c a (dst i) v w (by rw [hdst] at h; exact h)) (F + n) listed _ w ?_ hi (.inl ⟨hw, fun u _ => hrun u⟩) (hS _ hb) ?_
   ·
    intro j oj hoj hne hun hno
    have h9 := (k9 i hiE).2
    rw [ho] at h9
    simp only [List.all_eq_true, List.mem_range] at h9
    have h10 := h9 j (Array.getElem?_eq_some_iff.1 hoj).1
    rw [hoj] at h10
    simp only [Bool.or_eq_true, beq_iff_eq, hne, false_or] at h10
    rcases h10 with h10 | h10 | h10
    ·
     exfalso
     rw [Array.any_eq_true'] at h10
     obtain ⟨e, he, hbe⟩ := h10
     simp only [Bool.and_eq_true, beq_iff_eq] at hbe
     obtain ⟨_, o2, ho2, hall⟩ := mem_ready.1 hi
     rw [ho] at ho2
     cases ho2
     have h11 := hall e he hbe.1
     rw [hbe.2] at h11
     rw [Array.getD_eq_getD_getElem?] at h11 hun
     cases hx : listed[j]? with
     | none => rw [hx] at h11; simp at h11
     | some b => rw [hx] at h11 hun; simp at h11 hun; rw [h11] at hun; cases hun
    ·
     exfalso
     rw [Array.any_eq_true'] at h10
     obtain ⟨e, he, hbe⟩ := h10
     simp only [Bool.and_eq_true, beq_iff_eq] at hbe
     exact hno e he hbe.1 hbe.2
    ·
     exact h10
   ·
    rw [hdst, fillA_put hds]
    exact hgo i hiU hi o ho w v hv (fun h => absurd h (hEal i hiE)) (Below.refl _ _)
  ·
   -- what is ready lies in U
   have hready : ∀ i, i ∈ Region.ready .any ops listed → i ∈ U := by
    intro i hi
    obtain ⟨g1, o, ho, hall⟩ := mem_ready.1 hi
    by_cases hm : i ∈ M
    ·
     exact (hin i hm).1 g1
    ·
     exfalso
     have hlt : i < ops.size := (Array.getElem?_eq_some_iff.1 ho).1
     have h5 := k5 i hlt
     rw [hout i hm] at g1
     have h3 : M.contains i = false := by simpa using hm
     rw [g1, h3, ho] at h5
     simp only [Bool.false_or] at h5
     rw [Bool.or_eq_true] at h5
     rcases h5 with h5 | h5
     ·
      rw [Array.any_eq_true'] at h5
      obtain ⟨e, he, hbe⟩ := h5
      simp only [Bool.and_eq_true, beq_iff_eq] at hbe
      obtain ⟨hb1, hb2, hb3⟩ := hbe
      have h7 := hall e he hb1
      have hem : e.on ∉ M := by simpa using hb3
      have h8 := hout e.on hem
      rw [hb2] at h8
      rw [Array.getD_eq_getD_getElem?] at h7 h8
      cases hx : listed[e.on]? with
      | none => rw [hx] at h7; simp at h7
      | some b => rw [hx] at h7 h8; simp at h7 h8; rw [h7] at h8; cases h8
     rw [List.all_eq_true] at h5
     have hne : U ≠ [] := by intro h; rw [h] at hU; simp at hU
     have hu : U.max hne ∈ U := List.max_mem hne
     have hmax : ∀ j, j ∈ U → j ≤ U.max hne := fun j hj => List.le_max_of_mem hj
     generalize U.max hne = u at hu hmax
     have h6 := h5 u (hsub u hu)
     rw [Bool.or_eq_true, Bool.or_eq_true] at h6
     rcases h6 with (h6 | h6) | h6
     ·
      rw [Array.any_eq_true'] at h6
      obtain ⟨e, he, hbe⟩ := h6
      simp only [Bool.and_eq_true, beq_iff_eq] at hbe
      have h7 := hall e he hbe.1
      rw [hbe.2] at h7
      have h8 := (hin u (hsub u hu)).2 hu
      rw [Array.getD_eq_getD_getElem?] at h7 h8
      cases hx : listed[u]? with
      | none => rw [hx] at h7; simp at h7
      | some b => rw [hx] at h7 h8; simp at h7 h8; rw [h7] at h8; cases h8
     ·
      rw [List.any_eq_true] at h6
      obtain ⟨l, hl, h6⟩ := h6
      rw [Bool.and_eq_true] at h6
      obtain ⟨h6a, h6b⟩ := h6
      have hlt2 : u < l := by simpa using h6a
      have hlu : l ∉ U := fun h => by have := hmax l h; omega
      cases hol : ops[l]? with
      | none => rw [hol] at h6b; simp at h6b
      | some o' =>
       rw [hol] at h6b
       simp only [Array.any_eq_true'] at h6b
       obtain ⟨e, he, hbe⟩ := h6b
       simp only [Bool.and_eq_true, beq_iff_eq] at hbe
       exact hdc l hl hlu o' hol e he hbe.1 (hbe.2 ▸ hu)
     ·
      rw [Bool.and_eq_true] at h6
      obtain ⟨h6a, h6b⟩ := h6
      cases hou : ops[u]? with
      | none => rw [hou] at h6b; simp at h6b
      | some ou =>
       rw [hou] at h6b
       simp only [Array.all_eq_true_iff_forall_mem] at h6b
       refine hE ⟨u, by simpa using h6a, hu, mem_ready.2 ⟨(hin u (hsub u hu)).2 hu, ou, hou, fun e he hbe => ?_⟩⟩
       have h7 := h6b e he
       rw [hbe] at h7
       simp only [Bool.not_true, Bool.false_or, Bool.or_eq_true] at h7
       rcases h7 with h7 | h7
       ·
        by_cases hem : e.on ∈ M
        ·
         exfalso
         have h9 := (k4 e.on hem).1
         rw [Array.getD_eq_getD_getElem?] at h7 h9
         cases hx : l0[e.on]? with
         | none => rw [hx] at h7; simp at h7
         | some b => rw [hx] at h7 h9; simp at h7 h9; rw [h7] at h9; cases h9
        ·
         have h13 : l0.getD e.on true = true ∧ e.on < l0.size := by
          rw [Array.getD_eq_getD_getElem?] at h7 ⊢
          cases hx : l0[e.on]? with
          | none => rw [hx] at h7; simp at h7
          | some b => rw [hx] at h7; exact ⟨by simpa using h7, (Array.getElem?_eq_some_iff.1 hx).1⟩
         have h14 := hout e.on hem
         rw [h13.1] at h14
         rw [Array.getD_eq_getD_getElem?] at h14 ⊢
         have h15 : e.on < listed.size := by omega
         rw [Array.getElem?_eq_getElem h15] at h14 ⊢
         simpa using h14
       ·
        rw [Array.any_eq_true'] at h7
        obtain ⟨e', he', hbe'⟩ := h7
        simp only [Bool.and_eq_true, beq_iff_eq] at hbe'
        have h8 := hall e' he' hbe'.1
        rw [hbe'.2] at h8
        exact h8
   -- something is ready: the least of U
   have hmin : ∃ i, i ∈ U ∧ ∀ j, j ∈ U → i ≤ j := by
    have hne : U ≠ [] := by intro h; rw [h] at hU; simp at hU
    refine ⟨U.min hne, List.min_mem hne, fun j hj => List.min_le_of_mem hj⟩
   have hsome : Region.ready .any ops listed ≠ [] := by
    obtain ⟨i, hi, hle⟩ := hmin
    have hm := hsub i hi
    have h4 := k4 i hm
    cases ho : ops[i]? with
    | none => rw [ho] at h4; simp at h4
    | some o =>
     rw [ho] at h4
     simp only [Bool.and_eq_true, beq_iff_eq] at h4
     obtain ⟨_, ⟨⟨_, _⟩, _⟩, h7⟩ := h4
     have : i ∈ Region.ready .any ops listed := by
      rw [mem_ready]
      refine ⟨(hin i hm).2 hi, o, ho, fun e he hbe => ?_⟩
      rw [Array.all_eq_true_iff_forall_mem] at h7
      have h8 := h7 e he
      rw [hbe] at h8
      simp only [Bool.not_true, Bool.false_or, Bool.or_eq_true, Bool.and_eq_true] at h8
      have hgd : listed.getD e.on true = true → listed.getD e.on false = true ∨ ops.size ≤ e.on := fun h => by
       rw [Array.getD_eq_getD_getElem?] at h ⊢
       cases hx : listed[e.on]? with
       | none => right; have := Array.getElem?_eq_none_iff.1 hx; omega
       | some b => left; rw [hx] at h; simpa using h
      by_cases hem : e.on ∈ M
      ·
       have hlt : e.on < i := by
        rcases h8 with h8 | h8
        ·
         exfalso
         have h9 := k4 e.on hem
         have h10 := h9.1
         rw [Array.getD_eq_getD_getElem?] at h8 h10
         cases hx : l0[e.on]? with
         | none => rw [hx] at h8; simp at h8
         | some b => rw [hx] at h8 h10; simp at h8 h10; rw [h8] at h10; cases h10
        ·
         simpa using h8.2
       have hnu : e.on ∉ U := fun h => by have := hle _ h; omega
       have h11 : listed.getD e.on true = true := by
        cases h12 : listed.getD e.on true with
        | true => rfl
        | false => exact absurd ((hin e.on hem).1 h12) hnu
       rcases hgd h11 with h | h
       ·
        exact h
       ·
        exfalso
        have := k4 e.on hem
        rw [Array.getElem?_eq_none h] at this
        simp at this
      ·
       rcases h8 with h8 | h8
       ·
        have h13 : l0.getD e.on true = true := by
         rw [Array.getD_eq_getD_getElem?] at h8 ⊢
         cases hx : l0[e.on]? with
         | none => rfl
         | some b => rw [hx] at h8; simpa using h8
        have h14 := hout e.on hem
        rw [h13] at h14
        rcases hgd h14 with h | h
        ·
         exact h
        ·
         exfalso
         rw [Array.getD_eq_getD_getElem?, Array.getElem?_eq_none (by omega)] at h8
         simp at h8
       ·
        exact absurd (by simpa using h8.1) hem
     intro h
     rw [h] at this
     cases this
   refine ⟨fun h => absurd h hsome, fun i hi => ?_⟩
   have hiU := hready i hi
   have hm := hsub i hiU
   obtain ⟨_, o, ho, _⟩ := mem_ready.1 hi
   obtain ⟨hdst, hds⟩ := hdstd i hm o ho
   refine wpOp_step ho (fun K' hK => ?_)
   have hiN : i ∈ N := by
    have := k7 i hm
    rw [Bool.or_eq_true] at this
    rcases this with h | h
    ·
     simpa using h
    ·
     exact absurd ⟨i, by simpa using h, hiU, hi⟩ hE
   refine hstep.at hiN o ho f w hb (hpre i hiU hi o ho) K' ?_
   intro a' w'' v ha' hv hfresh hb'
   refine hK _ _ ⟨hS _ (hb.trans (hb'.mono hb.size)), ?_⟩
   rw [ha', hdst, fillA_put hds]
   exact hgo i hiU hi o ho w'' v hv hfresh hb'
end
section
variable {P : Program} {ops : Array Oper} {Q : Exit → Act → World → Prop}
def pickV : List (Nat × (Value → World → Prop)) → Nat → Value → World → Prop
 | [], _ => fun _ _ => True
 | (j, p) :: l, i => if i = j then p else pickV l i
def StV : List (Nat × (Value → World → Prop)) → Prop
 | [] => True
 | (_, p) :: l => (∀ v w w', Below w.heap.size w w' → p v w → p v w') ∧ StV l
theorem StV.st : ∀ {l : List (Nat × (Value → World → Prop))}, StV l → ∀ i v w w', Below w.heap.size w w' → pickV l i v w → pickV l i v w'
 | [], _, _, _, _, _, _, _ => trivial
 | (j, p) :: l, h, i, v, w, w', hb, hp => by
  unfold pickV at hp ⊢
  split
  ·
   rename_i he; rw [if_pos he] at hp; exact h.1 v w w' hb hp
  ·
   rename_i he; rw [if_neg he] at hp; exact h.2.st i v w w' hb hp
def lookN : List (Nat × Nat) → Nat → Nat
 | [], _ => 0
 | (j, d) :: l, i => if i = j then d else lookN l i
def lookL : List (Nat × List Nat) → Nat → List Nat
 | [], _ => []
 | (j, d) :: l, i => if i = j then d else lookL l i
theorem wpAnyH_modular {S : World → Prop} {a : Act} {w : World} {fuel : Nat} {l0 : Array Bool} (M N E ds : List Nat) (lM : Array Bool) (F : Nat) (dst : List (Nat × Nat)) (preds : List (Nat × List Nat)) (al : List Nat) (pv : List (Nat × (Value → World → Prop)))
  (hf : fuel = F + M.length) (hchk : modOk ops l0 lM M N E (lookN dst) (lookL preds) ds = true) (hnd : M.Nodup) (hsz : l0.size = ops.size) (hst : StV pv)
  (hal : AllM (fun i => ∀ v w, pickV pv i v w → ∃ B, v = .pointer (some ⟨B, 0, none⟩) ∧ B < w.heap.size) al)
  (hS : ∀ w', Below w.heap.size w w' → S w')
  (hstep : AllM (StepM P ops Q a ds w (pickV pv) (lookN dst) (lookL preds) al) N) (heag : AllM (EagerM P ops a ds w (pickV pv) (lookN dst) (lookL preds)) E) (hEal : ∀ i, i ∈ E → i ∉ al)
  (hend : ∀ f w', Below w.heap.size w w' → (∀ i, i ∈ M → pickV pv i (f (lookN dst i)) w') → (∀ i j, i ∈ M → j ∈ M → i ∈ al → j ∈ al → i ≠ j → f (lookN dst i) ≠ f (lookN dst j)) → wpAnyH P .any ops Q S F lM (fillA a ds f) w') (hQ : ∀ c a (d : Nat) v w, Q (.panic c) (Act.put a (some d) v) w → Q (.panic c) a w := by exact fun _ _ _ _ _ h => h) :
  wpAnyH P .any ops Q S fuel l0 a w := by
 have k4 : ∀ i, i ∈ M → l0.getD i true = false := fun i hi => by
  have h := hchk
  unfold modOk at h
  simp only [Bool.and_eq_true, beq_iff_eq, List.all_eq_true] at h
  exact (h.1.1.1.1.1.2 i hi).1
 have h := wpAnyH_mod hchk hQ hst.st (fun i v w hi h => hal.at hi v w h) hS hstep heag hEal hend M.length M l0 (fun d => a.tmps.getD d undef) w rfl hsz (fun _ _ => rfl) (fun i hi => ⟨fun _ => hi, fun _ => k4 i hi⟩) (fun _ h => h) hnd (Below.refl _ _) (fun i hi hn => absurd hi hn) (fun i j hi _ hn => absurd hi hn) (fun i hi hn => absurd hi hn)
 rw [fillA_id] at h
 rw [hf]
 exact h
end
theorem Sx.addBox {w0 w : World} {bs : List Bx} {fs : List Fx} (h : Sx w0 w bs fs) {B T : Nat} {cs : Array Value} (hB : w.heap[B]? = some (.cells cs T (0, 0))) (h1 : w0.heap.size ≤ B) (hp : cs.toList.all plainV = true) (hn : ∀ b, b ∈ bs → b.1 ≠ B) : Sx w0 w ((B, cs, T) :: bs) fs := by
 refine ⟨h.bel, fun i b hi => ?_, ?_, h.fra⟩
 ·
  match i, hi with
  | 0, hi => simp at hi; subst hi; exact ⟨hB, h1, hp⟩
  | i + 1, hi => exact h.box i b (by simpa using hi)
 ·
  rw [List.map_cons, List.nodup_cons]
  refine ⟨fun hm => ?_, h.nod⟩
  obtain ⟨b, hb1, hb2⟩ := List.mem_map.1 hm
  exact hn b hb1 hb2
theorem Sx.lt {w0 w : World} {bs : List Bx} {fs : List Fx} (h : Sx w0 w bs fs) : ∀ b, b ∈ bs → b.1 < w.heap.size := fun b hb => by
 obtain ⟨i, hi⟩ := List.mem_iff_getElem?.1 hb
 exact blk_lt (h.box i b hi).1
end Go.Proofs.YtofijjomfhmbjaaGreat

namespace Go.Proofs.YtofijjomfhmbjaaGreat
open Go.RowKit

abbrev Ent := Int × Rat × Rat
def Ent7 (R : World → Value → Rat → Prop) (w : World) (b o : Nat) (e : Ent) : Prop :=
 ∃ x y : R3, w.cell? ⟨b, o, none⟩ = some (.int .i64 e.1) ∧ w.cell? ⟨b, o + 1, none⟩ = some (.bool x.b) ∧ w.cell? ⟨b, o + 2, none⟩ = some (.slice x.a x.n x.c) ∧ w.cell? ⟨b, o + 3, none⟩ = some (.slice x.d x.m x.e) ∧ w.cell? ⟨b, o + 4, none⟩ = some (.bool y.b) ∧ w.cell? ⟨b, o + 5, none⟩ = some (.slice y.a y.n y.c) ∧ w.cell? ⟨b, o + 6, none⟩ = some (.slice y.d y.m y.e) ∧ R w x.val e.2.1 ∧ R w y.val e.2.2
def TabOf (R : World → Value → Rat → Prop) (w : World) (v : Value) (es : List Ent) : Prop :=
 ∃ ao cap, v = .slice ao es.length cap ∧ (0 < es.length → ∃ b off, ao = some ⟨b, off, none⟩ ∧ b < w.heap.size ∧ ∀ i, i < es.length → Ent7 R w b (off + i * 7) (es.getD i (0, 0, 0)))
theorem Ent7.below {R : World → Value → Rat → Prop} (hR : ∀ w w' v q, R w v q → Below w.heap.size w w' → R w' v q) {w w' : World} {b o : Nat} {e : Ent} (h : Ent7 R w b o e) (hb : Below w.heap.size w w') (hl : b < w.heap.size) : Ent7 R w' b o e := by
 obtain ⟨x, y, h0, h1, h2, h3, h4, h5, h6, h7, h8⟩ := h
 have c : ∀ j v, w.cell? ⟨b, j, none⟩ = some v → w'.cell? ⟨b, j, none⟩ = some v := fun j v h => (hb.cell (p := ⟨b, j, none⟩) hl).trans h
 exact ⟨x, y, c _ _ h0, c _ _ h1, c _ _ h2, c _ _ h3, c _ _ h4, c _ _ h5, c _ _ h6, hR _ _ _ _ h7 hb, hR _ _ _ _ h8 hb⟩
theorem TabOf.below {R : World → Value → Rat → Prop} (hR : ∀ w w' v q, R w v q → Below w.heap.size w w' → R w' v q) {w w' : World} {v : Value} {es : List Ent} (h : TabOf R w v es) (hb : Below w.heap.size w w') : TabOf R w' v es := by
 obtain ⟨ao, cap, rfl, h⟩ := h
 refine ⟨ao, cap, rfl, fun hl => ?_⟩
 obtain ⟨b, off, rfl, hlt, h⟩ := h hl
 exact ⟨b, off, rfl, Nat.lt_of_lt_of_le hlt hb.size, fun i hi => (h i hi).below hR hb hlt⟩
def EntRow (R : World → Value → Rat → Prop) (w : World) (xs : List Value) (es : List Ent) : Prop :=
 xs.length = es.length * 7 ∧ ∀ j, j < es.length → ∃ x y : R3, xs[j * 7]? = some (.int .i64 (es.getD j (0, 0, 0)).1) ∧ xs[j * 7 + 1]? = some (.bool x.b) ∧ xs[j * 7 + 2]? = some (.slice x.a x.n x.c) ∧ xs[j * 7 + 3]? = some (.slice x.d x.m x.e) ∧ xs[j * 7 + 4]? = some (.bool y.b) ∧ xs[j * 7 + 5]? = some (.slice y.a y.n y.c) ∧ xs[j * 7 + 6]? = some (.slice y.d y.m y.e) ∧ R w x.val (es.getD j (0, 0, 0)).2.1 ∧ R w y.val (es.getD j (0, 0, 0)).2.2
theorem EntRow.mono {R : World → Value → Rat → Prop} {w w' : World} {xs : List Value} {es : List Ent} (h : EntRow R w xs es) (hr : ∀ v q, R w v q → R w' v q) : EntRow R w' xs es :=
 ⟨h.1, fun j hj => by obtain ⟨x, y, h0, h1, h2, h3, h4, h5, h6, h7, h8⟩ := h.2 j hj; exact ⟨x, y, h0, h1, h2, h3, h4, h5, h6, hr _ _ h7, hr _ _ h8⟩⟩
theorem EntRow.nil (R : World → Value → Rat → Prop) (w : World) : EntRow R w [] [] := ⟨rfl, fun j hj => absurd hj (by simp)⟩
theorem EntRow.snoc {R : World → Value → Rat → Prop} {w : World} {xs : List Value} {es : List Ent} (h : EntRow R w xs es) {f : Int} {x y : R3} {lo hi : Rat} (h1 : R w x.val lo) (h2 : R w y.val hi) :
  EntRow R w (xs ++ [.int .i64 f, .bool x.b, .slice x.a x.n x.c, .slice x.d x.m x.e, .bool y.b, .slice y.a y.n y.c, .slice y.d y.m y.e]) (es ++ [(f, lo, hi)]) := by
 obtain ⟨hl, h⟩ := h
 refine ⟨by simp [hl]; omega, fun j hj => ?_⟩
 rcases Nat.lt_or_ge j es.length with hj1 | hj1
 ·
  obtain ⟨x', y', g0, g1, g2, g3, g4, g5, g6, g7, g8⟩ := h j hj1
  have e : ∀ k, k < 7 → (xs ++ [.int .i64 f, .bool x.b, .slice x.a x.n x.c, .slice x.d x.m x.e, .bool y.b, .slice y.a y.n y.c, .slice y.d y.m y.e])[j * 7 + k]? = xs[j * 7 + k]? := fun k hk => List.getElem?_append_left (by omega)
  have e2 : (es ++ [(f, lo, hi)]).getD j (0, 0, 0) = es.getD j (0, 0, 0) := by simp [List.getD, List.getElem?_append_left hj1]
  rw [e2]
  exact ⟨x', y', by rw [← g0]; exact e 0 (by omega), by rw [← g1]; exact e 1 (by omega), by rw [← g2]; exact e 2 (by omega), by rw [← g3]; exact e 3 (by omega), by rw [← g4]; exact e 4 (by omega), by rw [← g5]; exact e 5 (by omega), by rw [← g6]; exact e 6 (by omega), g7, g8⟩
 ·
  obtain rfl : j = es.length := by simp at hj; omega
  have e : ∀ k, (xs ++ [.int .i64 f, .bool x.b, .slice x.a x.n x.c, .slice x.d x.m x.e, .bool y.b, .slice y.a y.n y.c, .slice y.d y.m y.e])[es.length * 7 + k]? = ([.int .i64 f, .bool x.b, .slice x.a x.n x.c, .slice x.d x.m x.e, .bool y.b, .slice y.a y.n y.c, .slice y.d y.m y.e] : List Value)[k]? := fun k => by rw [List.getElem?_append_right (by omega), hl]; congr 1; omega
  have e2 : (es ++ [(f, lo, hi)]).getD es.length (0, 0, 0) = (f, lo, hi) := by simp [List.getD]
  rw [e2]
  exact ⟨x, y, e 0, e 1, e 2, e 3, e 4, e 5, e 6, h1, h2⟩
theorem TabOf.ofRow {R : World → Value → Rat → Prop} {w : World} {base : Nat} {e : TypeId} {v : Value} {xs : List Value} {es : List Ent} (h : LRow w base e 7 v es.length xs) (ht : EntRow R w xs es) : TabOf R w v es := by
 rcases Nat.eq_zero_or_pos es.length with h0 | hp
 ·
  rcases h.1.2 with ⟨rfl, _⟩ | ⟨g, cap, cur, rfl, _⟩
  ·
   exact ⟨none, 0, by rw [h0], fun h => absurd h (by omega)⟩
  ·
   exact ⟨_, _, rfl, fun h => absurd h (by omega)⟩
 ·
  obtain ⟨g, cap, rfl⟩ := ownsRow_some h.1 hp
  have hc : ∀ j u, xs[j]? = some u → w.cell? ((⟨g, 0, none⟩ : Addr).add j) = some u := h.1.cells (g := g) rfl
  have hlt : g < w.heap.size := (h.lt rfl).1
  refine ⟨_, _, rfl, fun _ => ⟨g, 0, rfl, hlt, fun i hi => ?_⟩⟩
  obtain ⟨x, y, h0, h1, h2, h3, h4, h5, h6, h7, h8⟩ := ht.2 i hi
  have ea : ∀ j, (⟨g, 0, none⟩ : Addr).add j = ⟨g, 0 + j, none⟩ := fun j => by unfold Addr.add; split <;> simp_all
  have ec : ∀ k u, xs[i * 7 + k]? = some u → w.cell? ⟨g, 0 + i * 7 + k, none⟩ = some u := fun k u h => by rw [show 0 + i * 7 + k = 0 + (i * 7 + k) by omega, ← ea]; exact hc _ _ h
  exact ⟨x, y, ec 0 _ h0, ec 1 _ h1, ec 2 _ h2, ec 3 _ h3, ec 4 _ h4, ec 5 _ h5, ec 6 _ h6, h7, h8⟩
abbrev RawE := Int × (Int × Int) × (Int × Int)
def RawAt (w : World) (b o : Nat) (r : RawE) : Prop :=
 w.cell? ⟨b, o, none⟩ = some (.int .i64 r.1) ∧ w.cell? ⟨b, o + 1, none⟩ = some (.int .i64 r.2.1.1) ∧ w.cell? ⟨b, o + 2, none⟩ = some (.int .i64 r.2.1.2) ∧ w.cell? ⟨b, o + 3, none⟩ = some (.int .i64 r.2.2.1) ∧ w.cell? ⟨b, o + 4, none⟩ = some (.int .i64 r.2.2.2)
def RawsOf (w : World) (v : Value) (rs : List RawE) : Prop :=
 ∃ ao cap, v = .slice ao rs.length cap ∧ (0 < rs.length → ∃ b off, ao = some ⟨b, off, none⟩ ∧ b < w.heap.size ∧ ∀ i, i < rs.length → RawAt w b (off + i * 5) (rs.getD i (0, (0, 0), (0, 0))))
theorem RawAt.below {w w' : World} {b o : Nat} {r : RawE} {n : Nat} (h : RawAt w b o r) (hb : Below n w w') (hl : b < n) : RawAt w' b o r := by
 obtain ⟨h0, h1, h2, h3, h4⟩ := h
 have c : ∀ j v, w.cell? ⟨b, j, none⟩ = some v → w'.cell? ⟨b, j, none⟩ = some v := fun j v h => (hb.cell (p := ⟨b, j, none⟩) hl).trans h
 exact ⟨c _ _ h0, c _ _ h1, c _ _ h2, c _ _ h3, c _ _ h4⟩
theorem RawsOf.below {w w' : World} {v : Value} {rs : List RawE} (h : RawsOf w v rs) (hb : Below w.heap.size w w') : RawsOf w' v rs := by
 obtain ⟨ao, cap, rfl, h⟩ := h
 refine ⟨ao, cap, rfl, fun hl => ?_⟩
 obtain ⟨b, off, rfl, hlt, h⟩ := h hl
 exact ⟨b, off, rfl, Nat.lt_of_lt_of_le hlt hb.size, fun i hi => (h i hi).below hb hlt⟩
def hiE (r : RawE) : Rat := hiQ (fracQ r.2.1.1 r.2.1.2) (fracQ r.2.2.1 r.2.2.2)
end Go.Proofs.YtofijjomfhmbjaaGreat

namespace Go.Proofs.YtofijjomfhmbjaaGreat
open Go.RowKit

theorem Sx.to {w0 w W : World} {bs cs : List Bx} {fs : List Fx} (h : Sx w0 w bs fs) (e : w = W) (eb : bs = cs) : Sx w0 W cs fs := by subst e; subst eb; exact h
theorem nbs : (∀ {α : Type} {xs : List α} {i : Nat} (h : i < xs.toArray.size), xs.toArray[i] = xs[i]) ∧ (∀ {α : Type} (a : α) (l : List α) (h : 0 < (a :: l).length), (a :: l)[0] = a) ∧ (∀ {α : Type} (a : α) (l : List α) (i : Nat) (h : i + 1 < (a :: l).length), (a :: l)[i + 1] = l[i]'(by simpa using h)) ∧ (∀ {α : Type} (l : List α) (i : Nat) (a : α), l.toArray.setIfInBounds i a = (l.set i a).toArray) ∧ (∀ {α : Type} {x : α} {xs : List α} {a : α}, (x :: xs).set 0 a = a :: xs) ∧ ∀ {α : Type} {x : α} {xs : List α} {i : Nat} {a : α}, (x :: xs).set (i + 1) a = x :: xs.set i a :=
 ⟨nb1, nb2, nb3, nb4, nb5, nb6⟩
section
variable {P : Program} {ops : Array Oper} {Q : Exit → Act → World → Prop} {md : Region.Mode} {S : World → Prop}
theorem tkB {i : Nat} {oi : Oper} {v : Value} {fuel : Nat} {listed : Array Bool} {a : Act} {w : World} (hi : ops[i]? = some oi) (hy : ∀ w, S w → (execOp a.eval oi).run P w = .ok (.value v) w)
  (h : wpAnyH P md ops Q S fuel (listed.setIfInBounds i true) (a.put oi.dst v) w) (hS : S w := by assumption) (hw : Region.wanted oi (yielded ops a.tmps) = true := by first | rfl | kernel_rfl) (hs : Region.noSelect ops = true := by kernel_rfl) (hf : Region.free md ops listed i = true := by kernel_rfl)
  (hr : (Region.ready md ops listed).contains i = true := by kernel_rfl) (hQ : ∀ c a w, Q (.panic c) (a.put oi.dst v) w → Q (.panic c) a w := by exact fun _ _ _ h => h) : wpAnyH P md ops Q S (fuel + 1) listed a w :=
 tkA hi (Or.inl ⟨hw, hy⟩) hS h hs hf hr hQ
theorem tkC {i : Nat} {oi : Oper} {fuel : Nat} {listed : Array Bool} {a : Act} {w : World} (hi : ops[i]? = some oi)
  (h : wpAnyH P md ops Q S fuel (listed.setIfInBounds i true) (a.put oi.dst undef) w) (hS : S w := by assumption) (hw : Region.wanted oi (yielded ops a.tmps) = false := by first | rfl | kernel_rfl) (hs : Region.noSelect ops = true := by kernel_rfl) (hf : Region.free md ops listed i = true := by kernel_rfl)
  (hr : (Region.ready md ops listed).contains i = true := by kernel_rfl) (hQ : ∀ c a w, Q (.panic c) (a.put oi.dst undef) w → Q (.panic c) a w := by exact fun _ _ _ h => h) : wpAnyH P md ops Q S (fuel + 1) listed a w :=
 tkA (v := undef) hi (Or.inr ⟨hw, rfl⟩) hS h hs hf hr hQ
end
theorem FrcAt.r3 {w : World} {b o : Nat} {q : Rat} (h : FrcAt IsRat w b o q) : ∃ x : R3, w.cell? ⟨b, o, none⟩ = some (.bool x.b) ∧ w.cell? ⟨b, o + 1, none⟩ = some (.slice x.a x.n x.c) ∧ w.cell? ⟨b, o + 2, none⟩ = some (.slice x.d x.m x.e) ∧ IsRat w x.val q := by
 obtain ⟨v0, vn, vd, h0, h1, h2, h3⟩ := h
 obtain ⟨x, hx⟩ := h3.open3
 injection hx with hx
 injection hx with hx
 simp only [List.cons.injEq, and_true] at hx
 obtain ⟨rfl, rfl, rfl⟩ := hx
 exact ⟨x, h0, h1, h2, h3⟩
end Go.Proofs.YtofijjomfhmbjaaGreat

namespace Go.Proofs.YtofijjomfhmbjaaGreat
open Go.RowKit

set_option maxRecDepth 100000 in
set_option maxHeartbeats 4000000 in
theorem rnum_any (n : Int) (w : World) (h1 : -9223372036854775808 ≤ n) (h2 : n ≤ 9223372036854775807) : Calls Tryz.prog 43 #[.int .i64 n] w (RetR (n : Rat) w) := by
 have HS := Lib.hid (Sx.init w)
 have hwn : IntKind.i64.wrap n = n := IntWalk.i64_in _ (by omega)
 go_enter Tryz.func43, Tryz.ntmps43
 go_wp2_with fail
 generalize hW1 : (w).alloc (.cells _ _) = W1 at *
 replace HS := Lib.hid (((HS.out).alloc (B := w.heap.size) rfl (by rfl)).to hW1 (by (try simp only [nb5, nb6]); rfl))
 clear hW1
 refine (qint_any n _ h1 h2).mono ?_
 rintro e w2 ⟨v2, rfl, hv2, hb2⟩
 obtain ⟨z2, rfl⟩ := hv2.open3
 replace HS := Lib.hid (HS.out.below hb2)
 clear hb2
 replace HS := Lib.hid (HS.out.addQ hv2)
 clear hv2
 have b0e := (HS.out.at 0 _ _ _ rfl)
 have b0c0 := blk_cell b0e 0 (.bool false) rfl
 have b0c1 := blk_cell b0e 1 (.slice none 0 0) rfl
 have b0c2 := blk_cell b0e 2 (.slice none 0 0) rfl
 have b0f0 := blk_frozen b0e 0
 have b0f1 := blk_frozen b0e 1
 have b0f2 := blk_frozen b0e 2
 have b0l := blk_lt b0e
 clear b0e
 go_wp2_with fail
 clear b0c0 b0c1 b0c2 b0f0 b0f1 b0f2 b0l
 generalize hW3 : (((w2).setCell _ _).setCell _ _).setCell _ _ = W3 at *
 replace HS := Lib.hid (((HS.out).st_R 0 r30 z2 rfl).to hW3 (by (try simp only [nb5, nb6]); rfl))
 clear hW3
 obtain ⟨b0c0, b0c1, b0c2, _⟩ := fac3 (x := z2) (HS.out.at 0 _ _ _ rfl)
 refine bodyPost_ret (v := z2.val) (by simp [results, Tryz.results43, go_sem, b0c0, b0c1, b0c2]) rfl ⟨_, rfl, (HS.out.q 0 _ _ rfl), HS.out.bel⟩
set_option maxRecDepth 100000 in
set_option maxHeartbeats 4000000 in
theorem rright_any (a : Pt) (w : World) : Calls Tryz.prog 21 #[.agg #[.int .i64 a.1, .int .i64 a.2]] w (RetBool (ptOk a) w) := by
 have HS := Lib.hid (Sx.init w)
 obtain ⟨au, av⟩ := a
 have HR : Hid (ptOk (au, av) = (inL au (-4398046511104) 4398046511104 && inL av (-4398046511104) 4398046511104)) := rfl
 dsimp only
 go_enter Tryz.func21, Tryz.ntmps21
 go_wp2_with fail
 generalize hW1 : (w).alloc (.cells _ _) = W1 at *
 replace HS := Lib.hid (((HS.out).alloc (B := w.heap.size) rfl (by rfl)).to hW1 (by (try simp only [nb5, nb6]); rfl))
 clear hW1
 cases t2 : inL au (-4398046511104) 4398046511104 with
 | true =>
  refine (rwithin_any au 4398046511104 _ (by omega)).mono ?_
  rw [t2]
  rintro e w3 ⟨rfl, hb3⟩
  replace HS := Lib.hid (HS.out.below hb3)
  clear hb3
  have b0e := (HS.out.at 0 _ _ _ rfl)
  have b0c0 := blk_cell b0e 0 (.int .i64 au) rfl
  have b0c1 := blk_cell b0e 1 (.int .i64 av) rfl
  have b0f0 := blk_frozen b0e 0
  have b0f1 := blk_frozen b0e 1
  have b0l := blk_lt b0e
  clear b0e
  go_wp2_with fail
  clear b0c0 b0c1 b0f0 b0f1 b0l
  cases t4 : inL av (-4398046511104) 4398046511104 with
  | true =>
   refine (rwithin_any av 4398046511104 _ (by omega)).mono ?_
   rw [t4]
   rintro e w5 ⟨rfl, hb5⟩
   replace HS := Lib.hid (HS.out.below hb5)
   clear hb5
   go_wp2_with fail
   go_ret
   exact ⟨by rw [HR.out, t2, t4] <;> rfl, HS.out.bel⟩
  | false =>
   refine (rwithin_any av 4398046511104 _ (by omega)).mono ?_
   rw [t4]
   rintro e w6 ⟨rfl, hb6⟩
   replace HS := Lib.hid (HS.out.below hb6)
   clear hb6
   go_wp2_with fail
   go_ret
   exact ⟨by rw [HR.out, t2, t4] <;> rfl, HS.out.bel⟩
 | false =>
  refine (rwithin_any au 4398046511104 _ (by omega)).mono ?_
  rw [t2]
  rintro e w7 ⟨rfl, hb7⟩
  replace HS := Lib.hid (HS.out.below hb7)
  clear hb7
  go_wp2_with fail
  go_ret
  exact ⟨by rw [HR.out, t2] <;> rfl, HS.out.bel⟩
set_option maxRecDepth 100000 in
set_option maxHeartbeats 8000000 in
theorem rcross_any (a b c : Pt) (w : World) (ha : ptOk a = true) (hb : ptOk b = true) (hc : ptOk c = true) : Calls Tryz.prog 23 #[.agg #[.int .i64 a.1, .int .i64 a.2], .agg #[.int .i64 b.1, .int .i64 b.2], .agg #[.int .i64 c.1, .int .i64 c.2]] w (RetR ((crossI a b c : Int) : Rat) w) := by
 have HS := Lib.hid (Sx.init w)
 have HQ := Lib.hid (cross_cast a b c)
 generalize ((crossI a b c : Int) : Rat) = qr at *
 obtain ⟨⟨ra1, ra2⟩, ra3, ra4⟩ := ptOk_range ha
 unfold far at ra1 ra2 ra3 ra4
 obtain ⟨au, av⟩ := a
 try dsimp only at *
 have HNau : Hid (∀ W, Calls Tryz.prog 43 #[.int .i64 au] W (RetR ((au : Int) : Rat) W)) := fun W => rnum_any au W (by omega) (by omega)
 have Zau := Lib.hid (i64_szR au (by omega) (by omega) 1 (by omega))
 have HNav : Hid (∀ W, Calls Tryz.prog 43 #[.int .i64 av] W (RetR ((av : Int) : Rat) W)) := fun W => rnum_any av W (by omega) (by omega)
 have Zav := Lib.hid (i64_szR av (by omega) (by omega) 1 (by omega))
 obtain ⟨⟨rb1, rb2⟩, rb3, rb4⟩ := ptOk_range hb
 unfold far at rb1 rb2 rb3 rb4
 obtain ⟨bu, bv⟩ := b
 try dsimp only at *
 have HNbu : Hid (∀ W, Calls Tryz.prog 43 #[.int .i64 bu] W (RetR ((bu : Int) : Rat) W)) := fun W => rnum_any bu W (by omega) (by omega)
 have Zbu := Lib.hid (i64_szR bu (by omega) (by omega) 1 (by omega))
 have HNbv : Hid (∀ W, Calls Tryz.prog 43 #[.int .i64 bv] W (RetR ((bv : Int) : Rat) W)) := fun W => rnum_any bv W (by omega) (by omega)
 have Zbv := Lib.hid (i64_szR bv (by omega) (by omega) 1 (by omega))
 obtain ⟨⟨rc1, rc2⟩, rc3, rc4⟩ := ptOk_range hc
 unfold far at rc1 rc2 rc3 rc4
 obtain ⟨cu, cv⟩ := c
 try dsimp only at *
 have HNcu : Hid (∀ W, Calls Tryz.prog 43 #[.int .i64 cu] W (RetR ((cu : Int) : Rat) W)) := fun W => rnum_any cu W (by omega) (by omega)
 have Zcu := Lib.hid (i64_szR cu (by omega) (by omega) 1 (by omega))
 have HNcv : Hid (∀ W, Calls Tryz.prog 43 #[.int .i64 cv] W (RetR ((cv : Int) : Rat) W)) := fun W => rnum_any cv W (by omega) (by omega)
 have Zcv := Lib.hid (i64_szR cv (by omega) (by omega) 1 (by omega))
 clear ha ra1 ra2 ra3 ra4 hb rb1 rb2 rb3 rb4 hc rc1 rc2 rc3 rc4
 generalize ((au : Int) : Rat) = qau at *
 generalize ((av : Int) : Rat) = qav at *
 generalize ((bu : Int) : Rat) = qbu at *
 generalize ((bv : Int) : Rat) = qbv at *
 generalize ((cu : Int) : Rat) = qcu at *
 generalize ((cv : Int) : Rat) = qcv at *
 go_enter Tryz.func23, Tryz.ntmps23
 go_wp2_with fail
 generalize hW1 : ((((w).alloc (.cells _ _)).alloc (.cells _ _)).alloc (.cells _ _)).alloc (.cells _ _) = W1 at *
 replace HS := Lib.hid ((((((HS.out).alloc (B := w.heap.size) rfl (by rfl)).alloc (B := w.heap.size + 1) (by simp) (by rfl)).alloc (B := w.heap.size + 2) (by simp) (by rfl)).alloc (B := w.heap.size + 3) (by simp) (by rfl)).to hW1 (by (try simp only [nb5, nb6]); rfl))
 clear hW1
 refine wp_region_held_drew (S := (fun w' => Sx w w' [(w.heap.size + 3, #[.bool false, .slice none 0 0, .slice none 0 0], 70), (w.heap.size + 2, #[.int .i64 cu, .int .i64 cv], 45), (w.heap.size + 1, #[.int .i64 bu, .int .i64 bv], 45), (w.heap.size, #[.int .i64 au, .int .i64 av], 45)] [])) (by kernel_rfl) ((HS.out.drew).bare) (fun hh => ?_)
 replace HS := Lib.hid HS.out.drew
 have HSW := Lib.hid HS.out.bel.size
 refine tkB (i := 0) (v := ?vk3) rfl ?hk3 ?rk3
 case hk3 => intro u hSu; go_simp <;> with_reducible rfl
 try simp only [nbs, Act.put]
 refine tkB (i := 1) (v := ?vk4) rfl ?hk4 ?rk4
 case hk4 => intro u hSu; (try dsimp only at hSu); have qb1e := (hSu.at 2 _ _ _ rfl); have qb1c0 := blk_cell qb1e 0 (.int .i64 bu) rfl; have qb1c1 := blk_cell qb1e 1 (.int .i64 bv) rfl; clear qb1e; clear hSu; go_simp <;> with_reducible rfl
 try simp only [nbs, Act.put]
 refine tkB (i := 3) (v := ?vk5) rfl ?hk5 ?rk5
 case hk5 => intro u hSu; go_simp <;> with_reducible rfl
 try simp only [nbs, Act.put]
 refine tkB (i := 4) (v := ?vk6) rfl ?hk6 ?rk6
 case hk6 => intro u hSu; (try dsimp only at hSu); have qb0e := (hSu.at 3 _ _ _ rfl); have qb0c0 := blk_cell qb0e 0 (.int .i64 au) rfl; have qb0c1 := blk_cell qb0e 1 (.int .i64 av) rfl; clear qb0e; clear hSu; go_simp <;> with_reducible rfl
 try simp only [nbs, Act.put]
 refine tkB (i := 7) (v := ?vk7) rfl ?hk7 ?rk7
 case hk7 => intro u hSu; go_simp <;> with_reducible rfl
 try simp only [nbs, Act.put]
 refine tkB (i := 8) (v := ?vk8) rfl ?hk8 ?rk8
 case hk8 => intro u hSu; (try dsimp only at hSu); have qb2e := (hSu.at 1 _ _ _ rfl); have qb2c0 := blk_cell qb2e 0 (.int .i64 cu) rfl; have qb2c1 := blk_cell qb2e 1 (.int .i64 cv) rfl; clear qb2e; clear hSu; go_simp <;> with_reducible rfl
 try simp only [nbs, Act.put]
 refine tkB (i := 10) (v := ?vk9) rfl ?hk9 ?rk9
 case hk9 => intro u hSu; go_simp <;> with_reducible rfl
 try simp only [nbs, Act.put]
 refine tkB (i := 11) (v := ?vk10) rfl ?hk10 ?rk10
 case hk10 => intro u hSu; (try dsimp only at hSu); have qb0e := (hSu.at 3 _ _ _ rfl); have qb0c0 := blk_cell qb0e 0 (.int .i64 au) rfl; have qb0c1 := blk_cell qb0e 1 (.int .i64 av) rfl; clear qb0e; clear hSu; go_simp <;> with_reducible rfl
 try simp only [nbs, Act.put]
 refine wpAnyH_modular [2, 5, 6, 9, 12, 13, 14, 15] [2, 5, 6, 9, 12, 13, 14, 15] [] [10, 13, 14, 17, 20, 21, 22, 7] #[true, true, true, true, true, true, true, true, true, true, true, true, true, true, true, true, false] 1 [(2, 10), (5, 13), (6, 14), (9, 17), (12, 20), (13, 21), (14, 22), (15, 7)] [(2, []), (5, [2]), (6, [2, 5]), (9, [6]), (12, [9]), (13, [9, 12]), (14, [6, 13]), (15, [])] [15] [(2, fun v w => ∃ z11 : R3, v = z11.val ∧ Fr false w z11.val qbu), (5, fun v w => ∃ z12 : R3, v = z12.val ∧ Fr false w z12.val qau), (6, fun v w => ∃ z13 : R3, v = z13.val ∧ Fr false w z13.val (qbu - qau)), (9, fun v w => ∃ z14 : R3, v = z14.val ∧ Fr false w z14.val qcv), (12, fun v w => ∃ z15 : R3, v = z15.val ∧ Fr false w z15.val qav), (13, fun v w => ∃ z16 : R3, v = z16.val ∧ Fr false w z16.val (qcv - qav)), (14, fun v w => ∃ z17 : R3, v = z17.val ∧ Fr false w z17.val ((qbu - qau) * (qcv - qav))), (15, fun v w => ∃ Br2_15 : Nat, v = .pointer (some ⟨Br2_15, 0, none⟩) ∧ W1.drew.heap.size ≤ Br2_15 ∧ w.heap[Br2_15]? = some (.cells #[.bool false, .slice none 0 0, .slice none 0 0] 70 (0, 0)))]
  rfl (by kernel_rfl) (by decide) rfl ⟨(fun v w w' hb ⟨z0, e, h0⟩ => ⟨z0, e, Fr.below h0 hb⟩), ⟨(fun v w w' hb ⟨z0, e, h0⟩ => ⟨z0, e, Fr.below h0 hb⟩), ⟨(fun v w w' hb ⟨z0, e, h0⟩ => ⟨z0, e, Fr.below h0 hb⟩), ⟨(fun v w w' hb ⟨z0, e, h0⟩ => ⟨z0, e, Fr.below h0 hb⟩), ⟨(fun v w w' hb ⟨z0, e, h0⟩ => ⟨z0, e, Fr.below h0 hb⟩), ⟨(fun v w w' hb ⟨z0, e, h0⟩ => ⟨z0, e, Fr.below h0 hb⟩), ⟨(fun v w w' hb ⟨z0, e, h0⟩ => ⟨z0, e, Fr.below h0 hb⟩), ⟨(fun v w w' hb ⟨B, e, g, k⟩ => ⟨B, e, g, blk_keep k hb (blk_lt k)⟩), trivial⟩⟩⟩⟩⟩⟩⟩⟩ ⟨fun v w ⟨B, e, g, k⟩ => ⟨B, e, blk_lt k⟩, trivial⟩ (fun w' hb => Sx.below hh hb) ⟨?_, ?_, ?_, ?_, ?_, ?_, ?_, ?_, trivial⟩ trivial (by decide) ?_
 ·
  refine StepM.of rfl (fun f w' hb hp K hK => ?_)
  have HSB := HS
  replace HS := Lib.hid (HS.out.below hb)
  simp only [fillA, fillT, List.foldl_cons, List.foldl_nil, Act.put, nb4, nb5, nb6]
  go_simp
  go_wp2_with (go_at_call 43; (with_reducible refine (HNbu.out _).mono ?_); rintro e w11 ⟨v11, rfl, hv11, hb11⟩; obtain ⟨z11, rfl⟩ := hv11.open3)
  exact hK.out _ _ (z11.val) (by simp only [fillA, fillT, List.foldl_cons, List.foldl_nil, Act.put, nb4, nb5, nb6, nb1, nb2, nb3]) ⟨z11, rfl, hv11⟩ (fun h => absurd h (by decide)) hb11
 ·
  refine StepM.of rfl (fun f w' hb hp K hK => ?_)
  have HSB := HS
  replace HS := Lib.hid (HS.out.below hb)
  simp only [fillA, fillT, List.foldl_cons, List.foldl_nil, Act.put, nb4, nb5, nb6]
  go_simp
  go_wp2_with (go_at_call 43; (with_reducible refine (HNau.out _).mono ?_); rintro e w12 ⟨v12, rfl, hv12, hb12⟩; obtain ⟨z12, rfl⟩ := hv12.open3)
  exact hK.out _ _ (z12.val) (by simp only [fillA, fillT, List.foldl_cons, List.foldl_nil, Act.put, nb4, nb5, nb6, nb1, nb2, nb3]) ⟨z12, rfl, hv12⟩ (fun h => absurd h (by decide)) hb12
 ·
  refine StepM.of rfl (fun f w' hb hp K hK => ?_)
  obtain ⟨z11, e2, h2_0⟩ : ∃ z11 : R3, f 10 = z11.val ∧ Fr false w' z11.val qbu := hp 2 (by decide)
  obtain ⟨z12, e5, h5_0⟩ : ∃ z12 : R3, f 13 = z12.val ∧ Fr false w' z12.val qau := hp 5 (by decide)
  have HSB := HS
  replace HS := Lib.hid (HS.out.below hb)
  replace HS := Lib.hid (HS.out.addQ h2_0)
  replace HS := Lib.hid (HS.out.addQ h5_0)
  simp only [fillA, fillT, List.foldl_cons, List.foldl_nil, Act.put, nb4, nb5, nb6, e2, e5]
  have a18 := HS.out.q 1 _ _ rfl
  have a19 := HS.out.q 0 _ _ rfl
  go_simp
  go_wp2_with (go_at_call 42; (with_reducible refine (qsub_any qbu qau _ _ _ a18 a19 (szQ_mono (szQ_of Zbu.out) (by omega)) (szQ_mono (szQ_of Zau.out) (by omega))).mono ?_); rintro e w13 ⟨v13, rfl, hv13, hb13⟩; obtain ⟨z13, rfl⟩ := hv13.open3)
  exact hK.out _ _ (z13.val) (by simp only [fillA, fillT, List.foldl_cons, List.foldl_nil, Act.put, nb4, nb5, nb6, nb1, nb2, nb3, e2, e5]) ⟨z13, rfl, hv13⟩ (fun h => absurd h (by decide)) hb13
 ·
  refine StepM.of rfl (fun f w' hb hp K hK => ?_)
  have HSB := HS
  replace HS := Lib.hid (HS.out.below hb)
  simp only [fillA, fillT, List.foldl_cons, List.foldl_nil, Act.put, nb4, nb5, nb6]
  go_simp
  go_wp2_with (go_at_call 43; (with_reducible refine (HNcv.out _).mono ?_); rintro e w14 ⟨v14, rfl, hv14, hb14⟩; obtain ⟨z14, rfl⟩ := hv14.open3)
  exact hK.out _ _ (z14.val) (by simp only [fillA, fillT, List.foldl_cons, List.foldl_nil, Act.put, nb4, nb5, nb6, nb1, nb2, nb3]) ⟨z14, rfl, hv14⟩ (fun h => absurd h (by decide)) hb14
 ·
  refine StepM.of rfl (fun f w' hb hp K hK => ?_)
  have HSB := HS
  replace HS := Lib.hid (HS.out.below hb)
  simp only [fillA, fillT, List.foldl_cons, List.foldl_nil, Act.put, nb4, nb5, nb6]
  go_simp
  go_wp2_with (go_at_call 43; (with_reducible refine (HNav.out _).mono ?_); rintro e w15 ⟨v15, rfl, hv15, hb15⟩; obtain ⟨z15, rfl⟩ := hv15.open3)
  exact hK.out _ _ (z15.val) (by simp only [fillA, fillT, List.foldl_cons, List.foldl_nil, Act.put, nb4, nb5, nb6, nb1, nb2, nb3]) ⟨z15, rfl, hv15⟩ (fun h => absurd h (by decide)) hb15
 ·
  refine StepM.of rfl (fun f w' hb hp K hK => ?_)
  obtain ⟨z14, e9, h9_0⟩ : ∃ z14 : R3, f 17 = z14.val ∧ Fr false w' z14.val qcv := hp 9 (by decide)
  obtain ⟨z15, e12, h12_0⟩ : ∃ z15 : R3, f 20 = z15.val ∧ Fr false w' z15.val qav := hp 12 (by decide)
  have HSB := HS
  replace HS := Lib.hid (HS.out.below hb)
  replace HS := Lib.hid (HS.out.addQ h9_0)
  replace HS := Lib.hid (HS.out.addQ h12_0)
  simp only [fillA, fillT, List.foldl_cons, List.foldl_nil, Act.put, nb4, nb5, nb6, e9, e12]
  have a20 := HS.out.q 1 _ _ rfl
  have a21 := HS.out.q 0 _ _ rfl
  go_simp
  go_wp2_with (go_at_call 42; (with_reducible refine (qsub_any qcv qav _ _ _ a20 a21 (szQ_mono (szQ_of Zcv.out) (by omega)) (szQ_mono (szQ_of Zav.out) (by omega))).mono ?_); rintro e w16 ⟨v16, rfl, hv16, hb16⟩; obtain ⟨z16, rfl⟩ := hv16.open3)
  exact hK.out _ _ (z16.val) (by simp only [fillA, fillT, List.foldl_cons, List.foldl_nil, Act.put, nb4, nb5, nb6, nb1, nb2, nb3, e9, e12]) ⟨z16, rfl, hv16⟩ (fun h => absurd h (by decide)) hb16
 ·
  refine StepM.of rfl (fun f w' hb hp K hK => ?_)
  obtain ⟨z13, e6, h6_0⟩ : ∃ z13 : R3, f 14 = z13.val ∧ Fr false w' z13.val (qbu - qau) := hp 6 (by decide)
  obtain ⟨z16, e13, h13_0⟩ : ∃ z16 : R3, f 21 = z16.val ∧ Fr false w' z16.val (qcv - qav) := hp 13 (by decide)
  have HSB := HS
  replace HS := Lib.hid (HS.out.below hb)
  replace HS := Lib.hid (HS.out.addQ h6_0)
  replace HS := Lib.hid (HS.out.addQ h13_0)
  simp only [fillA, fillT, List.foldl_cons, List.foldl_nil, Act.put, nb4, nb5, nb6, e6, e13]
  have a22 := HS.out.q 1 _ _ rfl
  have a23 := HS.out.q 0 _ _ rfl
  go_simp
  go_wp2_with (go_at_call 41; (with_reducible refine (qmul_any (qbu - qau) (qcv - qav) _ _ _ a22 a23 (szQ_mono (szQ_of (szR_sub Zbu.out Zau.out)) (by omega)) (szQ_mono (szQ_of (szR_sub Zcv.out Zav.out)) (by omega))).mono ?_); rintro e w17 ⟨v17, rfl, hv17, hb17⟩; obtain ⟨z17, rfl⟩ := hv17.open3)
  exact hK.out _ _ (z17.val) (by simp only [fillA, fillT, List.foldl_cons, List.foldl_nil, Act.put, nb4, nb5, nb6, nb1, nb2, nb3, e6, e13]) ⟨z17, rfl, hv17⟩ (fun h => absurd h (by decide)) hb17
 ·
  refine StepM.of rfl (fun f w' hb hp K hK => ?_)
  have HSB := HS
  replace HS := Lib.hid (HS.out.below hb)
  simp only [fillA, fillT, List.foldl_cons, List.foldl_nil, Act.put, nb4, nb5, nb6]
  go_simp
  exact hK.out _ _ (.pointer (some ⟨w'.heap.size, 0, none⟩)) (by simp only [fillA, fillT, List.foldl_cons, List.foldl_nil, Act.put, nb4, nb5, nb6, nb1, nb2, nb3]) ⟨_, rfl, hb.size, blk_new _ _ _⟩ (fun _ => rfl) (below1 w' _)
 ·
  intro f wr2 hb hp hd
  obtain ⟨z11, e2, h2_0⟩ : ∃ z11 : R3, f 10 = z11.val ∧ Fr false wr2 z11.val qbu := hp 2 (by decide)
  obtain ⟨z12, e5, h5_0⟩ : ∃ z12 : R3, f 13 = z12.val ∧ Fr false wr2 z12.val qau := hp 5 (by decide)
  obtain ⟨z13, e6, h6_0⟩ : ∃ z13 : R3, f 14 = z13.val ∧ Fr false wr2 z13.val (qbu - qau) := hp 6 (by decide)
  obtain ⟨z14, e9, h9_0⟩ : ∃ z14 : R3, f 17 = z14.val ∧ Fr false wr2 z14.val qcv := hp 9 (by decide)
  obtain ⟨z15, e12, h12_0⟩ : ∃ z15 : R3, f 20 = z15.val ∧ Fr false wr2 z15.val qav := hp 12 (by decide)
  obtain ⟨z16, e13, h13_0⟩ : ∃ z16 : R3, f 21 = z16.val ∧ Fr false wr2 z16.val (qcv - qav) := hp 13 (by decide)
  obtain ⟨z17, e14, h14_0⟩ : ∃ z17 : R3, f 22 = z17.val ∧ Fr false wr2 z17.val ((qbu - qau) * (qcv - qav)) := hp 14 (by decide)
  obtain ⟨Br2_15, e15, g15, k15⟩ : ∃ Br2_15 : Nat, f 7 = .pointer (some ⟨Br2_15, 0, none⟩) ∧ W1.drew.heap.size ≤ Br2_15 ∧ wr2.heap[Br2_15]? = some (.cells #[.bool false, .slice none 0 0, .slice none 0 0] 70 (0, 0)) := hp 15 (by decide)
  replace hh := Sx.below hh hb
  have hlt := HS.out.lt
  replace HS := Lib.hid (HS.out.below hb)
  replace HS := Lib.hid (HS.out.addQ h2_0)
  replace HS := Lib.hid (HS.out.addQ h5_0)
  replace HS := Lib.hid (HS.out.addQ h6_0)
  replace HS := Lib.hid (HS.out.addQ h9_0)
  replace HS := Lib.hid (HS.out.addQ h12_0)
  replace HS := Lib.hid (HS.out.addQ h13_0)
  replace HS := Lib.hid (HS.out.addQ h14_0)
  have hge15 : w.heap.size ≤ Br2_15 := Nat.le_trans HSW.out g15
  have hne15 : ∀ b, b ∈ ([(w.heap.size + 3, #[.bool false, .slice none 0 0, .slice none 0 0], 70), (w.heap.size + 2, #[.int .i64 cu, .int .i64 cv], 45), (w.heap.size + 1, #[.int .i64 bu, .int .i64 bv], 45), (w.heap.size, #[.int .i64 au, .int .i64 av], 45)] : List Bx) → b.1 ≠ Br2_15 := by
   intro b hb
   simp only [List.mem_cons, List.not_mem_nil, or_false] at hb
   rcases hb with rfl | rfl | rfl | rfl
   ·
    have := hlt _ (List.mem_iff_getElem?.2 ⟨0, rfl⟩); dsimp only at this ⊢; omega
   ·
    have := hlt _ (List.mem_iff_getElem?.2 ⟨1, rfl⟩); dsimp only at this ⊢; omega
   ·
    have := hlt _ (List.mem_iff_getElem?.2 ⟨2, rfl⟩); dsimp only at this ⊢; omega
   ·
    have := hlt _ (List.mem_iff_getElem?.2 ⟨3, rfl⟩); dsimp only at this ⊢; omega
  replace HS := Lib.hid (HS.out.addBox k15 hge15 (by rfl) hne15)
  simp only [fillA, fillT, List.foldl_cons, List.foldl_nil, Act.put, nb4, nb5, nb6, e2, e5, e6, e9, e12, e13, e14, e15]
  clear hp hd hb hlt e2 e5 e6 e9 e12 e13 e14 e15
  refine rdA (i := 16) rfl (fun K hK => ?_)
  have b4e := (HS.out.at 0 _ _ _ rfl)
  have b4c0 := blk_cell b4e 0 (.bool false) rfl
  have b4c1 := blk_cell b4e 1 (.slice none 0 0) rfl
  have b4c2 := blk_cell b4e 2 (.slice none 0 0) rfl
  have b4f0 := blk_frozen b4e 0
  have b4f1 := blk_frozen b4e 1
  have b4f2 := blk_frozen b4e 2
  have b4l := blk_lt b4e
  clear b4e
  go_simp
  refine hK.out _ _ ((((HS.out).st_R 0 r30 z17 rfl)).erase 0) (fun hh => ?_)
  clear hK K b4c0 b4c1 b4c2 b4f0 b4f1 b4f2 b4l
  try simp only [nbs, Act.put]
  generalize hW24 : (((wr2).setCell _ _).setCell _ _).setCell _ _ = W24 at *
  replace HS := Lib.hid (((HS.out).st_R 0 r30 z17 rfl).to hW24 (by (try simp only [nb5, nb6]); rfl))
  clear hW24
  refine wpAnyH_done (by kernel_rfl) ?_ _
  go_wp2_with fail
  refine wp_region_held_drew (S := (fun w' => Sx w w' [(Br2_15, z17.arr, 70), (w.heap.size + 2, #[.int .i64 cu, .int .i64 cv], 45), (w.heap.size + 1, #[.int .i64 bu, .int .i64 bv], 45), (w.heap.size, #[.int .i64 au, .int .i64 av], 45)] [])) (by kernel_rfl) ((HS.out.drew).erase 1) (fun hh => ?_)
  replace HS := Lib.hid HS.out.drew
  refine tkB (i := 0) (v := ?vk26) rfl ?hk26 ?rk26
  case hk26 => intro u hSu; (try dsimp only at hSu); obtain ⟨qb4c0, qb4c1, qb4c2, _⟩ := fac3 (x := z17) (hSu.at 0 _ _ _ rfl); clear hSu; go_simp <;> with_reducible rfl
  try simp only [nbs, Act.put]
  refine tkB (i := 1) (v := ?vk27) rfl ?hk27 ?rk27
  case hk27 => intro u hSu; go_simp <;> with_reducible rfl
  try simp only [nbs, Act.put]
  refine tkB (i := 2) (v := ?vk28) rfl ?hk28 ?rk28
  case hk28 => intro u hSu; (try dsimp only at hSu); have qb1e := (hSu.at 2 _ _ _ rfl); have qb1c0 := blk_cell qb1e 0 (.int .i64 bu) rfl; have qb1c1 := blk_cell qb1e 1 (.int .i64 bv) rfl; clear qb1e; clear hSu; go_simp <;> with_reducible rfl
  try simp only [nbs, Act.put]
  refine tkB (i := 4) (v := ?vk29) rfl ?hk29 ?rk29
  case hk29 => intro u hSu; go_simp <;> with_reducible rfl
  try simp only [nbs, Act.put]
  refine tkB (i := 5) (v := ?vk30) rfl ?hk30 ?rk30
  case hk30 => intro u hSu; (try dsimp only at hSu); have qb0e := (hSu.at 3 _ _ _ rfl); have qb0c0 := blk_cell qb0e 0 (.int .i64 au) rfl; have qb0c1 := blk_cell qb0e 1 (.int .i64 av) rfl; clear qb0e; clear hSu; go_simp <;> with_reducible rfl
  try simp only [nbs, Act.put]
  refine tkB (i := 8) (v := ?vk31) rfl ?hk31 ?rk31
  case hk31 => intro u hSu; go_simp <;> with_reducible rfl
  try simp only [nbs, Act.put]
  refine tkB (i := 9) (v := ?vk32) rfl ?hk32 ?rk32
  case hk32 => intro u hSu; (try dsimp only at hSu); have qb2e := (hSu.at 1 _ _ _ rfl); have qb2c0 := blk_cell qb2e 0 (.int .i64 cu) rfl; have qb2c1 := blk_cell qb2e 1 (.int .i64 cv) rfl; clear qb2e; clear hSu; go_simp <;> with_reducible rfl
  try simp only [nbs, Act.put]
  refine tkB (i := 11) (v := ?vk33) rfl ?hk33 ?rk33
  case hk33 => intro u hSu; go_simp <;> with_reducible rfl
  try simp only [nbs, Act.put]
  refine tkB (i := 12) (v := ?vk34) rfl ?hk34 ?rk34
  case hk34 => intro u hSu; (try dsimp only at hSu); have qb0e := (hSu.at 3 _ _ _ rfl); have qb0c0 := blk_cell qb0e 0 (.int .i64 au) rfl; have qb0c1 := blk_cell qb0e 1 (.int .i64 av) rfl; clear qb0e; clear hSu; go_simp <;> with_reducible rfl
  try simp only [nbs, Act.put]
  refine rdA (i := 3) rfl (fun K hK => ?_)
  go_simp
  go_wp2_with (go_at_call 43; (with_reducible refine (HNbv.out _).mono ?_); rintro e w35 ⟨v35, rfl, hv35, hb35⟩; obtain ⟨z35, rfl⟩ := hv35.open3)
  refine hK.out _ _ (Sx.below hh hb35) (fun hh => ?_)
  clear hK K
  try simp only [nbs, Act.put]
  replace HS := Lib.hid (HS.out.below hb35)
  clear hb35
  replace HS := Lib.hid (HS.out.addQ hv35)
  clear hv35
  refine rdA (i := 6) rfl (fun K hK => ?_)
  go_simp
  go_wp2_with (go_at_call 43; (with_reducible refine (HNav.out _).mono ?_); rintro e w36 ⟨v36, rfl, hv36, hb36⟩; obtain ⟨z36, rfl⟩ := hv36.open3)
  refine hK.out _ _ (Sx.below hh hb36) (fun hh => ?_)
  clear hK K
  try simp only [nbs, Act.put]
  replace HS := Lib.hid (HS.out.below hb36)
  clear hb36
  replace HS := Lib.hid (HS.out.addQ hv36)
  clear hv36
  refine rdA (i := 7) rfl (fun K hK => ?_)
  go_simp
  have a38 := HS.out.q 1 _ _ rfl
  have a39 := HS.out.q 0 _ _ rfl
  go_wp2_with (go_at_call 42; (with_reducible refine (qsub_any qbv qav _ _ _ a38 a39 (szQ_mono (szQ_of Zbv.out) (by omega)) (szQ_mono (szQ_of Zav.out) (by omega))).mono ?_); rintro e w37 ⟨v37, rfl, hv37, hb37⟩; obtain ⟨z37, rfl⟩ := hv37.open3)
  refine hK.out _ _ (Sx.below hh hb37) (fun hh => ?_)
  clear hK K
  try simp only [nbs, Act.put]
  replace HS := Lib.hid (HS.out.below hb37)
  clear hb37 a38 a39
  replace HS := Lib.hid (HS.out.addQ hv37)
  clear hv37
  refine rdA (i := 10) rfl (fun K hK => ?_)
  go_simp
  go_wp2_with (go_at_call 43; (with_reducible refine (HNcu.out _).mono ?_); rintro e w40 ⟨v40, rfl, hv40, hb40⟩; obtain ⟨z40, rfl⟩ := hv40.open3)
  refine hK.out _ _ (Sx.below hh hb40) (fun hh => ?_)
  clear hK K
  try simp only [nbs, Act.put]
  replace HS := Lib.hid (HS.out.below hb40)
  clear hb40
  replace HS := Lib.hid (HS.out.addQ hv40)
  clear hv40
  refine rdA (i := 13) rfl (fun K hK => ?_)
  go_simp
  go_wp2_with (go_at_call 43; (with_reducible refine (HNau.out _).mono ?_); rintro e w41 ⟨v41, rfl, hv41, hb41⟩; obtain ⟨z41, rfl⟩ := hv41.open3)
  refine hK.out _ _ (Sx.below hh hb41) (fun hh => ?_)
  clear hK K
  try simp only [nbs, Act.put]
  replace HS := Lib.hid (HS.out.below hb41)
  clear hb41
  replace HS := Lib.hid (HS.out.addQ hv41)
  clear hv41
  refine rdA (i := 14) rfl (fun K hK => ?_)
  go_simp
  have a43 := HS.out.q 1 _ _ rfl
  have a44 := HS.out.q 0 _ _ rfl
  go_wp2_with (go_at_call 42; (with_reducible refine (qsub_any qcu qau _ _ _ a43 a44 (szQ_mono (szQ_of Zcu.out) (by omega)) (szQ_mono (szQ_of Zau.out) (by omega))).mono ?_); rintro e w42 ⟨v42, rfl, hv42, hb42⟩; obtain ⟨z42, rfl⟩ := hv42.open3)
  refine hK.out _ _ (Sx.below hh hb42) (fun hh => ?_)
  clear hK K
  try simp only [nbs, Act.put]
  replace HS := Lib.hid (HS.out.below hb42)
  clear hb42 a43 a44
  replace HS := Lib.hid (HS.out.addQ hv42)
  clear hv42
  refine rdA (i := 15) rfl (fun K hK => ?_)
  go_simp
  have a46 := HS.out.q 3 _ _ rfl
  have a47 := HS.out.q 0 _ _ rfl
  go_wp2_with (go_at_call 41; (with_reducible refine (qmul_any (qbv - qav) (qcu - qau) _ _ _ a46 a47 (szQ_mono (szQ_of (szR_sub Zbv.out Zav.out)) (by omega)) (szQ_mono (szQ_of (szR_sub Zcu.out Zau.out)) (by omega))).mono ?_); rintro e w45 ⟨v45, rfl, hv45, hb45⟩; obtain ⟨z45, rfl⟩ := hv45.open3)
  refine hK.out _ _ (Sx.below hh hb45) (fun hh => ?_)
  clear hK K
  try simp only [nbs, Act.put]
  replace HS := Lib.hid (HS.out.below hb45)
  clear hb45 a46 a47
  replace HS := Lib.hid (HS.out.addQ hv45)
  clear hv45
  refine rdA (i := 16) rfl (fun K hK => ?_)
  go_simp
  have a49 := HS.out.q 7 _ _ rfl
  have a50 := HS.out.q 0 _ _ rfl
  go_wp2_with (go_at_call 42; (with_reducible refine (qsub_any ((qbu - qau) * (qcv - qav)) ((qbv - qav) * (qcu - qau)) _ _ _ a49 a50 (szQ_mono (szQ_of (szR_mul (szR_sub Zbu.out Zau.out) (szR_sub Zcv.out Zav.out))) (by omega)) (szQ_mono (szQ_of (szR_mul (szR_sub Zbv.out Zav.out) (szR_sub Zcu.out Zau.out))) (by omega))).mono ?_); rintro e w48 ⟨v48, rfl, hv48, hb48⟩; obtain ⟨z48, rfl⟩ := hv48.open3)
  refine hK.out _ _ (Sx.below hh hb48) (fun hh => ?_)
  clear hK K
  try simp only [nbs, Act.put]
  replace HS := Lib.hid (HS.out.below hb48)
  clear hb48 a49 a50
  replace HS := Lib.hid (HS.out.addQ hv48)
  clear hv48
  refine rdA (i := 17) rfl (fun K hK => ?_)
  have b3e := (HS.out.at 1 _ _ _ rfl)
  have b3c0 := blk_cell b3e 0 (.bool false) rfl
  have b3c1 := blk_cell b3e 1 (.slice none 0 0) rfl
  have b3c2 := blk_cell b3e 2 (.slice none 0 0) rfl
  have b3f0 := blk_frozen b3e 0
  have b3f1 := blk_frozen b3e 1
  have b3f2 := blk_frozen b3e 2
  have b3l := blk_lt b3e
  clear b3e
  go_simp
  refine hK.out _ _ ((((HS.out).st_R 1 r30 z48 rfl)).erase 1) (fun hh => ?_)
  clear hK K b3c0 b3c1 b3c2 b3f0 b3f1 b3f2 b3l
  try simp only [nbs, Act.put]
  generalize hW51 : (((w48).setCell _ _).setCell _ _).setCell _ _ = W51 at *
  replace HS := Lib.hid (((HS.out).st_R 1 r30 z48 rfl).to hW51 (by (try simp only [nb5, nb6]); rfl))
  clear hW51
  refine wpAnyH_done (by kernel_rfl) ?_ _
  obtain ⟨b3c0, b3c1, b3c2, b3f0, b3f1, b3f2⟩ := fac3 (x := z48) (HS.out.at 1 _ _ _ rfl)
  have b3l := blk_lt (HS.out.at 1 _ _ _ rfl)
  go_wp2_with fail
  clear b3c0 b3c1 b3c2 b3f0 b3f1 b3f2 b3l
  obtain ⟨b3c0, b3c1, b3c2, _⟩ := fac3 (x := z48) (HS.out.at 1 _ _ _ rfl)
  refine bodyPost_ret (v := z48.val) (by simp [results, Tryz.results23, go_sem, b3c0, b3c1, b3c2]) rfl ⟨_, rfl, by rw [← HQ.out]; exact (HS.out.q 0 _ _ rfl), HS.out.bel⟩
end Go.Proofs.YtofijjomfhmbjaaGreat

namespace Go.Proofs.YtofijjomfhmbjaaGreat
open Go.RowKit

theorem qsignB_any (z : Int) (v : Value) (w : World) (h : IsR w v (z : Rat)) : Calls Tryz.prog 22 #[v] w (RetInt (sgI z) w) := by
 obtain ⟨d', a1, c1, a2, c2, rfl, _⟩ := h.opened
 rw [← sgnI_int]
 exact qsign_any _ _ _ _ _ _ _ _ (fun hb => by have := of_decide_eq_true hb; omega)

/-! ### Outline: triples i < j < k, i first -/
def OkA (l : List Pt) (i : Nat) : Prop := ∀ i', i' < i → ∀ j, i' < j → ∀ k, j < k → k < l.length → 0 < crossI (ptAt l i') (ptAt l j) (ptAt l k)
def OkB (l : List Pt) (i j : Nat) : Prop := ∀ j', i < j' → j' < j → ∀ k, j' < k → k < l.length → 0 < crossI (ptAt l i) (ptAt l j') (ptAt l k)
def OkC (l : List Pt) (i j k : Nat) : Prop := ∀ k', j < k' → k' < k → 0 < crossI (ptAt l i) (ptAt l j) (ptAt l k')
theorem OkC.step {l : List Pt} {i j k : Nat} (h : OkC l i j k) (h1 : 0 < crossI (ptAt l i) (ptAt l j) (ptAt l k)) : OkC l i j (k + 1) := fun k' h2 h3 => by
 rcases Nat.lt_or_ge k' k with c | c
 ·
  exact h k' h2 c
 ·
  obtain rfl : k' = k := by omega
  exact h1
theorem OkB.step {l : List Pt} {i j : Nat} (h : OkB l i j) (h1 : OkC l i j l.length) : OkB l i (j + 1) := fun j' h2 h3 => by
 rcases Nat.lt_or_ge j' j with c | c
 ·
  exact h j' h2 c
 ·
  obtain rfl : j' = j := by omega
  exact h1
theorem OkA.step {l : List Pt} {i : Nat} (h : OkA l i) (h1 : OkB l i l.length) : OkA l (i + 1) := fun i' h2 j h3 k h4 h5 => by
 rcases Nat.lt_or_ge i' i with c | c
 ·
  exact h i' c j h3 k h4 h5
 ·
  obtain rfl : i' = i := by omega
  exact h1 j h3 (by omega) k h4 h5
theorem OkA.round {l : List Pt} (h : OkA l l.length) : Round3 l := fun k hk j hj i hi => h i (by omega) j hi k hj hk

set_option maxRecDepth 100000 in
set_option maxHeartbeats 8000000 in
theorem qoutline_any (l : List Pt) (v : Value) (w : World) (h : PairsOf w v l) : Calls Tryz.prog 6 #[v] w (RetInt (outErr l) w) := by
 obtain ⟨ao, cap, rfl, hE⟩ := h
 have HE := Lib.hid hE
 clear hE
 by_cases c1 : l.length < 3
 ·
  have Hr := Lib.hid (outErr_size l (.inl c1))
  have t1 : decide ((l.length : Int) < 3) = true := by simp; omega
  clear c1
  go_enter Tryz.func6, Tryz.ntmps6
  go_wp2_with fail
  go_ret
  exact ⟨by rw [Hr.out]; rfl, Below.refl _ _⟩
 ·
  have t1 : decide ((l.length : Int) < 3) = false := by simp; omega
  by_cases c2 : 16 < l.length
  ·
   have Hr := Lib.hid (outErr_size l (.inr c2))
   have t2 : decide ((l.length : Int) > 16) = true := by simp; omega
   clear c1 c2
   go_enter Tryz.func6, Tryz.ntmps6
   go_wp2_with fail
   go_ret
   exact ⟨by rw [Hr.out]; rfl, Below.refl _ _⟩
  ·
   have t2 : decide ((l.length : Int) > 16) = false := by simp; omega
   have hl16 : l.length ≤ 16 := by omega
   have Hsz : Hid (¬ (l.length < 3 ∨ 16 < l.length)) := by show ¬ _; omega
   clear c1 c2
   go_enter Tryz.func6, Tryz.ntmps6
   go_wp2_with fail
   clear t1 t2
   go_loopw [3] (fun iv wr => ∃ (i : Nat), i ≤ l.length ∧ iv = .int .i64 i ∧ Hid (ptsOk (l.take i) = true) ∧ Below w.heap.size w wr) (fun iv _ => l.length - (intOf iv).toNat)
   case atStart => exact ⟨0, Nat.zero_le _, rfl, rfl, Below.refl _ _⟩
   case round =>
    obtain ⟨i, hi, rfl, hF, hbel⟩ := hrel
    by_cases hlt : i < l.length
    ·
     obtain ⟨b, off, rfl, hbl, hEE⟩ := HE.out (by omega)
     obtain ⟨g0, g1⟩ := (hEE i hlt).below hbel hbl
     have hlt' : (i : Int) < l.length := by omega
     have hge' : (0 : Int) ≤ i := by omega
     have hbl2 : b < wr.heap.size := Nat.lt_of_lt_of_le hbl hbel.size
     have Hst : Hid (ptsOk (l.take (i + 1)) = ptOk (ptAt l i)) := by show _ = _; rw [ptsOk_take l i hlt, hF.out]; rfl
     have Hbad : Hid (ptOk (ptAt l i) = false → outErr l = 1) := fun h => outErr_arg l Hsz.out (by
      cases hp : ptsOk l with
      | false => rfl
      | true => rw [ptsOk_get hp i hlt] at h; cases h)
     have HRR : Hid (∀ W, Calls Tryz.prog 21 #[.agg #[.int .i64 (l.getD i (0, 0)).1, .int .i64 (l.getD i (0, 0)).2]] W (RetBool (ptOk (ptAt l i)) W)) := fun W => rright_any (ptAt l i) W
     clear hEE
     generalize ptOk (ptAt l i) = p at *
     generalize (l.getD i (0, 0)).1 = x at *
     generalize (l.getD i (0, 0)).2 = y at *
     go_wp2_with fail
     refine (HRR.out _).mono ?_
     rintro e w2 ⟨rfl, hb2⟩
     have hx2 := ext_trans hbel hb2
     cases p with
     | true =>
      go_wp2_with fail
      exact ⟨⟨i + 1, by omega, by go_num, Hst.out, hx2⟩, meas_up hlt⟩
     | false =>
      have Hr := Lib.hid (Hbad.out rfl)
      go_wp2_with fail
      go_ret
      exact ⟨by rw [Hr.out]; rfl, hx2⟩
    ·
     obtain rfl : i = l.length := by omega
     have Hok : Hid (ptsOk l = true) := by
      have h := hF.out
      rw [List.take_length] at h
      exact h
     clear hF
     go_wp2_with fail
     go_loopw [4] (fun iv wq => ∃ (i : Nat), i ≤ l.length ∧ iv = .int .i64 i ∧ Hid (OkA l i) ∧ Below w.heap.size w wq) (fun iv _ => l.length - (intOf iv).toNat)
     case atStart => exact ⟨0, Nat.zero_le _, rfl, fun i' hi' => absurd hi' (by omega), hbel⟩
     case round =>
      clear hbel
      obtain ⟨i, hi, rfl, hA, hbel⟩ := hrel
      generalize wr = wo at *
      by_cases hli : i < l.length
      ·
       have hli' : (i : Int) < l.length := by omega
       go_wp2_with fail
       go_loopw [5] (fun jv wq => ∃ (j : Nat), i + 1 ≤ j ∧ j ≤ l.length ∧ jv = .int .i64 j ∧ Hid (OkB l i j) ∧ Below w.heap.size w wq) (fun jv _ => l.length - (intOf jv).toNat)
       case atStart => exact ⟨i + 1, Nat.le_refl _, by omega, by go_num, fun j' h1 h2 => absurd h1 (by omega), hbel⟩
       case round =>
        clear hbel
        obtain ⟨j, hj1, hj, rfl, hB, hbel⟩ := hrel
        generalize wr = wp at *
        by_cases hlj : j < l.length
        ·
         have hlj' : (j : Int) < l.length := by omega
         go_wp2_with fail
         go_loopw [6] (fun kv wq => ∃ (k : Nat), j + 1 ≤ k ∧ k ≤ l.length ∧ kv = .int .i64 k ∧ Hid (OkC l i j k) ∧ Below w.heap.size w wq) (fun kv _ => l.length - (intOf kv).toNat)
         case atStart => exact ⟨j + 1, Nat.le_refl _, by omega, by go_num, fun k' h1 h2 => absurd h1 (by omega), hbel⟩
         case round =>
          clear hbel
          obtain ⟨k, hk1, hk, rfl, hC, hbel⟩ := hrel
          by_cases hlk : k < l.length
          ·
           obtain ⟨b, off, rfl, hbl, hLL⟩ := HE.out (by omega)
           obtain ⟨p0, p1⟩ := (hLL i (by omega)).below hbel hbl
           obtain ⟨p2, p3⟩ := (hLL j (by omega)).below hbel hbl
           obtain ⟨p4, p5⟩ := (hLL k (by omega)).below hbel hbl
           have hlk' : (k : Int) < l.length := by omega
           have hi0 : (0 : Int) ≤ i := by omega
           have hj0 : (0 : Int) ≤ j := by omega
           have hk0 : (0 : Int) ≤ k := by omega
           have hbl2 : b < wr.heap.size := Nat.lt_of_lt_of_le hbl hbel.size
           have HC : Hid (∀ W, Calls Tryz.prog 23 #[.agg #[.int .i64 (l.getD i (0, 0)).1, .int .i64 (l.getD i (0, 0)).2], .agg #[.int .i64 (l.getD j (0, 0)).1, .int .i64 (l.getD j (0, 0)).2], .agg #[.int .i64 (l.getD k (0, 0)).1, .int .i64 (l.getD k (0, 0)).2]] W (RetR ((crossI (ptAt l i) (ptAt l j) (ptAt l k) : Int) : Rat) W)) :=
            fun W => rcross_any (ptAt l i) (ptAt l j) (ptAt l k) W (ptsOk_get Hok.out i (by omega)) (ptsOk_get Hok.out j (by omega)) (ptsOk_get Hok.out k (by omega))
           have Hst : Hid (0 < crossI (ptAt l i) (ptAt l j) (ptAt l k) → OkC l i j (k + 1)) := fun h1 => hC.out.step h1
           have Hbad : Hid (¬ 0 < crossI (ptAt l i) (ptAt l j) (ptAt l k) → outErr l = 7) := fun h1 => outErr_order l Hsz.out Hok.out (fun hR => h1 (hR k hlk j (by omega) i (by omega)))
           generalize crossI (ptAt l i) (ptAt l j) (ptAt l k) = z at *
           generalize (l.getD i (0, 0)).1 = ax at *
           generalize (l.getD i (0, 0)).2 = ay at *
           generalize (l.getD j (0, 0)).1 = bx at *
           generalize (l.getD j (0, 0)).2 = by' at *
           generalize (l.getD k (0, 0)).1 = cx at *
           generalize (l.getD k (0, 0)).2 = cy at *
           have Hsg := Lib.hid (sgI_int z)
           have HSI := Lib.hid (qsignB_any z)
           clear hLL hA hB hC
           go_wp2_with fail
           go_region_held3 (fun w' => Below wr.heap.size wr w' ∧ w'.cell? ⟨b, off + i * 2, none⟩ = some (.int .i64 ax) ∧ w'.cell? ⟨b, off + i * 2 + 1, none⟩ = some (.int .i64 ay) ∧ w'.cell? ⟨b, off + j * 2, none⟩ = some (.int .i64 bx) ∧ w'.cell? ⟨b, off + j * 2 + 1, none⟩ = some (.int .i64 by') ∧ w'.cell? ⟨b, off + k * 2, none⟩ = some (.int .i64 cx) ∧ w'.cell? ⟨b, off + k * 2 + 1, none⟩ = some (.int .i64 cy))
            (first | exact ⟨(Below.refl _ _).drew, p0, p1, p2, p3, p4, p5⟩ | assumption | exact keepC6 (Nat.le_refl _) hbB (by assumption) | exact keepC6 (Nat.le_refl _) hbA (by assumption))
            (first
             | (go_at_call 23; refine (HC.out _).mono ?_; rintro e wA ⟨vA, rfl, hvA, hbA⟩)
             | (go_at_call 22; refine (HSI.out _ _ hvA).mono ?_; rintro e wB ⟨rfl, hbB⟩))
           rename_i hS
           have hx := ext_trans hbel hS.1
           clear hS p0 p1 p2 p3 p4 p5 hvA
           generalize sgI z = s at *
           by_cases hz : 0 < z
           ·
            have Hst2 := Lib.hid (Hst.out hz)
            have t7 : decide (s ≤ 0) = false := decide_eq_false (fun h => by have := Hsg.out.1 h; omega)
            rw [t7]
            clear hz
            go_wp2_with fail
            exact ⟨⟨k + 1, by omega, by omega, by go_num, Hst2.out, hx⟩, meas_up hlk⟩
           ·
            have Hr : Hid (outErr l = 7) := Hbad.out (by omega)
            have t7 : decide (s ≤ 0) = true := decide_eq_true (Hsg.out.2 (by omega))
            rw [t7]
            clear hz
            go_wp2_with fail
            go_ret
            exact ⟨by rw [Hr.out]; rfl, hx⟩
          ·
           obtain rfl : k = l.length := by omega
           go_wp2_with fail
           exact ⟨⟨j + 1, by omega, by omega, by go_num, hB.out.step hC.out, hbel⟩, meas_up hlj⟩
        ·
         obtain rfl : j = l.length := by omega
         go_wp2_with fail
         exact ⟨⟨i + 1, by omega, by go_num, hA.out.step hB.out, hbel⟩, meas_up hli⟩
      ·
       obtain rfl : i = l.length := by omega
       have Hr := Lib.hid (outErr_ok l Hsz.out Hok.out hA.out.round)
       go_wp2_with fail
       go_ret
       exact ⟨by rw [Hr.out]; rfl, hbel⟩

/-! ### span -/
def NumsOf (w : World) (v : Value) (xs : List Int) : Prop :=
 ∃ ao cap, v = .slice ao xs.length cap ∧ (0 < xs.length → ∃ b off, ao = some ⟨b, off, none⟩ ∧ b < w.heap.size ∧ ∀ i, i < xs.length → w.cell? ⟨b, off + i, none⟩ = some (.int .i64 (xs.getD i 0)))
theorem NumsOf.ofRow {w : World} {base : Nat} {e : TypeId} {v : Value} {xs : List Int} (h : LRow w base e 1 v xs.length (intC xs)) : NumsOf w v xs := by
 obtain ⟨ao, cap, rfl, _, _⟩ := h.capOk
 refine ⟨ao, cap, rfl, fun hp => ?_⟩
 obtain ⟨g, cap4, hv4⟩ := ownsRow_some h.1 hp
 simp only [Value.slice.injEq] at hv4
 obtain ⟨rfl, _, rfl⟩ := hv4
 exact ⟨g, 0, rfl, (h.lt rfl).1, fun i hi => by rw [Nat.zero_add]; exact h.cellV (intC_get hi)⟩
theorem NumsOf.below {w w' : World} {v : Value} {xs : List Int} (h : NumsOf w v xs) (hb : Below w.heap.size w w') : NumsOf w' v xs := by
 obtain ⟨ao, cap, rfl, h⟩ := h
 refine ⟨ao, cap, rfl, fun hl => ?_⟩
 obtain ⟨b, off, rfl, hlt, h⟩ := h hl
 exact ⟨b, off, rfl, Nat.lt_of_lt_of_le hlt hb.size, fun i hi => (hb.cell (p := ⟨b, off + i, none⟩) hlt).trans (h i hi)⟩

set_option maxRecDepth 100000 in
set_option maxHeartbeats 8000000 in
theorem qspan_any (xs : List Int) (v : Value) (w : World) (h : NumsOf w v xs) (h0 : 0 < xs.length) (h1 : xs.length ≤ 1000) : Calls Tryz.prog 24 #[v] w (fun e w' => e = .returned (.tuple #[.int .i64 (loF (fun i => xs.getD i 0) xs.length), .int .i64 (hiF (fun i => xs.getD i 0) xs.length)]) ∧ Below w.heap.size w w') := by
 obtain ⟨ao, cap, rfl, hE⟩ := h
 obtain ⟨b, off, rfl, hbl, hEE⟩ := hE h0
 have HE := Lib.hid hEE
 have g0 := hEE 0 h0
 rw [Nat.add_zero] at g0
 have hl0 : (0 : Int) < xs.length := by omega
 have hlne : ¬ xs = [] := fun h => by rw [h] at h0; exact absurd h0 (by simp)
 have HL0 : Hid (loF (fun i => xs.getD i 0) 0 = xs.getD 0 0 ∧ hiF (fun i => xs.getD i 0) 0 = xs.getD 0 0) := ⟨rfl, rfl⟩
 clear hEE hE
 generalize xs.getD 0 0 = x0 at *
 go_enter Tryz.func24, Tryz.ntmps24
 go_wp2_with fail
 go_region
 go_wp2_with fail
 go_loopw [4, 5, 6] (fun av bv iv wr => ∃ (i : Nat), i ≤ xs.length ∧ iv = .int .i64 i ∧ av = .int .i64 (loF (fun i => xs.getD i 0) i) ∧ bv = .int .i64 (hiF (fun i => xs.getD i 0) i) ∧ Below w.heap.size w wr) (fun _ _ iv _ => xs.length - (intOf iv).toNat)
 case atStart => exact ⟨0, Nat.zero_le _, rfl, by rw [HL0.out.1], by rw [HL0.out.2], (Below.refl _ _).drew⟩
 case round =>
  obtain ⟨i, hi, rfl, rfl, rfl, hbel⟩ := hrel
  by_cases hlt : i < xs.length
  ·
   have gi := (hbel.cell (p := ⟨b, off + i, none⟩) hbl).trans (HE.out i hlt)
   have hlt' : (i : Int) < xs.length := by omega
   have hge' : (0 : Int) ≤ i := by omega
   have HS : Hid (loF (fun i => xs.getD i 0) (i + 1) = min (loF (fun i => xs.getD i 0) i) (xs.getD i 0) ∧ hiF (fun i => xs.getD i 0) (i + 1) = max (hiF (fun i => xs.getD i 0) i) (xs.getD i 0)) := ⟨rfl, rfl⟩
   clear g0
   generalize loF (fun i => xs.getD i 0) i = lo at *
   generalize hiF (fun i => xs.getD i 0) i = hi' at *
   generalize xs.getD i 0 = x at *
   go_wp2_with fail
   go_region
   go_wp2_with fail
   exact ⟨⟨i + 1, by omega, by go_num, by rw [HS.out.1], by rw [HS.out.2], hbel.drew⟩, meas_up hlt⟩
  ·
   obtain rfl : i = xs.length := by omega
   go_wp2_with fail
   go_ret2
   exact ⟨rfl, hbel⟩

/-! ### Cut: two rows that grow together -/
structure TwoR (w0 w : World) (b0 n1 n2 : Nat) (vx vy : Value) (xs ys : List Value) : Prop where
 la : LRow w b0 3 1 vx n1 xs
 lb : LRow w b0 3 1 vy n2 ys
 ne : ∀ g, vx.ownBlock = some g → vy.ownBlock ≠ some g
 x : Below b0 w0 w
 hb : b0 ≤ w.heap.size
theorem TwoR.below {w0 w w' : World} {b0 n1 n2 : Nat} {vx vy : Value} {xs ys : List Value} (h : TwoR w0 w b0 n1 n2 vx vy xs ys) (hb : Below w.heap.size w w') : TwoR w0 w' b0 n1 n2 vx vy xs ys :=
 ⟨h.la.below hb, h.lb.below hb, h.ne, h.x.trans (hb.mono h.hb), Nat.le_trans h.hb hb.size⟩
theorem TwoR.appA {w0 w w' : World} {b0 n1 n2 m g cap : Nat} {vx vy : Value} {xs ys xs' : List Value} (h : TwoR w0 w b0 n1 n2 vx vy xs ys) (hl : LRow w' b0 3 1 (.slice (some ⟨g, 0, none⟩) m cap) m xs') (hgr : w.grownBy w' vx.ownBlock) (hat : vx.ownBlock = some g ∨ g = w.heap.size) : TwoR w0 w' b0 m n2 (.slice (some ⟨g, 0, none⟩) m cap) vy xs' ys := by
 refine ⟨hl, h.lb.grown hgr fun q hq he => h.ne q he.symm hq, fun q hq hq2 => ?_, h.x.grown hgr h.hb (fun k hk => (h.la.lt hk).2), Nat.le_trans h.hb hgr.size⟩
 simp [Value.ownBlock] at hq
 subst hq
 rcases hat with c | c
 ·
  exact h.ne _ c hq2
 ·
  have := (h.lb.lt hq2).1; omega
theorem TwoR.appB {w0 w w' : World} {b0 n1 n2 m g cap : Nat} {vx vy : Value} {xs ys ys' : List Value} (h : TwoR w0 w b0 n1 n2 vx vy xs ys) (hl : LRow w' b0 3 1 (.slice (some ⟨g, 0, none⟩) m cap) m ys') (hgr : w.grownBy w' vy.ownBlock) (hat : vy.ownBlock = some g ∨ g = w.heap.size) : TwoR w0 w' b0 n1 m vx (.slice (some ⟨g, 0, none⟩) m cap) xs ys' := by
 refine ⟨h.la.grown hgr fun q hq he => h.ne q hq he.symm, hl, fun q hq hq2 => ?_, h.x.grown hgr h.hb (fun k hk => (h.lb.lt hk).2), Nat.le_trans h.hb hgr.size⟩
 simp [Value.ownBlock] at hq2
 subst hq2
 rcases hat with c | c
 ·
  exact h.ne _ hq c
 ·
  have := (h.la.lt hq).1; omega
theorem grown_cell {w w' : World} {row : Option Nat} {B j : Nat} {v : Value} (hgr : w.grownBy w' row) (hB : B < w.heap.size) (hne : row ≠ some B) (h : w.cell? ⟨B, j, none⟩ = some v) : w'.cell? ⟨B, j, none⟩ = some v := by
 rw [← h]
 exact World.cell?_of_block (a := ⟨B, j, none⟩) (hgr.block B hB (fun e => hne e.symm))
def fstC (l : List (Int × Int)) (i : Nat) : List Int := (List.range i).map fun k => (l.getD k (0, 0)).1
def sndC (l : List (Int × Int)) (i : Nat) : List Int := (List.range i).map fun k => (l.getD k (0, 0)).2
theorem fstC_succ (l : List (Int × Int)) (i : Nat) : intC (fstC l (i + 1)) = intC (fstC l i) ++ [.int .i64 (l.getD i (0, 0)).1] := by simp [intC, fstC, List.range_succ]
theorem sndC_succ (l : List (Int × Int)) (i : Nat) : intC (sndC l (i + 1)) = intC (sndC l i) ++ [.int .i64 (l.getD i (0, 0)).2] := by simp [intC, sndC, List.range_succ]
theorem fstC_len (l : List (Int × Int)) (i : Nat) : (fstC l i).length = i := by simp [fstC]
theorem sndC_len (l : List (Int × Int)) (i : Nat) : (sndC l i).length = i := by simp [sndC]
theorem fstC_get (l : List (Int × Int)) {n k : Nat} (hk : k < n) : (fstC l n).getD k 0 = (l.getD k (0, 0)).1 := by simp [fstC, List.getD, hk]
theorem sndC_get (l : List (Int × Int)) {n k : Nat} (hk : k < n) : (sndC l n).getD k 0 = (l.getD k (0, 0)).2 := by simp [sndC, List.getD, hk]

set_option maxRecDepth 100000 in
set_option maxHeartbeats 16000000 in
theorem qcutO_any (l : List (Int × Int)) (v : Value) (w : World) (hz : outErr l = 0) (hv : PairsOf w v l) : Calls Tryz.prog 7 #[v] w (fun e w' => e = .returned (.agg #[.int .i64 (cutX l), .int .i64 (cutY l)]) ∧ Below w.heap.size w w') := by
 obtain ⟨ao, cap, rfl, hE⟩ := hv
 have HE := Lib.hid hE
 have hl3 := (outErr_zero hz).1
 have HPT : Hid (∀ i, i < l.length → (-4398046511104 ≤ (l.getD i (0, 0)).1 ∧ (l.getD i (0, 0)).1 ≤ 4398046511104) ∧ -4398046511104 ≤ (l.getD i (0, 0)).2 ∧ (l.getD i (0, 0)).2 ≤ 4398046511104) := fun i hi => outErr_pt hz i hi
 have HX : Hid (cutX l = hiF (fun i => (l.getD i (0, 0)).1) l.length - loF (fun i => (l.getD i (0, 0)).1) l.length) := by show _ = _; unfold cutX; rw [if_pos hz]
 have HY : Hid (cutY l = hiF (fun i => (l.getD i (0, 0)).2) l.length - loF (fun i => (l.getD i (0, 0)).2) l.length) := by show _ = _; unfold cutY; rw [if_pos hz]
 have hB0 := blk_new w #[.int .i64 0, .int .i64 0] 31
 have hal0 := (Below.refl w.heap.size w).alloc (Nat.le_refl _) (.cells #[.int .i64 0, .int .i64 0] 31)
 obtain ⟨iI, hiI, hzI0, hzI1, hzI2⟩ := info_parts info_int
 have hzd : ∀ u ∈ (Value.int .i64 0).cells.toList, noDig u := by
  intro u hu
  simp [Value.cells] at hu
  rw [hu]
  exact noDig_i64 0
 clear hE hz
 go_enter Tryz.func7, Tryz.ntmps7
 go_wp2_with fail
 generalize w.alloc (.cells #[.int .i64 0, .int .i64 0] 31) = w1 at *
 go_loopw [3, 4, 5] (fun xv yv iv wr => ∃ (i : Nat), i ≤ l.length ∧ iv = .int .i64 i ∧ Hid (TwoR w1 wr w1.heap.size i i xv yv (intC (fstC l i)) (intC (sndC l i)))) (fun _ _ iv _ => l.length - (intOf iv).toNat)
 case atStart => exact ⟨0, Nat.zero_le _, rfl, ⟨LRow.nil _ _ _ _, LRow.nil _ _ _ _, fun g h => by simp [Value.ownBlock] at h, Below.refl _ _, Nat.le_refl _⟩⟩
 case round =>
  obtain ⟨i, hi, rfl, HT⟩ := hrel
  by_cases hlt : i < l.length
  ·
   obtain ⟨b, off, rfl, hbl, hEE⟩ := HE.out (by omega)
   have hxw := hal0.trans (HT.out.x.mono hal0.size)
   obtain ⟨g0, g1⟩ := (hEE i hlt).below hxw hbl
   have hlt' : (i : Int) < l.length := by omega
   have hge' : (0 : Int) ≤ i := by omega
   have hbl1 : b < w1.heap.size := Nat.lt_of_lt_of_le hbl hal0.size
   have hbl2 : b < wr.heap.size := Nat.lt_of_lt_of_le hbl hxw.size
   have HF1 := Lib.hid (fstC_succ l i)
   have HS1 := Lib.hid (sndC_succ l i)
   have hbw := HT.out.hb
   clear hEE
   generalize (l.getD i (0, 0)).1 = x at *
   generalize (l.getD i (0, 0)).2 = y at *
   generalize intC (fstC l i) = xs at *
   generalize intC (sndC l i) = ys at *
   obtain ⟨aoX, capX, hxv, _, _⟩ := HT.out.la.capOk
   obtain ⟨aoY, capY, hyv, _, _⟩ := HT.out.lb.capOk
   subst hxv hyv
   have HLX : Hid (∀ q, (Value.slice aoX i capX).ownBlock = some q → q < wr.heap.size ∧ w1.heap.size ≤ q) := fun q hq => HT.out.la.lt hq
   have hA1 : Below wr.heap.size wr (wr.alloc (.cells #[.int .i64 x] 3)).drew := ((Below.refl _ _).alloc (Nat.le_refl _) _).drew
   have hB1 : Below wr.heap.size wr (wr.alloc (.cells #[.int .i64 y] 3)).drew := ((Below.refl _ _).alloc (Nat.le_refl _) _).drew
   have hA2 : Below wr.heap.size wr ((wr.alloc (.cells #[.int .i64 x] 3)).alloc (.cells #[.int .i64 y] 3)).drew := by
    have h := (Below.refl wr.heap.size wr).alloc (Nat.le_refl _) (.cells #[.int .i64 x] 3)
    exact (h.alloc h.size _).drew
   have hB2 : Below wr.heap.size wr ((wr.alloc (.cells #[.int .i64 y] 3)).alloc (.cells #[.int .i64 x] 3)).drew := by
    have h := (Below.refl wr.heap.size wr).alloc (Nat.le_refl _) (.cells #[.int .i64 y] 3)
    exact (h.alloc h.size _).drew
   have HT1 := Lib.hid (HT.out.below hA1)
   have HT12 := Lib.hid (HT.out.below hA2)
   have HT21 := Lib.hid (HT.out.below hB2)
   have hNA := blk_new wr #[.int .i64 x] 3
   have hNB := blk_new wr #[.int .i64 y] 3
   have HCA1 : Hid (∀ j u, [Value.int .i64 x][j]? = some u → (wr.alloc (.cells #[.int .i64 x] 3)).drew.cell? ((⟨wr.heap.size, 0, none⟩ : Addr).add j) = some u) := cell_one_new wr (.int .i64 x) 3
   have HCA2 : Hid (∀ j u, [Value.int .i64 x][j]? = some u → ((wr.alloc (.cells #[.int .i64 x] 3)).alloc (.cells #[.int .i64 y] 3)).drew.cell? ((⟨wr.heap.size, 0, none⟩ : Addr).add j) = some u) := by
    intro j u hu
    match j, hu with
    | 0, hu => simp at hu; subst hu; exact blk_cell (blk_keep hNA (((Below.refl _ _).alloc (Nat.le_refl _) (.cells #[.int .i64 y] 3)).drew) (blk_lt hNA)) 0 _ rfl
    | j + 1, hu => simp at hu
   have HCA3 : Hid (∀ j u, [Value.int .i64 x][j]? = some u → ((wr.alloc (.cells #[.int .i64 y] 3)).alloc (.cells #[.int .i64 x] 3)).drew.cell? ((⟨wr.heap.size + 1, 0, none⟩ : Addr).add j) = some u) := by
    have h := cell_one_new (wr.alloc (.cells #[.int .i64 y] 3)) (.int .i64 x) 3
    rw [World.size_alloc] at h
    exact h
   have hCB2 : ((wr.alloc (.cells #[.int .i64 x] 3)).alloc (.cells #[.int .i64 y] 3)).drew.cell? ⟨wr.heap.size + 1, 0, none⟩ = some (.int .i64 y) := by
    have h := blk_new (wr.alloc (.cells #[.int .i64 x] 3)) #[.int .i64 y] 3
    rw [World.size_alloc] at h
    exact blk_cell h 0 _ rfl
   have hCB3 : ((wr.alloc (.cells #[.int .i64 y] 3)).alloc (.cells #[.int .i64 x] 3)).drew.cell? ⟨wr.heap.size, 0, none⟩ = some (.int .i64 y) := blk_cell (blk_keep hNB (((Below.refl _ _).alloc (Nat.le_refl _) (.cells #[.int .i64 x] 3)).drew) (blk_lt hNB)) 0 _ rfl
   have HG1 : Hid (∀ W, Below wr.heap.size wr W → W.cell? ⟨b, off + i * 2, none⟩ = some (.int .i64 x) ∧ W.cell? ⟨b, off + i * 2 + 1, none⟩ = some (.int .i64 y)) := fun W h => ⟨(h.cell (p := ⟨b, off + i * 2, none⟩) hbl2).trans g0, (h.cell (p := ⟨b, off + i * 2 + 1, none⟩) hbl2).trans g1⟩
   have HCB2 := Lib.hid hCB2
   have HCB3 := Lib.hid hCB3
   have HBA1 := Lib.hid hA1
   have HBB1 := Lib.hid hB1
   have HBA2 := Lib.hid hA2
   have HBB2 := Lib.hid hB2
   clear hNA hNB hA1 hB1 hA2 hB2 hCB2 hCB3
   go_wp2_with fail
   go_region_held3 (fun w' => w'.cell? ⟨b, off + i * 2, none⟩ = some (.int .i64 x) ∧ w'.cell? ⟨b, off + i * 2 + 1, none⟩ = some (.int .i64 y))
    (first | exact ⟨g0, g1⟩ | assumption | exact HG1.out _ HBA1.out | exact HG1.out _ HBB1.out | exact HG1.out _ HBA2.out | exact HG1.out _ HBB2.out | go_keep)
    (first
     | (refine step_append_lrow _ rfl (.tmp 16) (.tmp 22) 72 rfl w1.heap.size 3 iI (.int .i64 0) 1 8 Tryz.underlying72 hiI hzI0 hzI1 hzI2 rfl (by decide) hzd _ _ _ rfl HT1.out.la ⟨wr.heap.size, 0, none⟩ 1 1 [.int .i64 x] rfl rfl HCA1.out (by simp [Value.oneCell']) (by intro u hu; simp at hu; rw [hu]; exact noDig_i64 _) (by omega) (by unfold maxLen; omega) (by omega) HT1.out.hb ?_; intro gA capA w3 hL3 hgrA hatA; have HT3 := Lib.hid (HT1.out.appA hL3 hgrA hatA); have hg3 : w3.cell? ⟨b, off + i * 2, none⟩ = some (.int .i64 x) ∧ w3.cell? ⟨b, off + i * 2 + 1, none⟩ = some (.int .i64 y) := ⟨grown_cell hgrA (by simp; omega) (fun e => by have := HLX.out b e; omega) (HG1.out _ HBA1.out).1, grown_cell hgrA (by simp; omega) (fun e => by have := HLX.out b e; omega) (HG1.out _ HBA1.out).2⟩; clear hL3 hgrA hatA)
     | (refine step_append_lrow _ rfl (.tmp 16) (.tmp 22) 72 rfl w1.heap.size 3 iI (.int .i64 0) 1 8 Tryz.underlying72 hiI hzI0 hzI1 hzI2 rfl (by decide) hzd _ _ _ rfl HT12.out.la ⟨wr.heap.size, 0, none⟩ 1 1 [.int .i64 x] rfl rfl HCA2.out (by simp [Value.oneCell']) (by intro u hu; simp at hu; rw [hu]; exact noDig_i64 _) (by omega) (by unfold maxLen; omega) (by omega) HT12.out.hb ?_; intro gA capA w3 hL3 hgrA hatA; have HT3 := Lib.hid (HT12.out.appA hL3 hgrA hatA); have hg3 : w3.cell? ⟨b, off + i * 2, none⟩ = some (.int .i64 x) ∧ w3.cell? ⟨b, off + i * 2 + 1, none⟩ = some (.int .i64 y) := ⟨grown_cell hgrA (by simp; omega) (fun e => by have := HLX.out b e; omega) (HG1.out _ HBA2.out).1, grown_cell hgrA (by simp; omega) (fun e => by have := HLX.out b e; omega) (HG1.out _ HBA2.out).2⟩; have HC3 : Hid (∀ j u, [Value.int .i64 y][j]? = some u → w3.cell? ((⟨wr.heap.size + 1, 0, none⟩ : Addr).add j) = some u) := fun j u hu => (match j, hu with | 0, hu => by (simp at hu; subst hu; exact grown_cell hgrA (by (try simp) <;> omega) (fun e => by have := HLX.out _ e; omega) HCB2.out) | j + 1, hu => by simp at hu); clear hL3 hgrA hatA)
     | (refine step_append_lrow _ rfl (.tmp 16) (.tmp 22) 72 rfl w1.heap.size 3 iI (.int .i64 0) 1 8 Tryz.underlying72 hiI hzI0 hzI1 hzI2 rfl (by decide) hzd _ _ _ rfl HT21.out.la ⟨wr.heap.size + 1, 0, none⟩ 1 1 [.int .i64 x] rfl rfl HCA3.out (by simp [Value.oneCell']) (by intro u hu; simp at hu; rw [hu]; exact noDig_i64 _) (by omega) (by unfold maxLen; omega) (by omega) HT21.out.hb ?_; intro gA capA w3 hL3 hgrA hatA; have HT3 := Lib.hid (HT21.out.appA hL3 hgrA hatA); have hg3 : w3.cell? ⟨b, off + i * 2, none⟩ = some (.int .i64 x) ∧ w3.cell? ⟨b, off + i * 2 + 1, none⟩ = some (.int .i64 y) := ⟨grown_cell hgrA (by simp; omega) (fun e => by have := HLX.out b e; omega) (HG1.out _ HBB2.out).1, grown_cell hgrA (by simp; omega) (fun e => by have := HLX.out b e; omega) (HG1.out _ HBB2.out).2⟩; have HC3 : Hid (∀ j u, [Value.int .i64 y][j]? = some u → w3.cell? ((⟨wr.heap.size, 0, none⟩ : Addr).add j) = some u) := fun j u hu => (match j, hu with | 0, hu => by (simp at hu; subst hu; exact grown_cell hgrA (by (try simp) <;> omega) (fun e => by have := HLX.out _ e; omega) HCB3.out) | j + 1, hu => by simp at hu); clear hL3 hgrA hatA)
     | (refine step_append_lrow _ rfl (.tmp 24) (.tmp 30) 72 rfl w1.heap.size 3 iI (.int .i64 0) 1 8 Tryz.underlying72 hiI hzI0 hzI1 hzI2 rfl (by decide) hzd _ _ _ rfl HT3.out.lb ⟨wr.heap.size + 1, 0, none⟩ 1 1 [.int .i64 y] rfl rfl HC3.out (by simp [Value.oneCell']) (by intro u hu; simp at hu; rw [hu]; exact noDig_i64 _) (by omega) (by unfold maxLen; omega) (by omega) HT3.out.hb ?_; intro gB capB w6 hL6 hgrB hatB; have HT6 := Lib.hid (HT3.out.appB hL6 hgrB hatB); have hg6 : w6.cell? ⟨b, off + i * 2, none⟩ = some (.int .i64 x) ∧ w6.cell? ⟨b, off + i * 2 + 1, none⟩ = some (.int .i64 y) := ⟨grown_cell hgrB (World.block_lt_of_cell? (h := hg3.1)) (fun e => by have := (HT3.out.lb.lt e).2; omega) hg3.1, grown_cell hgrB (World.block_lt_of_cell? (h := hg3.2)) (fun e => by have := (HT3.out.lb.lt e).2; omega) hg3.2⟩; clear hL6 hgrB hatB)
     | (refine step_append_lrow _ rfl (.tmp 24) (.tmp 30) 72 rfl w1.heap.size 3 iI (.int .i64 0) 1 8 Tryz.underlying72 hiI hzI0 hzI1 hzI2 rfl (by decide) hzd _ _ _ rfl HT3.out.lb ⟨wr.heap.size, 0, none⟩ 1 1 [.int .i64 y] rfl rfl HC3.out (by simp [Value.oneCell']) (by intro u hu; simp at hu; rw [hu]; exact noDig_i64 _) (by omega) (by unfold maxLen; omega) (by omega) HT3.out.hb ?_; intro gB capB w6 hL6 hgrB hatB; have HT6 := Lib.hid (HT3.out.appB hL6 hgrB hatB); have hg6 : w6.cell? ⟨b, off + i * 2, none⟩ = some (.int .i64 x) ∧ w6.cell? ⟨b, off + i * 2 + 1, none⟩ = some (.int .i64 y) := ⟨grown_cell hgrB (World.block_lt_of_cell? (h := hg3.1)) (fun e => by have := (HT3.out.lb.lt e).2; omega) hg3.1, grown_cell hgrB (World.block_lt_of_cell? (h := hg3.2)) (fun e => by have := (HT3.out.lb.lt e).2; omega) hg3.2⟩; clear hL6 hgrB hatB)
     | (refine step_append_lrow _ rfl (.tmp 24) (.tmp 30) 72 rfl w1.heap.size 3 iI (.int .i64 0) 1 8 Tryz.underlying72 hiI hzI0 hzI1 hzI2 rfl (by decide) hzd _ _ _ rfl (HT3.out.below (((Below.refl w3.heap.size w3).alloc (Nat.le_refl _) (.cells #[.int .i64 y] 3)))).lb ⟨w3.heap.size, 0, none⟩ 1 1 [.int .i64 y] rfl rfl (cell_one_new w3 (.int .i64 y) 3) (by simp [Value.oneCell']) (by intro u hu; simp at hu; rw [hu]; exact noDig_i64 _) (by omega) (by unfold maxLen; omega) (by omega) (HT3.out.below (((Below.refl w3.heap.size w3).alloc (Nat.le_refl _) (.cells #[.int .i64 y] 3)))).hb ?_; intro gB capB w6 hL6 hgrB hatB; have HT6 := Lib.hid ((HT3.out.below (((Below.refl w3.heap.size w3).alloc (Nat.le_refl _) (.cells #[.int .i64 y] 3)))).appB hL6 hgrB hatB); have hg6 : w6.cell? ⟨b, off + i * 2, none⟩ = some (.int .i64 x) ∧ w6.cell? ⟨b, off + i * 2 + 1, none⟩ = some (.int .i64 y) := ⟨grown_cell hgrB (World.block_lt_of_cell? (h := (show (w3.alloc (.cells #[.int .i64 y] 3)).cell? ⟨b, off + i * 2, none⟩ = some (.int .i64 x) ∧ (w3.alloc (.cells #[.int .i64 y] 3)).cell? ⟨b, off + i * 2 + 1, none⟩ = some (.int .i64 y) from ⟨(((Below.refl w3.heap.size w3).alloc (Nat.le_refl _) (.cells #[.int .i64 y] 3)).cell (World.block_lt_of_cell? (h := hg3.1))).trans hg3.1, (((Below.refl w3.heap.size w3).alloc (Nat.le_refl _) (.cells #[.int .i64 y] 3)).cell (World.block_lt_of_cell? (h := hg3.2))).trans hg3.2⟩).1)) (fun e => by have := (HT3.out.lb.lt e).2; omega) (show (w3.alloc (.cells #[.int .i64 y] 3)).cell? ⟨b, off + i * 2, none⟩ = some (.int .i64 x) ∧ (w3.alloc (.cells #[.int .i64 y] 3)).cell? ⟨b, off + i * 2 + 1, none⟩ = some (.int .i64 y) from ⟨(((Below.refl w3.heap.size w3).alloc (Nat.le_refl _) (.cells #[.int .i64 y] 3)).cell (World.block_lt_of_cell? (h := hg3.1))).trans hg3.1, (((Below.refl w3.heap.size w3).alloc (Nat.le_refl _) (.cells #[.int .i64 y] 3)).cell (World.block_lt_of_cell? (h := hg3.2))).trans hg3.2⟩).1, grown_cell hgrB (World.block_lt_of_cell? (h := (show (w3.alloc (.cells #[.int .i64 y] 3)).cell? ⟨b, off + i * 2, none⟩ = some (.int .i64 x) ∧ (w3.alloc (.cells #[.int .i64 y] 3)).cell? ⟨b, off + i * 2 + 1, none⟩ = some (.int .i64 y) from ⟨(((Below.refl w3.heap.size w3).alloc (Nat.le_refl _) (.cells #[.int .i64 y] 3)).cell (World.block_lt_of_cell? (h := hg3.1))).trans hg3.1, (((Below.refl w3.heap.size w3).alloc (Nat.le_refl _) (.cells #[.int .i64 y] 3)).cell (World.block_lt_of_cell? (h := hg3.2))).trans hg3.2⟩).2)) (fun e => by have := (HT3.out.lb.lt e).2; omega) (show (w3.alloc (.cells #[.int .i64 y] 3)).cell? ⟨b, off + i * 2, none⟩ = some (.int .i64 x) ∧ (w3.alloc (.cells #[.int .i64 y] 3)).cell? ⟨b, off + i * 2 + 1, none⟩ = some (.int .i64 y) from ⟨(((Below.refl w3.heap.size w3).alloc (Nat.le_refl _) (.cells #[.int .i64 y] 3)).cell (World.block_lt_of_cell? (h := hg3.1))).trans hg3.1, (((Below.refl w3.heap.size w3).alloc (Nat.le_refl _) (.cells #[.int .i64 y] 3)).cell (World.block_lt_of_cell? (h := hg3.2))).trans hg3.2⟩).2⟩; clear hL6 hgrB hatB))
   all_goals
    go_wp2_with fail
    exact ⟨⟨i + 1, by omega, by go_num, by rw [HF1.out, HS1.out]; exact HT6⟩, meas_up hlt⟩
  ·
   obtain rfl : i = l.length := by omega
   have hxw := hal0.trans (HT.out.x.mono hal0.size)
   have hX0 : LRow wr w1.heap.size 3 1 u3 (fstC l l.length).length (intC (fstC l l.length)) := by rw [fstC_len]; exact HT.out.la
   have hY0 : LRow wr w1.heap.size 3 1 u4 (sndC l l.length).length (intC (sndC l l.length)) := by rw [sndC_len]; exact HT.out.lb
   have HNX := Lib.hid (NumsOf.ofRow hX0)
   have HNY := Lib.hid (NumsOf.ofRow hY0)
   clear hX0 hY0
   have hRB := blk_keep hB0 HT.out.x (blk_lt hB0)
   have hlx := loF_range (f := fun i => (l.getD i (0, 0)).1) (n := l.length) (A := 4398046511104) (by omega) (fun i hi => (HPT.out i hi).1) _ (Nat.le_refl _)
   have hly := loF_range (f := fun i => (l.getD i (0, 0)).2) (n := l.length) (A := 4398046511104) (by omega) (fun i hi => (HPT.out i hi).2) _ (Nat.le_refl _)
   have hhx := hiF_range (f := fun i => (l.getD i (0, 0)).1) (n := l.length) (A := 4398046511104) (by omega) (fun i hi => (HPT.out i hi).1) _ (Nat.le_refl _)
   have hhy := hiF_range (f := fun i => (l.getD i (0, 0)).2) (n := l.length) (A := 4398046511104) (by omega) (fun i hi => (HPT.out i hi).2) _ (Nat.le_refl _)
   have HSX : Hid (∀ W, NumsOf W u3 (fstC l l.length) → Calls Tryz.prog 24 #[u3] W (fun e w' => e = .returned (.tuple #[.int .i64 (loF (fun i => (l.getD i (0, 0)).1) l.length), .int .i64 (hiF (fun i => (l.getD i (0, 0)).1) l.length)]) ∧ Below W.heap.size W w')) := fun W h => by
    have := qspan_any (fstC l l.length) u3 W h (by rw [fstC_len]; omega) (by rw [fstC_len]; omega)
    rw [fstC_len, loF_same (g := fun i => (l.getD i (0, 0)).1) l.length (fstC_get l (by omega)) (fun j hj => fstC_get l hj), hiF_same (g := fun i => (l.getD i (0, 0)).1) l.length (fstC_get l (by omega)) (fun j hj => fstC_get l hj)] at this
    exact this
   have HSY : Hid (∀ W, NumsOf W u4 (sndC l l.length) → Calls Tryz.prog 24 #[u4] W (fun e w' => e = .returned (.tuple #[.int .i64 (loF (fun i => (l.getD i (0, 0)).2) l.length), .int .i64 (hiF (fun i => (l.getD i (0, 0)).2) l.length)]) ∧ Below W.heap.size W w')) := fun W h => by
    have := qspan_any (sndC l l.length) u4 W h (by rw [sndC_len]; omega) (by rw [sndC_len]; omega)
    rw [sndC_len, loF_same (g := fun i => (l.getD i (0, 0)).2) l.length (sndC_get l (by omega)) (fun j hj => sndC_get l hj), hiF_same (g := fun i => (l.getD i (0, 0)).2) l.length (sndC_get l (by omega)) (fun j hj => sndC_get l hj)] at this
    exact this
   generalize loF (fun i => (l.getD i (0, 0)).1) l.length = lx at *
   generalize loF (fun i => (l.getD i (0, 0)).2) l.length = ly at *
   generalize hiF (fun i => (l.getD i (0, 0)).1) l.length = hx at *
   generalize hiF (fun i => (l.getD i (0, 0)).2) l.length = hy at *
   have hw1 : IntKind.i64.wrap (hx - lx) = hx - lx := IntWalk.i64_in _ (by omega)
   have hw2 : IntKind.i64.wrap (hy - ly) = hy - ly := IntWalk.i64_in _ (by omega)
   go_wp2_with fail
   refine (HSX.out _ HNX.out).mono ?_
   rintro e w3 ⟨rfl, hb3⟩
   go_wp2_with fail
   refine (HSY.out _ (HNY.out.below hb3)).mono ?_
   rintro e w4 ⟨rfl, hb4⟩
   have hx4 := ext_trans (ext_trans hxw hb3) hb4
   have hR4 := blk_keep (blk_keep hRB hb3 (blk_lt hRB)) hb4 (blk_lt (blk_keep hRB hb3 (blk_lt hRB)))
   have r0 := blk_cell hR4 0 (.int .i64 0) rfl
   have r1 := blk_cell hR4 1 (.int .i64 0) rfl
   have q0 := blk_frozen hR4 0
   have q1 := blk_frozen hR4 1
   have hR2 := setC2 (x := .int .i64 (hx - lx)) (y := .int .i64 (hy - ly)) hR4
   have hxe := (hx4.setCell (p := ⟨w.heap.size, 0, none⟩) (Nat.le_refl _) (.int .i64 (hx - lx))).setCell (p := ⟨w.heap.size, 1, none⟩) (Nat.le_refl _) (.int .i64 (hy - ly))
   have s0 := blk_cell hR2 0 (.int .i64 (hx - lx)) rfl
   have s1 := blk_cell hR2 1 (.int .i64 (hy - ly)) rfl
   go_wp2_with fail
   refine bodyPost_ret (v := .agg #[.int .i64 (hx - lx), .int .i64 (hy - ly)]) (by simp [results, Tryz.results7, go_sem, s0, s1]) rfl ⟨by rw [HX.out, HY.out], hxe⟩

end Go.Proofs.YtofijjomfhmbjaaGreat

namespace Go.Proofs.YtofijjomfhmbjaaGreat
open Go.RowKit

theorem lpc_fields : (Tryz.prog.fieldsOf 26).toList = [{ name := "Long", type := 3, offset := 0, embedded := false, tag := "", pkgPath := "", byteOffset := 0 }, { name := "Wide", type := 3, offset := 1, embedded := false, tag := "", pkgPath := "", byteOffset := 8 }] := by kernel_rfl
theorem qpc_fields : (Tryz.prog.fieldsOf 31).toList = [{ name := "Long", type := 3, offset := 0, embedded := false, tag := "", pkgPath := "", byteOffset := 0 }, { name := "Wide", type := 3, offset := 1, embedded := false, tag := "", pkgPath := "", byteOffset := 8 }] := by kernel_rfl
set_option maxRecDepth 100000 in
theorem neq_lpc (a b : Int) (w : World) : (binOp .neq 26 (.agg #[.int .i64 a, .int .i64 b]) (.agg #[.int .i64 a, .int .i64 b])).run Tryz.prog w = .ok (.bool false) w := by
 rw [run_neq_struct, run_equalIn_struct w 9999 26 _ _ (by kernel_rfl) (by kernel_rfl), lpc_fields]
 have n0 : ("Long" ≠ "_") := by decide
 have n1 : ("Wide" ≠ "_") := by decide
 unfold Op.eqFields
 rw [if_pos n0]
 simp only [Sem.run_bind, (part2 _ _ _).1, eqInt, Result.andThen_ok, Sem.run_ite, beq_self_eq_true]
 unfold Op.eqFields
 rw [if_pos n1]
 simp only [Sem.run_bind, (part2 _ _ _).2, eqInt, Result.andThen_ok, Sem.run_ite, beq_self_eq_true]
 unfold Op.eqFields
 simp
set_option maxRecDepth 100000 in
theorem neq_qpc (a b : Int) (w : World) : (binOp .neq 31 (.agg #[.int .i64 a, .int .i64 b]) (.agg #[.int .i64 a, .int .i64 b])).run Tryz.prog w = .ok (.bool false) w := by
 rw [run_neq_struct, run_equalIn_struct w 9999 31 _ _ (by kernel_rfl) (by kernel_rfl), qpc_fields]
 have n0 : ("Long" ≠ "_") := by decide
 have n1 : ("Wide" ≠ "_") := by decide
 unfold Op.eqFields
 rw [if_pos n0]
 simp only [Sem.run_bind, (part2 _ _ _).1, eqInt, Result.andThen_ok, Sem.run_ite, beq_self_eq_true]
 unfold Op.eqFields
 rw [if_pos n1]
 simp only [Sem.run_bind, (part2 _ _ _).2, eqInt, Result.andThen_ok, Sem.run_ite, beq_self_eq_true]
 unfold Op.eqFields
 simp
set_option maxRecDepth 100000 in
theorem neq_pt (a b : Int) (w : World) : (binOp .neq 45 (.agg #[.int .i64 a, .int .i64 b]) (.agg #[.int .i64 a, .int .i64 b])).run Tryz.prog w = .ok (.bool false) w := by
 rw [run_neq_struct, run_equalIn_struct w 9999 45 _ _ (by kernel_rfl) (by kernel_rfl), pt_fields]
 have n0 : ("X" ≠ "_") := by decide
 have n1 : ("Y" ≠ "_") := by decide
 unfold Op.eqFields
 rw [if_pos n0]
 simp only [Sem.run_bind, (part2 _ _ _).1, eqInt, Result.andThen_ok, Sem.run_ite, beq_self_eq_true]
 unfold Op.eqFields
 rw [if_pos n1]
 simp only [Sem.run_bind, (part2 _ _ _).2, eqInt, Result.andThen_ok, Sem.run_ite, beq_self_eq_true]
 unfold Op.eqFields
 simp

set_option maxRecDepth 100000 in
set_option maxHeartbeats 4000000 in
theorem equalPts_same (l : List (Int × Int)) (v1 v2 : Value) (w : World) (h1 : PairsOf w v1 l) (h2 : PairsOf w v2 l) (hl : l.length ≤ 1000000) : Calls Tryz.prog 15 #[v1, v2] w (RetBool true w) := by
 obtain ⟨ao, cap, rfl, hA⟩ := h1
 obtain ⟨bo, bap, rfl, hB⟩ := h2
 have HA := Lib.hid hA
 have HB := Lib.hid hB
 have tne : (((l.length : Int)) != ((l.length : Int))) = false := by simp
 clear hA hB
 go_enter Tryz.func15, Tryz.ntmps15
 go_wp2_with fail
 go_loopw [13] (fun iv wr => ∃ (i : Nat), i ≤ l.length ∧ iv = .int .i64 i ∧ Below w.heap.size w wr) (fun iv _ => l.length - (intOf iv).toNat)
 case atStart => exact ⟨0, Nat.zero_le _, rfl, Below.refl _ _⟩
 case round =>
  obtain ⟨i, hi, rfl, hbel⟩ := hrel
  by_cases hlt : i < l.length
  ·
   obtain ⟨b, off, rfl, hbl, hLL⟩ := HA.out (by omega)
   obtain ⟨b2, off2, rfl, hbl2, hMM⟩ := HB.out (by omega)
   obtain ⟨g0, g1⟩ := (hLL i hlt).below hbel hbl
   obtain ⟨k0, k1⟩ := (hMM i hlt).below hbel hbl2
   have hlt' : (i : Int) < l.length := by omega
   have hge' : (0 : Int) ≤ i := by omega
   have hq := neq_pt (l.getD i (0, 0)).1 (l.getD i (0, 0)).2
   clear hLL hMM
   generalize (l.getD i (0, 0)).1 = x0 at *
   generalize (l.getD i (0, 0)).2 = x1 at *
   go_wp2_with fail
   go_region
   go_wp2_with fail
   exact ⟨⟨i + 1, by omega, by go_num, hbel.drew⟩, meas_up hlt⟩
  ·
   obtain rfl : i = l.length := by omega
   go_wp2_with fail
   go_ret
   exact ⟨rfl, hbel⟩

theorem info_qpiece : (Tryz.prog.info? 31).map (fun i => (i.zero, i.size, i.bytes)) = some (some (.agg #[.int .i64 0, .int .i64 0]), 2, 16) := by kernel_rfl
set_option maxRecDepth 100000 in
set_option maxHeartbeats 4000000 in
theorem lpieces_any (l : List (Int × Int)) (v : Value) (w : World) (h : PairsOf w v l) (hl : l.length ≤ 1000000) : Calls Tryz.prog 8 #[v] w (fun e w' => ∃ v', e = .returned v' ∧ PairsOf w' v' l ∧ Below w.heap.size w w') := by
 obtain ⟨ao, cap, rfl, hE⟩ := h
 have HE := Lib.hid hE
 clear hE
 obtain ⟨iC, hiC, hzC0, hzC1, hzC2⟩ := info_parts info_qpiece
 have hzd := zd2
 go_enter Tryz.func8, Tryz.ntmps8
 go_wp2_with fail
 go_loopw [3, 8] (fun mv iv wr => ∃ (i : Nat), i ≤ l.length ∧ iv = .int .i64 i ∧ Hid (LRow wr w.heap.size 31 2 mv i (pairCells (l.take i))) ∧ Below w.heap.size w wr) (fun _ iv _ => l.length - (intOf iv).toNat)
 case atStart => exact ⟨0, Nat.zero_le _, rfl, LRow.nil _ _ _ _, Below.refl _ _⟩
 case round =>
  obtain ⟨i, hi, rfl, hL, hbel⟩ := hrel
  by_cases hlt : i < l.length
  ·
   obtain ⟨b, off, rfl, hbl, hEE⟩ := HE.out (by omega)
   obtain ⟨g0, g1⟩ := (hEE i hlt).below hbel hbl
   have hlt' : (i : Int) < l.length := by omega
   have hge' : (0 : Int) ≤ i := by omega
   have hbl2 : b < wr.heap.size := Nat.lt_of_lt_of_le hbl hbel.size
   have Htk := Lib.hid (pairCells_take l i hlt)
   clear hEE
   generalize (l.getD i (0, 0)).1 = x at *
   generalize (l.getD i (0, 0)).2 = y at *
   have hx1 := (Below.refl wr.heap.size wr).alloc (Nat.le_refl _) (.cells #[.int .i64 x, .int .i64 y] 26)
   have hx2 := hx1.alloc hx1.size (.cells #[.int .i64 x, .int .i64 y] 31)
   have hcn := cell_new2 (wr.alloc (.cells #[.int .i64 x, .int .i64 y] 26)) (.int .i64 x) (.int .i64 y) 31
   rw [World.size_alloc] at hcn
   have HCN := Lib.hid hcn
   have HL2 := Lib.hid (hL.out.below hx2)
   have hbs := hbel.size
   clear hcn hL hx1
   go_wp2_with (at_builtin; refine wpList_append_lrow _ rfl (.tmp 12) (.tmp 14) 33 rfl w.heap.size 31 iC _ 2 16 Tryz.underlying33 hiC hzC0 hzC1 hzC2 rfl (by decide) hzd _ _ _ rfl HL2.out ⟨wr.heap.size + 1, 0, none⟩ 1 1 [.int .i64 x, .int .i64 y] rfl rfl HCN.out (one2 _ _) (nd2 _ _) (by omega) (by unfold maxLen; omega) (by omega) (by simp; omega) ?_)
   intro g cap' w3 hL3 hgr hat
   have hx3 : Below w.heap.size w w3 := (hbel.trans (hx2.mono hbel.size)).grown hgr (by simp; omega) (ownBlock_low' HL2.out.1)
   have HL3 := Lib.hid hL3
   clear hL3 hgr hat HL2 hx2
   go_wp2_with fail
   exact ⟨⟨i + 1, by omega, by go_num, by rw [Htk.out]; exact HL3.out, hx3⟩, meas_up hlt⟩
  ·
   obtain rfl : i = l.length := by omega
   rw [List.take_length] at hL
   have HR := Lib.hid (PairsOf.ofRow hL.out)
   clear hL
   go_wp2_with fail
   go_ret
   exact ⟨_, rfl, HR.out, hbel⟩

theorem nestStep_len (l : List (Int × Int)) (m : Int) (i : Nat) (s : NestS) : (nestStep l m i s).out.length = s.out.length := by
 unfold nestStep
 split <;> simp
theorem nestTo_len (l : List (Int × Int)) (m : Int) (f : Nat → Nat) : ∀ j, (nestTo l m f j).out.length = l.length
 | 0 => by simp [nestTo]
 | j + 1 => by rw [nestTo, nestStep_len, nestTo_len l m f j]
theorem nestRes_len {l : List (Int × Int)} {m : Int} {out : List (Int × Int)} {n : Int} (h : NestRes l m out n) : out.length ≤ l.length := by
 unfold NestRes at h
 by_cases c : pcsErr l m = 0
 ·
  rw [if_pos c] at h
  obtain ⟨f, _, _, rfl, _⟩ := h
  rw [nestTo_len]
  exact Nat.le_refl _
 ·
  rw [if_neg c] at h
  rw [h.1]
  exact Nat.zero_le _
theorem nestRes_ord {l : List (Int × Int)} {m : Int} {out : List (Int × Int)} {n : Int} (h : NestRes l m out n) (hz : pcsErr l m = 0) : ∃ f, PermI f l.length ∧ SortR (fun i => (gP l i).1) f 0 l.length := by
 unfold NestRes at h
 rw [if_pos hz] at h
 obtain ⟨f, h1, h2, _⟩ := h
 exact ⟨f, h1, h2⟩

set_option maxRecDepth 100000 in
set_option maxHeartbeats 16000000 in
theorem layupNests_any (ol l ls : List (Int × Int)) (m : Int) (vo vp va : Value) (w : World) (ho : PairsOf w vo ol) (hp : PairsOf w vp l) (ha : PairsOf w va ls) (hc : CapOk va) :
  Calls Tryz.prog 3 #[vo, vp, .int .i64 m, va] w (RetBool true w) := by
 have HO := Lib.hid ho
 have HP := Lib.hid hp
 have HA := Lib.hid ha
 have HC := Lib.hid hc
 obtain ⟨aoo, capo, rfl, _⟩ := ho
 obtain ⟨aop, capp, rfl, _⟩ := hp
 obtain ⟨aoa, capa, rfl, _⟩ := ha
 clear hc
 by_cases c1 : 20 < ol.length
 ·
  have t1 : decide ((ol.length : Int) > 20) = true := decide_eq_true (by omega)
  clear c1
  go_enter Tryz.func3, Tryz.ntmps3
  go_wp2_with fail
  refine (awake03_any _).mono ?_
  rintro e w1 ⟨rfl, hb1⟩
  go_wp2_with fail
  refine (awake03_any _).mono ?_
  rintro e w2 ⟨rfl, hb2⟩
  go_wp2_with fail
  go_ret
  exact ⟨rfl, below_join hb1 hb2⟩
 ·
  have t1 : decide ((ol.length : Int) > 20) = false := decide_eq_false (by omega)
  by_cases c2 : 30 < l.length
  ·
   have t2 : decide ((l.length : Int) > 30) = true := decide_eq_true (by omega)
   clear c1 c2
   go_enter Tryz.func3, Tryz.ntmps3
   go_wp2_with fail
   refine (awake03_any _).mono ?_
   rintro e w1 ⟨rfl, hb1⟩
   go_wp2_with fail
   refine (awake03_any _).mono ?_
   rintro e w2 ⟨rfl, hb2⟩
   go_wp2_with fail
   go_ret
   exact ⟨rfl, below_join hb1 hb2⟩
  ·
   have t2 : decide ((l.length : Int) > 30) = false := decide_eq_false (by omega)
   by_cases c3 : 40 < ls.length
   ·
    have t3 : decide ((ls.length : Int) > 40) = true := decide_eq_true (by omega)
    clear c1 c2 c3
    go_enter Tryz.func3, Tryz.ntmps3
    go_wp2_with fail
    refine (awake03_any _).mono ?_
    rintro e w1 ⟨rfl, hb1⟩
    go_wp2_with fail
    refine (awake03_any _).mono ?_
    rintro e w2 ⟨rfl, hb2⟩
    go_wp2_with fail
    go_ret
    exact ⟨rfl, below_join hb1 hb2⟩
   ·
    have t3 : decide ((ls.length : Int) > 40) = false := decide_eq_false (by omega)
    have hl30 : l.length ≤ 30 := by omega
    clear c1 c2 c3
    go_enter Tryz.func3, Tryz.ntmps3
    go_wp2_with fail
    refine (awake03_any _).mono ?_
    rintro e w1 ⟨rfl, hb1⟩
    go_wp2_with fail
    refine (lcut_any ol _ _ (HO.out.below hb1)).mono ?_
    rintro e w2 ⟨rfl, hb2⟩
    have hx2 := below_join hb1 hb2
    have hN2 := blk_new w2 #[.int .i64 (cutX ol), .int .i64 (cutY ol)] 26
    have hx3 := hx2.alloc hx2.size (.cells #[.int .i64 (cutX ol), .int .i64 (cutY ol)] 26)
    clear hb1 hb2 hx2
    go_wp2_with fail
    refine (qoutline_any ol _ _ (HO.out.below hx3)).mono ?_
    rintro e w4 ⟨rfl, hb4⟩
    have hN4 := blk_keep hN2 hb4 (blk_lt hN2)
    have hx4 := ext_trans hx3 hb4
    have k0 := blk_cell hN4 0 (.int .i64 (cutX ol)) rfl
    have k1 := blk_cell hN4 1 (.int .i64 (cutY ol)) rfl
    have HQC : Hid (outErr ol = 0 → ∀ W, PairsOf W (.slice aoo ol.length capo) ol → Calls Tryz.prog 7 #[.slice aoo ol.length capo] W (fun e w' => e = .returned (.agg #[.int .i64 (cutX ol), .int .i64 (cutY ol)]) ∧ Below W.heap.size W w')) := fun h W hW => qcutO_any ol _ W h hW
    have tne : (outErr ol != outErr ol) = false := by simp
    clear hN2 hb4 hx3 hN4
    go_upto_region 5 with fail
    go_cut [73] (fun rv wx => rv = .bool false ∧ Below w4.heap.size w4 wx)
    case first =>
     by_cases hz : outErr ol = 0
     ·
      have HQ := Lib.hid (HQC.out hz)
      have te : (outErr ol != 0) = false := by rw [hz]; rfl
      have te2 : (outErr ol == 0) = true := by rw [hz]; rfl
      have hq := neq_qpc (cutX ol) (cutY ol)
      have HOW := Lib.hid (HO.out.below hx4)
      clear hz HQC
      generalize outErr ol = er at *
      generalize cutX ol = cx at *
      generalize cutY ol = cy at *
      generalize w2.heap.size = G at *
      refine wp_region_held_drew (S := fun w' => w'.cell? ⟨G, 0, none⟩ = some (.int .i64 cx) ∧ w'.cell? ⟨G, 1, none⟩ = some (.int .i64 cy)) (by kernel_rfl) ⟨k0, k1⟩ (fun hh => ?_)
      refine tkB (i := 0) (v := ?vz1) rfl ?hz1 ?rz1
      case hz1 => intro u hSu; go_simp <;> with_reducible rfl
      try simp only [nbs, Act.put]
      refine tkB (i := 1) (v := ?vz2) rfl ?hz2 ?rz2
      case hz2 => intro u hSu; go_simp <;> with_reducible rfl
      try simp only [nbs, Act.put]
      refine tkB (i := 2) (v := ?vz3) rfl ?hz3 ?rz3
      case hz3 => intro u hSu; go_simp <;> with_reducible rfl
      try simp only [nbs, Act.put]
      refine tkB (i := 3) (v := ?vz4) rfl ?hz4 ?rz4
      case hz4 => intro u hSu; go_simp <;> with_reducible rfl
      try simp only [nbs, Act.put]
      refine tkB (i := 4) (v := ?vz5) rfl ?hz5 ?rz5
      case hz5 => intro u hSu; go_simp <;> with_reducible rfl
      try simp only [nbs, Act.put]
      refine tkB (i := 5) (v := ?vz6) rfl ?hz6 ?rz6
      case hz6 => intro u hSu; go_simp <;> with_reducible rfl
      try simp only [nbs, Act.put]
      refine tkB (i := 6) (v := ?vz7) rfl ?hz7 ?rz7
      case hz7 => intro u hSu; go_simp <;> with_reducible rfl
      try simp only [nbs, Act.put]
      refine tkC (i := 7) rfl ?_
      try simp only [nbs, Act.put]
      refine tkC (i := 8) rfl ?_
      try simp only [nbs, Act.put]
      refine tkC (i := 9) rfl ?_
      try simp only [nbs, Act.put]
      refine tkB (i := 10) (v := ?vz8) rfl ?hz8 ?rz8
      case hz8 => intro u hSu; go_simp <;> with_reducible rfl
      try simp only [nbs, Act.put]
      refine tkB (i := 11) (v := ?vz9) rfl ?hz9 ?rz9
      case hz9 => intro u hSu; go_simp <;> with_reducible rfl
      try simp only [nbs, Act.put]
      refine tkB (i := 12) (v := ?vz10) rfl ?hz10 ?rz10
      case hz10 => intro u hSu; go_simp <;> with_reducible rfl
      try simp only [nbs, Act.put]
      refine tkB (i := 13) (v := ?vz11) rfl ?hz11 ?rz11
      case hz11 => intro u hSu; go_simp <;> with_reducible rfl
      try simp only [nbs, Act.put]
      refine tkB (i := 14) (v := ?vz12) rfl ?hz12 ?rz12
      case hz12 => intro u hSu; go_simp <;> with_reducible rfl
      try simp only [nbs, Act.put]
      refine tkB (i := 15) (v := ?vz13) rfl ?hz13 ?rz13
      case hz13 => intro u hSu; go_simp <;> with_reducible rfl
      try simp only [nbs, Act.put]
      refine tkB (i := 16) (v := ?vz14) rfl ?hz14 ?rz14
      case hz14 => intro u hSu; obtain ⟨s0, s1⟩ := hSu; go_simp <;> with_reducible rfl
      try simp only [nbs, Act.put]
      refine tkB (i := 17) (v := ?vz15) rfl ?hz15 ?rz15
      case hz15 => intro u hSu; go_simp <;> with_reducible rfl
      try simp only [nbs, Act.put]
      refine rdA (i := 18) rfl (fun K hK => ?_)
      go_simp
      go_wp2_with (go_at_call 7; (with_reducible refine (HQ.out _ (HOW.out.below (Below.refl _ _).drew)).mono ?_); rintro e wA ⟨rfl, hbA⟩)
      have kA0 := (hbA.cell (World.block_lt_of_cell? (h := hh.1))).trans hh.1
      have kA1 := (hbA.cell (World.block_lt_of_cell? (h := hh.2))).trans hh.2
      refine hK.out _ _ ⟨kA0, kA1⟩ (fun hh2 => ?_)
      clear hK K
      try simp only [nbs, Act.put]
      refine tkB (i := 19) (v := ?vz16) rfl ?hz16 ?rz16
      case hz16 => intro u hSu; go_simp <;> with_reducible rfl
      try simp only [nbs, Act.put]
      refine tkB (i := 20) (v := ?vz17) rfl ?hz17 ?rz17
      case hz17 => intro u hSu; go_simp <;> with_reducible rfl
      try simp only [nbs, Act.put]
      refine tkB (i := 21) (v := ?vz18) rfl ?hz18 ?rz18
      case hz18 => intro u hSu; go_simp <;> with_reducible rfl
      try simp only [nbs, Act.put]
      refine wpAnyH_done (by kernel_rfl) ?_ _
      go_wp2_with fail
      go_meet
      case rel => exact ⟨rfl, (Below.refl _ _).drew.trans (hbA.mono (Below.refl 0 _).drew.size)⟩
     ·
      have te : (outErr ol != 0) = true := bne_iff_ne.2 hz
      have te2 : (outErr ol == 0) = false := by simpa using hz
      have hx0 : cutX ol = 0 := by unfold cutX; rw [if_neg hz]
      have hy0 : cutY ol = 0 := by unfold cutY; rw [if_neg hz]
      have hq := neq_lpc 0 0
      rw [hx0] at k0
      rw [hy0] at k1
      clear hz HQC hx0 hy0
      generalize outErr ol = er at *
      generalize w2.heap.size = G at *
      go_quiet (fail)
      go_wp2_with fail
      go_meet
      case rel => exact ⟨rfl, below_dn (Below.refl _ _) _⟩
    case rest =>
     obtain ⟨rfl, hb5⟩ := hcut
     have hx5 := ext_trans hx4 hb5
     clear HQC tne k0 k1 hb5 hx4
     go_wp2_with fail
     refine (lpieces_any l _ _ (HP.out.below hx5) (by omega)).mono ?_
     rintro e w6 ⟨vq, rfl, hvq, hb6⟩
     have HQ := Lib.hid hvq
     obtain ⟨aoq, capq, rfl, _⟩ := hvq
     have hx6 := ext_trans hx5 hb6
     clear hx5 hb6
     go_wp2_with fail
     refine (nestE_any _ _ (HP.out.below hx6)).mono ?_
     rintro e w7 ⟨ov1, o1, n1, rfl, HR1, hov1, _, hb7⟩
     have HQ7 := Lib.hid (HQ.out.below hb7)
     have HV1 := Lib.hid hov1
     obtain ⟨ao1, cap1, rfl, _⟩ := hov1
     have hx7 := ext_trans hx6 hb7
     clear hx6 hb7
     go_wp2_with fail
     refine (qnest_any _ _ (fun h => nestRes_ord HR1.out h) HQ7.out).mono ?_
     rintro e w8 ⟨ov2, o2, n2, rfl, HR2, hov2, _, hb8⟩
     obtain ⟨rfl, rfl⟩ := nestRes_one HR1.out HR2.out
     have HL := Lib.hid (nestRes_len HR1.out)
     have HQ8 := Lib.hid (HQ7.out.below hb8)
     have HV18 := Lib.hid (HV1.out.below hb8)
     have HV2 := Lib.hid hov2
     obtain ⟨ao2, cap2, rfl, _⟩ := hov2
     have hx8 := ext_trans hx7 hb8
     clear hx7 hb8
     go_wp2_with fail
     refine (checkNestE_any ls _ _ _ (HP.out.below hx8) (HA.out.below hx8) HC.out).mono ?_
     rintro e w9 ⟨rfl, hb9⟩
     have HQ9 := Lib.hid (HQ8.out.below hb9)
     have HV19 := Lib.hid (HV18.out.below hb9)
     have HV29 := Lib.hid (HV2.out.below hb9)
     have hx9 := ext_trans hx8 hb9
     clear hx8 hb9
     go_wp2_with fail
     refine (qcheckNest_any ls _ _ _ HQ9.out (HA.out.below hx9) HC.out).mono ?_
     rintro e w10 ⟨rfl, hb10⟩
     have HQ10 := Lib.hid (HQ9.out.below hb10)
     have HV110 := Lib.hid (HV19.out.below hb10)
     have HV210 := Lib.hid (HV29.out.below hb10)
     have hx10 := ext_trans hx9 hb10
     clear hx9 hb10
     go_wp2_with fail
     refine (lbound_any _ _ (HP.out.below hx10)).mono ?_
     rintro e w11 ⟨rfl, hb11⟩
     have HQ11 := Lib.hid (HQ10.out.below hb11)
     have HV111 := Lib.hid (HV110.out.below hb11)
     have HV211 := Lib.hid (HV210.out.below hb11)
     have hx11 := ext_trans hx10 hb11
     clear hx10 hb11
     go_wp2_with fail
     refine (qnbound_any _ _ HQ11.out).mono ?_
     rintro e w12 ⟨rfl, hb12⟩
     have HV112 := Lib.hid (HV111.out.below hb12)
     have HV212 := Lib.hid (HV211.out.below hb12)
     have hx12 := ext_trans hx11 hb12
     clear hx11 hb12
     generalize pcsErr l m = er1 at *
     generalize chkErr l m ls = er2 at *
     generalize chkLen l m ls = ln at *
     generalize bndN l m = bn at *
     have te1 : (n1 == n1) = true := by simp
     have te2 : (er1 == er1) = true := by simp
     have te3 : (ln == ln) = true := by simp
     have te4 : (er2 == er2) = true := by simp
     have te5 : (bn == bn) = true := by simp
     go_wp2_with fail
     refine (equalPts_same o1 _ _ _ HV112.out HV212.out (by have := HL.out; omega)).mono ?_
     rintro e w13 ⟨rfl, hb13⟩
     go_wp2_with fail
     go_ret
     exact ⟨rfl, ext_trans hx12 hb13⟩

end Go.Proofs.YtofijjomfhmbjaaGreat
