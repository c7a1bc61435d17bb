/- Part e of the lemmas and walks. -/
import Derived.Test.YtemkhgdhoingiaaGreatEd

namespace Go.Proofs.YtemkhgdhoingiaaGreat
open Go.RowKit

abbrev Bx := Nat × Array Value × Nat
def plainV : Value → Bool
 | .int .u64 _ => false
 | .int .u32 _ => false
 | _ => true
def Fr (p : Bool) (w : World) (v : Value) (q : Rat) : Prop := if p then IsRat w v q else IsR w v q
abbrev Fx := Bool × Value × Rat
structure Sx (w0 w : World) (bs : List Bx) (fs : List Fx) : Prop where
 bel : Below w0.heap.size w0 w
 box : ∀ (i : Nat) (b : Bx), bs[i]? = some b → w.heap[b.1]? = some (.cells b.2.1 b.2.2 (0, 0)) ∧ w0.heap.size ≤ b.1 ∧ b.2.1.toList.all plainV = true
 nod : (bs.map (·.1)).Nodup
 fra : ∀ (i : Nat) (f : Fx), fs[i]? = some f → Fr f.1 w f.2.1 f.2.2
theorem IsRow.set_plain {k : IntKind} {w : World} {v : Value} {ds : List Nat} {B T : Nat} {cs : Array Value} (hk : k = .u64 ∨ k = .u32) (h : IsRow k w v ds) (hB : w.heap[B]? = some (.cells cs T (0, 0))) (hn : cs.toList.all plainV = true) (j : Nat) (u : Value) :
  IsRow k (w.setCell ⟨B, j, none⟩ u) v ds := by
 rcases h with h | ⟨h0, b, off, cap, rfl, h1, h2, h3, h4⟩
 ·
  exact .inl h
 ·
  have hne : b ≠ B := by
   rintro rfl
   have := h4 0 h0
   rw [cell_of_row w b (off + 0) cs T (0, 0) hB] at this
   have hm := List.all_eq_true.1 hn _ (Array.mem_toList_iff.2 (Array.mem_of_getElem? this))
   rcases hk with rfl | rfl <;> exact absurd hm (by simp [plainV])
  refine .inr ⟨h0, b, off, cap, rfl, h1, h2, by simpa [World.setCell] using h3, fun i hi => ?_⟩
  rw [← h4 i hi]
  exact World.cell?_of_block (w := w) (heap_setCell_other w ⟨B, j, none⟩ b u hne)
theorem Fr.set {p : Bool} {w : World} {v : Value} {q : Rat} {B T : Nat} {cs : Array Value} (h : Fr p w v q) (hB : w.heap[B]? = some (.cells cs T (0, 0))) (hn : cs.toList.all plainV = true) (j : Nat) (u : Value) : Fr p (w.setCell ⟨B, j, none⟩ u) v q := by
 cases p with
 | true =>
  obtain ⟨vn, vd, rfl, h1, h2⟩ := (h : IsRat w v q)
  exact (⟨vn, vd, rfl, IsRow.set_plain (.inl rfl) h1 hB hn j u, IsRow.set_plain (.inl rfl) h2 hB hn j u⟩ : IsRat _ _ _)
 | false =>
  obtain ⟨vn, vd, d', rfl, h1, h2, h3⟩ := (h : IsR w v q)
  exact (⟨vn, vd, d', rfl, IsRow.set_plain (.inr rfl) h1 hB hn j u, IsRow.set_plain (.inr rfl) h2 hB hn j u, h3⟩ : IsR _ _ _)
theorem Fr.below {p : Bool} {w w' : World} {v : Value} {q : Rat} (h : Fr p w v q) (hb : Below w.heap.size w w') : Fr p w' v q := by
 cases p with
 | true => exact IsRat.below (h : IsRat w v q) hb
 | false => exact IsR.below (h : IsR w v q) hb
theorem Sx.init (w : World) : Sx w w [] [] := ⟨Below.refl _ _, fun i b h => by simp at h, by simp, fun i f h => by simp at h⟩
theorem Sx.p {w0 w : World} {bs : List Bx} {fs : List Fx} (h : Sx w0 w bs fs) (i : Nat) (v : Value) (q : Rat) (hi : fs[i]? = some (true, v, q)) : IsRat w v q := h.fra i _ hi
theorem Sx.q {w0 w : World} {bs : List Bx} {fs : List Fx} (h : Sx w0 w bs fs) (i : Nat) (v : Value) (q : Rat) (hi : fs[i]? = some (false, v, q)) : IsR w v q := h.fra i _ hi
theorem Sx.at {w0 w : World} {bs : List Bx} {fs : List Fx} (h : Sx w0 w bs fs) (i : Nat) (B T : Nat) (cs : Array Value) (hi : bs[i]? = some (B, cs, T)) : w.heap[B]? = some (.cells cs T (0, 0)) := (h.box i _ hi).1
theorem Sx.addP {w0 w : World} {bs : List Bx} {fs : List Fx} (h : Sx w0 w bs fs) {v : Value} {q : Rat} (hv : IsRat w v q) : Sx w0 w bs ((true, v, q) :: fs) :=
 ⟨h.bel, h.box, h.nod, fun i f hf => by
  match i, hf with
  | 0, hf => simp at hf; subst hf; exact hv
  | i + 1, hf => exact h.fra i f (by simpa using hf)⟩
theorem Sx.addQ {w0 w : World} {bs : List Bx} {fs : List Fx} (h : Sx w0 w bs fs) {v : Value} {q : Rat} (hv : IsR w v q) : Sx w0 w bs ((false, v, q) :: fs) :=
 ⟨h.bel, h.box, h.nod, fun i f hf => by
  match i, hf with
  | 0, hf => simp at hf; subst hf; exact hv
  | i + 1, hf => exact h.fra i f (by simpa using hf)⟩
theorem Sx.below {w0 w w' : World} {bs : List Bx} {fs : List Fx} (h : Sx w0 w bs fs) (hb : Below w.heap.size w w') : Sx w0 w' bs fs :=
 ⟨ext_trans h.bel hb, fun i b hi => by obtain ⟨h1, h2⟩ := h.box i b hi; exact ⟨blk_keep h1 hb (blk_lt h1), h2⟩, h.nod, fun i f hf => (h.fra i f hf).below hb⟩
theorem Sx.drew {w0 w : World} {bs : List Bx} {fs : List Fx} (h : Sx w0 w bs fs) : Sx w0 w.drew bs fs := h.below (Below.refl _ _).drew
theorem Sx.alloc {w0 w : World} {bs : List Bx} {fs : List Fx} (h : Sx w0 w bs fs) {B T : Nat} {cs : Array Value} (hB : w.heap.size = B) (hp : cs.toList.all plainV = true) : Sx w0 (w.alloc (.cells cs T)) ((B, cs, T) :: bs) fs := by
 subst hB
 have hb := (Below.refl w.heap.size w).alloc (Nat.le_refl _) (.cells cs T)
 have h' := h.below hb
 refine ⟨h'.bel, fun i b hi => ?_, ?_, h'.fra⟩
 ·
  match i, hi with
  | 0, hi =>
   simp at hi
   subst hi
   exact ⟨blk_new w cs T, h.bel.size, hp⟩
  | i + 1, hi => exact h'.box i b (by simpa using hi)
 ·
  rw [List.map_cons, List.nodup_cons]
  refine ⟨fun hm => ?_, h.nod⟩
  obtain ⟨b, hb1, hb2⟩ := List.mem_map.1 hm
  obtain ⟨i, hi⟩ := List.mem_iff_getElem?.1 hb1
  have := blk_lt (h.box i b hi).1
  omega
theorem Sx.set {w0 w : World} {bs : List Bx} {fs : List Fx} (h : Sx w0 w bs fs) (i : Nat) {B T : Nat} {cs : Array Value} (hi : bs[i]? = some (B, cs, T)) (j : Nat) {v : Value} (hv : plainV v = true) : Sx w0 (w.setCell ⟨B, j, none⟩ v) (bs.set i (B, cs.setIfInBounds j v, T)) fs := by
 obtain ⟨h1, h2, h3⟩ := h.box i _ hi
 refine ⟨h.bel.setCell (p := ⟨B, j, none⟩) h2 v, fun k b hk => ?_, ?_, fun k f hf => (h.fra k f hf).set h1 h3 j v⟩
 ·
  rw [List.getElem?_set] at hk
  by_cases hik : i = k
  ·
   subst hik
   rw [if_pos rfl] at hk
   split at hk
   ·
    injection hk with hk
    subst hk
    refine ⟨blk_set h1 j v, h2, ?_⟩
    rw [List.all_eq_true] at h3 ⊢
    intro u hu
    rw [Array.toList_setIfInBounds] at hu
    rcases List.mem_or_eq_of_mem_set hu with hu | hu
    ·
     exact h3 u hu
    ·
     rw [hu]; exact hv
   ·
    exact absurd hk (by simp)
  ·
   rw [if_neg hik] at hk
   obtain ⟨g1, g2⟩ := h.box k b hk
   have hne : b.1 ≠ B := by
    intro he
    have e1 : (bs.map (·.1))[i]? = some B := by rw [List.getElem?_map, hi]; rfl
    have e2 : (bs.map (·.1))[k]? = some B := by rw [List.getElem?_map, hk]; simp [he]
    obtain ⟨l1, _⟩ := List.getElem?_eq_some_iff.1 e1
    exact hik ((List.getElem?_inj l1 h.nod).1 (e1.trans e2.symm))
   exact ⟨(heap_setCell_other w ⟨B, j, none⟩ b.1 v hne).trans g1, g2⟩
 ·
  have e : (bs.set i (B, cs.setIfInBounds j v, T)).map (·.1) = bs.map (·.1) := by
   rw [List.map_set]
   apply List.ext_getElem?
   intro k
   rw [List.getElem?_set]
   by_cases hik : i = k
   ·
    subst hik
    have e1 : (bs.map (·.1))[i]? = some B := by rw [List.getElem?_map, hi]; rfl
    obtain ⟨l1, _⟩ := List.getElem?_eq_some_iff.1 e1
    rw [if_pos rfl, if_pos l1, e1]
   ·
    rw [if_neg hik]
  rw [e]
  exact h.nod
theorem Sx.erase {w0 w : World} {bs : List Bx} {fs : List Fx} (h : Sx w0 w bs fs) (i : Nat) : Sx w0 w (bs.eraseIdx i) [] := by
 refine ⟨h.bel, fun k b hk => ?_, ?_, fun k f hf => by simp at hf⟩
 ·
  rw [List.getElem?_eraseIdx] at hk
  split at hk
  ·
   exact h.box _ _ hk
  ·
   exact h.box _ _ hk
 ·
  exact h.nod.sublist ((List.eraseIdx_sublist _ _).map _)
theorem Sx.bare {w0 w : World} {bs : List Bx} {fs : List Fx} (h : Sx w0 w bs fs) : Sx w0 w bs [] := ⟨h.bel, h.box, h.nod, fun k f hf => by simp at hf⟩
theorem Sx.set3 {w0 w : World} {bs : List Bx} {fs : List Fx} (h : Sx w0 w bs fs) (i : Nat) {B T : Nat} {p : R3} (x : R3) (hi : bs[i]? = some (B, p.arr, T)) :
  Sx w0 (((w.setCell ⟨B, 0, none⟩ (.bool x.b)).setCell ⟨B, 1, none⟩ (.slice x.a x.n x.c)).setCell ⟨B, 2, none⟩ (.slice x.d x.m x.e)) (bs.set i (B, x.arr, T)) fs := by
 have hl := (List.getElem?_eq_some_iff.1 hi).1
 have g := ((h.set i hi 0 (v := .bool x.b) rfl).set i (by rw [List.getElem?_set, if_pos rfl, if_pos hl]) 1 (v := .slice x.a x.n x.c) rfl).set i (by rw [List.getElem?_set, if_pos rfl, if_pos (by simpa using hl)]) 2 (v := .slice x.d x.m x.e) rfl
 simpa using g
theorem Sx.st_R {w0 w : World} {bs : List Bx} {fs : List Fx} (h : Sx w0 w bs fs) (i : Nat) (o0 : R3) (n0 : R3) {B T : Nat} (hi : bs[i]? = some (B, #[.bool o0.b, .slice o0.a o0.n o0.c, .slice o0.d o0.m o0.e], T)) :
  Sx w0 ((((w).setCell ⟨B, 0, none⟩ (.bool n0.b)).setCell ⟨B, 1, none⟩ (.slice n0.a n0.n n0.c)).setCell ⟨B, 2, none⟩ (.slice n0.d n0.m n0.e)) (bs.set i (B, #[.bool n0.b, .slice n0.a n0.n n0.c, .slice n0.d n0.m n0.e], T)) fs := by
 have hl := (List.getElem?_eq_some_iff.1 hi).1
 have g := (((h).set i hi 0 (v := .bool n0.b) rfl).set i (by rw [List.getElem?_set, if_pos rfl, if_pos (by simpa using hl)]) 1 (v := .slice n0.a n0.n n0.c) rfl).set i (by rw [List.getElem?_set, if_pos rfl, if_pos (by simpa using hl)]) 2 (v := .slice n0.d n0.m n0.e) rfl
 simpa using g
theorem Sx.ne {w0 w : World} {bs : List Bx} {fs : List Fx} (h : Sx w0 w bs fs) (i j : Nat) {B T : Nat} {cs : Array Value} {B' T' : Nat} {cs' : Array Value} (hi : bs[i]? = some (B, cs, T)) (hj : bs[j]? = some (B', cs', T')) (hij : i ≠ j) : B ≠ B' := by
 intro e
 obtain ⟨l1, e1⟩ := List.getElem?_eq_some_iff.1 hi
 obtain ⟨l2, e2⟩ := List.getElem?_eq_some_iff.1 hj
 refine hij ((List.getElem_inj (h₀ := by simpa using l1) (h₁ := by simpa using l2) h.nod).1 ?_)
 simp [e1, e2, e]
theorem nb1 {α : Type _} {xs : List α} {i : Nat} (h : i < xs.toArray.size) : xs.toArray[i] = xs[i] := List.getElem_toArray h
theorem nb2 {α : Type _} (a : α) (l : List α) (h : 0 < (a :: l).length) : (a :: l)[0] = a := List.getElem_cons_zero a l h
theorem nb3 {α : Type _} (a : α) (l : List α) (i : Nat) (h : i + 1 < (a :: l).length) : (a :: l)[i + 1] = l[i]'(by simpa using h) := List.getElem_cons_succ a l i h
theorem nb4 {α : Type _} (l : List α) (i : Nat) (a : α) : l.toArray.setIfInBounds i a = (l.set i a).toArray := List.setIfInBounds_toArray l i a
theorem nb5 {α : Type _} {x : α} {xs : List α} {a : α} : (x :: xs).set 0 a = a :: xs := List.set_cons_zero
theorem nb6 {α : Type _} {x : α} {xs : List α} {i : Nat} {a : α} : (x :: xs).set (i + 1) a = x :: xs.set i a := List.set_cons_succ
section
variable {P : Program} {ops : Array Oper} {Q : Exit → Act → World → Prop} {md : Region.Mode} {S : World → Prop}
theorem tkA {i : Nat} {oi : Oper} {v : Value} {fuel : Nat} {listed : Array Bool} {a : Act} {w : World} (hi : ops[i]? = some oi) (hy : YieldsIf P ops S oi v a) (hS : S w)
  (h : wpAnyH P md ops Q S fuel (listed.setIfInBounds i true) (a.put oi.dst v) w) (hs : Region.noSelect ops = true := by kernel_rfl) (hf : Region.free md ops listed i = true := by kernel_rfl)
  (hr : (Region.ready md ops listed).contains i = true := by kernel_rfl) (hQ : ∀ c a w, Q (.panic c) (a.put oi.dst v) w → Q (.panic c) a w := by exact fun _ _ _ h => h) : wpAnyH P md ops Q S (fuel + 1) listed a w :=
 wpAnyH_take hi hs hf hr hQ hy hS h
theorem rdA {i : Nat} {o : Oper} {fuel : Nat} {listed : Array Bool} {a : Act} {w : World} (ho : ops[i]? = some o)
  (h : ∀ K' : Act → World → Prop, Shut (∀ a w, S w → (S w → wpAnyH P md ops Q S fuel (listed.setIfInBounds i true) a w) → K' a w) → if Region.wanted o (yielded ops a.tmps) = true then Oper.wp P o a w K' Q else K' (a.put o.dst undef) w)
  (hr : Region.ready md ops listed = [i] := by kernel_rfl) : wpAnyH P md ops Q S (fuel + 1) listed a w :=
 wpAnyH_ready hr (by simp) (AllReadyH.cons ho h AllReadyH.nil)
end
end Go.Proofs.YtemkhgdhoingiaaGreat

namespace Go.Proofs.YtemkhgdhoingiaaGreat
open Go.RowKit

structure MB (w : World) (y : R3) (q : Rat) (wr : World) : Prop where
 bel : Below w.heap.size w wr
 r : wr.heap[w.heap.size]? = some (.cells r30.arr 32 (0, 0))
 m : wr.heap[w.heap.size + 1]? = some (.cells y.arr 32 (0, 0))
 v : IsRat wr y.val q
theorem MB.below {w a b : World} {y : R3} {q : Rat} (h : MB w y q a) (hb : Below a.heap.size a b) : MB w y q b := ⟨ext_trans h.bel hb, blk_keep h.r hb (blk_lt h.r), blk_keep h.m hb (blk_lt h.m), h.v.below hb⟩
theorem MB.set {w a : World} {y x : R3} {q p : Rat} (h : MB w y q a) (hx : IsRat a x.val p) : MB w x p (((a.setCell ⟨w.heap.size + 1, 0, none⟩ (.bool x.b)).setCell ⟨w.heap.size + 1, 1, none⟩ (.slice x.a x.n x.c)).setCell ⟨w.heap.size + 1, 2, none⟩ (.slice x.d x.m x.e)) :=
 ⟨below3r h.bel (by omega), blk_keep h.r (below3r (Below.refl (w.heap.size + 1) a) (Nat.le_refl _)) (by omega), set3r h.m, hx.set3r h.m⟩
end Go.Proofs.YtemkhgdhoingiaaGreat

namespace Go.Proofs.YtemkhgdhoingiaaGreat
open Go.RowKit

theorem dig64_le (n : Nat) : (dig b64 n).length ≤ (dig b32 n).length := by
 refine dig_length_le b64_two _ _ ?_
 refine Nat.lt_of_lt_of_le (lt_pow_dig_length b32_two n) (Nat.pow_le_pow_left (by unfold b32 b64; decide) _)
end Go.Proofs.YtemkhgdhoingiaaGreat

namespace Go.Proofs.YtemkhgdhoingiaaGreat
open Go.RowKit

theorem decL_step {t : Nat} (h : t ≠ 0) : decL t = decL (t / 10) ++ [chD (t % 10)] := by
 unfold decL
 rw [dig_pos ten_two h]
 simp
theorem decStep (q k r : Nat) (h : 0 < q ∨ 0 < r) : decL (q * 10 ^ (k + 1) + r) = decL (q * 10 ^ k + r / 10) ++ [chD (r % 10)] := by
 have hp : 0 < 10 ^ (k + 1) := Nat.pow_pos (by omega)
 have e : q * 10 ^ (k + 1) + r = (q * 10 ^ k) * 10 + r := by rw [Nat.pow_succ, Nat.mul_assoc]
 rw [decL_step, e]
 ·
  congr 2
  ·
   omega
  ·
   congr 1; omega
 ·
  rcases h with h | h
  ·
   have := Nat.mul_pos h hp; omega
  ·
   omega
theorem slice_dig0 (w : World) : (Instr.sliceAt 9 (.string { data := #[48, 49, 50, 51, 52, 53, 54, 55, 56, 57] }) (some (.int .u32 0)) (some (.int .u32 1)) none).run Tryz.prog w = .ok (.string (strB [chD 0])) w := by kernel_rfl
theorem slice_dig1 (w : World) : (Instr.sliceAt 9 (.string { data := #[48, 49, 50, 51, 52, 53, 54, 55, 56, 57] }) (some (.int .u32 1)) (some (.int .u32 2)) none).run Tryz.prog w = .ok (.string (strB [chD 1])) w := by kernel_rfl
theorem slice_dig2 (w : World) : (Instr.sliceAt 9 (.string { data := #[48, 49, 50, 51, 52, 53, 54, 55, 56, 57] }) (some (.int .u32 2)) (some (.int .u32 3)) none).run Tryz.prog w = .ok (.string (strB [chD 2])) w := by kernel_rfl
theorem slice_dig3 (w : World) : (Instr.sliceAt 9 (.string { data := #[48, 49, 50, 51, 52, 53, 54, 55, 56, 57] }) (some (.int .u32 3)) (some (.int .u32 4)) none).run Tryz.prog w = .ok (.string (strB [chD 3])) w := by kernel_rfl
theorem slice_dig4 (w : World) : (Instr.sliceAt 9 (.string { data := #[48, 49, 50, 51, 52, 53, 54, 55, 56, 57] }) (some (.int .u32 4)) (some (.int .u32 5)) none).run Tryz.prog w = .ok (.string (strB [chD 4])) w := by kernel_rfl
theorem slice_dig5 (w : World) : (Instr.sliceAt 9 (.string { data := #[48, 49, 50, 51, 52, 53, 54, 55, 56, 57] }) (some (.int .u32 5)) (some (.int .u32 6)) none).run Tryz.prog w = .ok (.string (strB [chD 5])) w := by kernel_rfl
theorem slice_dig6 (w : World) : (Instr.sliceAt 9 (.string { data := #[48, 49, 50, 51, 52, 53, 54, 55, 56, 57] }) (some (.int .u32 6)) (some (.int .u32 7)) none).run Tryz.prog w = .ok (.string (strB [chD 6])) w := by kernel_rfl
theorem slice_dig7 (w : World) : (Instr.sliceAt 9 (.string { data := #[48, 49, 50, 51, 52, 53, 54, 55, 56, 57] }) (some (.int .u32 7)) (some (.int .u32 8)) none).run Tryz.prog w = .ok (.string (strB [chD 7])) w := by kernel_rfl
theorem slice_dig8 (w : World) : (Instr.sliceAt 9 (.string { data := #[48, 49, 50, 51, 52, 53, 54, 55, 56, 57] }) (some (.int .u32 8)) (some (.int .u32 9)) none).run Tryz.prog w = .ok (.string (strB [chD 8])) w := by kernel_rfl
theorem slice_dig9 (w : World) : (Instr.sliceAt 9 (.string { data := #[48, 49, 50, 51, 52, 53, 54, 55, 56, 57] }) (some (.int .u32 9)) (some (.int .u32 10)) none).run Tryz.prog w = .ok (.string (strB [chD 9])) w := by kernel_rfl
theorem slice_dig (d : Nat) (hd : d < 10) (w : World) : (Instr.sliceAt 9 (.string { data := #[48, 49, 50, 51, 52, 53, 54, 55, 56, 57] }) (some (.int .u32 (d : Int))) (some (.int .u32 ((d : Int) + 1))) none).run Tryz.prog w = .ok (.string (strB [chD d])) w := by
 have h : d = 0 ∨ d = 1 ∨ d = 2 ∨ d = 3 ∨ d = 4 ∨ d = 5 ∨ d = 6 ∨ d = 7 ∨ d = 8 ∨ d = 9 := by omega
 rcases h with rfl | rfl | rfl | rfl | rfl | rfl | rfl | rfl | rfl | rfl
 ·
  exact slice_dig0 w
 ·
  exact slice_dig1 w
 ·
  exact slice_dig2 w
 ·
  exact slice_dig3 w
 ·
  exact slice_dig4 w
 ·
  exact slice_dig5 w
 ·
  exact slice_dig6 w
 ·
  exact slice_dig7 w
 ·
  exact slice_dig8 w
 ·
  exact slice_dig9 w
def strLen : Value → Nat
 | .string b => b.size
 | _ => 0
set_option maxRecDepth 100000 in
set_option maxHeartbeats 2000000 in
theorem qdigits_any (n : Nat) (v : Value) (w : World) (h : IsNat .u32 b32 w v n) (hs : (dig b32 n).length ≤ 1099511627776) (hl : (decL n).length ≤ 1374389534720) : Calls Tryz.prog 68 #[v] w (RetStr (decT n) w) := by
 have HN := Lib.hid h
 have HSZ := Lib.hid hs
 obtain ⟨ao, cap, rfl, _⟩ := IsRow.opened h
 rcases Nat.eq_zero_or_pos n with h0 | h0
 ·
  subst h0
  have hd : (dig b32 0).length = 0 := rfl
  clear h hs hl HN HSZ
  rw [hd]
  go_enter Tryz.func68, Tryz.ntmps68
  go_wp2_with fail
  go_ret
  exact ⟨rfl, Below.refl _ _⟩
 ·
  have hlen : 0 < (dig b32 n).length := by
   rcases Nat.eq_zero_or_pos (dig b32 n).length with h1 | h1
   ·
    exact absurd ((dig_nil_iff b32_two _).1 (List.eq_nil_of_length_eq_zero h1)) (by omega)
   ·
    exact h1
  have HT : Hid (decT n = decL n) := by show _ = _; unfold decT; rw [if_neg (by omega)]
  have t0 : ((((dig b32 n).length : Nat) : Int) == 0) = false := beq_eq_false_iff_ne.2 (by omega)
  have t1 : ((dig b32 n).length == 0) = false := beq_eq_false_iff_ne.2 (by omega)
  have HL := Lib.hid hl
  clear h hs h0 hl
  go_enter Tryz.func68, Tryz.ntmps68
  go_wp2_with fail
  go_loopw [0, 3] (fun av sv wr => ∃ (m : Nat) (L : List UInt8), IsNat .u32 b32 wr av m ∧ sv = .string (strB L) ∧ Hid (decL m ++ L = decL n) ∧ Hid (m ≤ n) ∧ Hid (Below w.heap.size w wr))
   (fun _ sv _ => (decL n).length - strLen sv)
  case atStart => exact ⟨n, [], HN.out, rfl, by show _ ++ _ = _; simp, Nat.le_refl _, Below.refl _ _⟩
  case round =>
   obtain ⟨m, L, hav, rfl, HM, HMN, HB⟩ := hrel
   obtain ⟨am, cm, rfl, _⟩ := IsRow.opened hav
   have HAV := Lib.hid hav
   clear hav
   have HLL : Hid (L.length ≤ 1374389534720) := by
    show _ ≤ _
    have h1 := congrArg List.length HM.out
    rw [List.length_append] at h1
    have := HL.out
    omega
   rcases Nat.eq_zero_or_pos m with h0 | h0
   ·
    subst h0
    have hd : (dig b32 0).length = 0 := rfl
    rw [hd]
    have HR : Hid (decT n = L) := by show _ = _; rw [HT.out, ← HM.out]; rfl
    clear hd HAV
    go_wp2_with fail
    go_ret
    exact ⟨by rw [HR.out] <;> rfl, HB.out⟩
   ·
    have hlen : 0 < (dig b32 m).length := by
     rcases Nat.eq_zero_or_pos (dig b32 m).length with h1 | h1
     ·
      exact absurd ((dig_nil_iff b32_two _).1 (List.eq_nil_of_length_eq_zero h1)) (by omega)
     ·
      exact h1
    have HP := Lib.hid h0
    have HDL : Hid ((dig b32 m).length ≤ 1099511627776) := Nat.le_trans (dig_length_mono b32_two HMN.out) HSZ.out
    clear h0
    go_wp2_with fail
    refine (byDigit_any m 1000000000 _ _ HAV.out HDL.out (by omega) (by unfold b32; omega)).mono ?_
    rintro e w1 ⟨va, rfl, hva, hb1⟩
    obtain ⟨aq, cq, rfl, _⟩ := IsRow.opened hva
    have HVA := Lib.hid hva
    have HB1 := Lib.hid (ext_trans HB.out hb1)
    have hrb : m % 1000000000 < 1000000000 := Nat.mod_lt _ (by omega)
    have HDM : Hid (m / 1000000000 * 1000000000 + m % 1000000000 = m) := by show _ = _; omega
    clear hva hb1
    go_wp2_with fail
    go_loopw [3, 5, 6] (fun sv rv kv wx => ∃ (k r : Nat) (L2 : List UInt8), k ≤ 9 ∧ kv = .int .i64 k ∧ rv = .int .u32 r ∧ r < 1000000000 ∧ sv = .string (strB L2) ∧ Hid (decL (m / 1000000000 * 10 ^ (9 - k) + r) ++ L2 = decL n) ∧ Hid (L2.length = L.length + k) ∧ Hid (r < 10 ^ (9 - k)) ∧ w1 = wx)
     (fun _ _ kv _ => 9 - (intOf kv).toNat)
    case atStart => exact ⟨0, m % 1000000000, L, by omega, rfl, by go_num, hrb, rfl, by show _ = _; rw [show m / 1000000000 * 10 ^ (9 - 0) + m % 1000000000 = m from HDM.out]; exact HM.out, rfl, hrb, rfl⟩
    case round =>
     obtain ⟨k, r, L2, hk9, rfl, rfl, hr9, rfl, HM2, HLN, HRB, rfl⟩ := hrel
     have HL2L : Hid (L2.length ≤ 1374389534720) := by
      show _ ≤ _
      have h1 := congrArg List.length HM2.out
      rw [List.length_append] at h1
      have := HL.out
      omega
     by_cases hk : k < 9
     ·
      rcases Nat.eq_zero_or_pos (m / 1000000000) with hq | hq
      ·
       have hd : (dig b32 (m / 1000000000)).length = 0 := by rw [hq]; rfl
       rcases Nat.eq_zero_or_pos r with hr | hr
       ·
        subst hr
        have HQ := Lib.hid hq
        have HD0 := Lib.hid hd
        rw [hd]
        clear hq hd
        go_wp2_with fail
        exact ⟨⟨m / 1000000000, L2, (by have := HVA.out; rw [HD0.out] at this; exact this), rfl, by
         show _ = _
         rw [← HM2.out, show m / 1000000000 * 10 ^ (9 - k) + 0 = m / 1000000000 from by rw [HQ.out, Nat.zero_mul]], Nat.le_trans (Nat.div_le_self _ _) HMN.out, HB1.out⟩, by
         have e1 : (strB L2).size = L2.length := rfl
         have e2 : (strB L).size = L.length := rfl
         have h1 := congrArg List.length HM2.out
         rw [List.length_append] at h1
         have h2 := HLN.out
         have h3 : 0 < k := by
          rcases Nat.eq_zero_or_pos k with h0 | h0
          ·
           exfalso
           subst h0
           have h4 := congrArg List.length (HM2.out.trans HM.out.symm)
           rw [show m / 1000000000 * 10 ^ (9 - 0) + 0 = 0 by rw [HQ.out, Nat.zero_mul], List.length_append, List.length_append, decL_zero, HLN.out] at h4
           have h5 : decL m ≠ [] := fun h => absurd ((decL_nil m).1 h) (by have := HP.out; omega)
           have h6 := List.length_pos_iff.2 h5
           rw [List.length_nil] at h4
           omega
          ·
           exact h0
         show (decL n).length - (strB L2).size < (decL n).length - (strB L).size
         rw [e1, e2]
         omega⟩
       ·
        rw [hd]
        clear hq hd
        have hr10 : r % 10 < 10 := by omega
        have hs1 := slice_dig (r % 10) hr10 w1
        have hs2 := slice_dig (r % 10) hr10 w1
        have e1 : ((r % 10 : Nat) : Int) = (r : Int) % 10 := by omega
        rw [e1] at hs2
        have HC : Hid (strB [chD (r % 10)] ++ strB L2 = strB (chD (r % 10) :: L2)) := by show _ = _; rw [strB_append]; rfl
        have hcat := HC.out
        have hz1 : (strB [chD (r % 10)]).size = 1 := rfl
        have hz2 : (strB L2).size ≤ 1374389534720 := HL2L.out
        have HK := Lib.hid hk
        have HQR : Hid (0 < m / 1000000000 ∨ 0 < r) := .inr hr
        obtain ⟨k', hk'⟩ : ∃ k', 9 - k = k' + 1 := ⟨8 - k, by omega⟩
        have HK' := Lib.hid hk'
        clear e1 hk'
        go_wp2_with fail
        exact ⟨⟨k + 1, r / 10, chD (r % 10) :: L2, by omega, by go_num, by go_num, by omega, rfl, by
         show _ = _
         rw [show 9 - (k + 1) = k' by have := HK'.out; omega, ← HM2.out, HK'.out, decStep _ _ _ HQR.out, List.append_assoc]; rfl, by show _ = _; rw [List.length_cons, HLN.out]; omega, by
         show r / 10 < _
         have h1 : r < 10 ^ (9 - k) := HRB.out
         rw [HK'.out, Nat.pow_succ] at h1
         rw [show 9 - (k + 1) = k' by have := HK'.out; omega]
         omega, trivial⟩, by simp [intOf]; omega⟩
      ·
       have hd : 0 < (dig b32 (m / 1000000000)).length := by
        rcases Nat.eq_zero_or_pos (dig b32 (m / 1000000000)).length with h1 | h1
        ·
         exact absurd ((dig_nil_iff b32_two _).1 (List.eq_nil_of_length_eq_zero h1)) (by omega)
        ·
         exact h1
       have hr10 : r % 10 < 10 := by omega
       have hs1 := slice_dig (r % 10) hr10 w1
       have hs2 := slice_dig (r % 10) hr10 w1
       have e1 : ((r % 10 : Nat) : Int) = (r : Int) % 10 := by omega
       rw [e1] at hs2
       have HC : Hid (strB [chD (r % 10)] ++ strB L2 = strB (chD (r % 10) :: L2)) := by show _ = _; rw [strB_append]; rfl
       have hcat := HC.out
       have hz1 : (strB [chD (r % 10)]).size = 1 := rfl
       have hz2 : (strB L2).size ≤ 1374389534720 := HL2L.out
       have HK := Lib.hid hk
       have HQR : Hid (0 < m / 1000000000 ∨ 0 < r) := .inl hq
       obtain ⟨k', hk'⟩ : ∃ k', 9 - k = k' + 1 := ⟨8 - k, by omega⟩
       have HK' := Lib.hid hk'
       clear e1 hk'
       go_wp2_with fail
       exact ⟨⟨k + 1, r / 10, chD (r % 10) :: L2, by omega, by go_num, by go_num, by omega, rfl, by
        show _ = _
        rw [show 9 - (k + 1) = k' by have := HK'.out; omega, ← HM2.out, HK'.out, decStep _ _ _ HQR.out, List.append_assoc]; rfl, by show _ = _; rw [List.length_cons, HLN.out]; omega, by
        show r / 10 < _
        have h1 : r < 10 ^ (9 - k) := HRB.out
        rw [HK'.out, Nat.pow_succ] at h1
        rw [show 9 - (k + 1) = k' by have := HK'.out; omega]
        omega, trivial⟩, by simp [intOf]; omega⟩
     ·
      obtain rfl : k = 9 := by omega
      obtain rfl : r = 0 := by
       have h1 : r < 10 ^ (9 - 9) := HRB.out
       omega
      clear hk
      go_wp2_with fail
      exact ⟨⟨m / 1000000000, L2, HVA.out, rfl, by
       show _ = _
       rw [← HM2.out, show m / 1000000000 * 10 ^ (9 - 9) + 0 = m / 1000000000 from by simp], Nat.le_trans (Nat.div_le_self _ _) HMN.out, HB1.out⟩, by
       have e1 : (strB L2).size = L2.length := rfl
       have e2 : (strB L).size = L.length := rfl
       have h1 := congrArg List.length HM2.out
       rw [List.length_append] at h1
       have h2 := HLN.out
       have h3 : 0 < 9 := by omega
       show (decL n).length - (strB L2).size < (decL n).length - (strB L).size
       rw [e1, e2]
       omega⟩
theorem decT_len32 (n : Nat) (h : (dig b32 n).length ≤ 1000000000) : (strB (decT n)).size ≤ 20000000001 := by
 have h1 := digits_len n
 have h2 := dig64_le n
 rw [strB_size]
 unfold decT
 split
 ·
  simp
 ·
  rw [decL_length]; omega
theorem decL_len32 (n : Nat) (h : (dig b32 n).length ≤ 1000000000) : (decL n).length ≤ 20000000000 := by
 have h1 := digits_len n
 have h2 := dig64_le n
 rw [decL_length]; omega
set_option maxRecDepth 100000 in
set_option maxHeartbeats 2000000 in
theorem qtext_any (q : Rat) (v : Value) (w : World) (h : IsR w v q) (hs : szQ q 1000000000) : Calls Tryz.prog 34 #[v] w (RetStr (txtQ q) w) := by
 obtain ⟨d', a1, c1, a2, c2, rfl, n1, n2, hd⟩ := h.opened
 have N1 := Lib.hid n1
 have N2 := Lib.hid n2
 have HD := Lib.hid hd
 have HS := Lib.hid hs
 have hB := blk_new w #[.bool (decide (q.num < 0)), .slice a1 (dig b32 q.num.natAbs).length c1, .slice a2 (dig b32 d').length c2] 37
 have hal := (Below.refl w.heap.size w).alloc (Nat.le_refl _) (.cells #[.bool (decide (q.num < 0)), .slice a1 (dig b32 q.num.natAbs).length c1, .slice a2 (dig b32 d').length c2] 37)
 have Htx : Hid (txtQ q = (if q.num < 0 then [45] else []) ++ (decT q.num.natAbs ++ (if q.den = 1 then [] else 47 :: decT q.den))) := rfl
 have HX := Lib.hid decT_len32
 have HXL := Lib.hid decL_len32
 clear h n1 n2 hs hd
 go_enter Tryz.func34, Tryz.ntmps34
 go_wp2_with fail
 refine (qdigits_any q.num.natAbs _ _ (N1.out.below hal) (Nat.le_trans HS.out.1 (by omega)) (Nat.le_trans (HXL.out _ HS.out.1) (by omega))).mono ?_
 rintro e w1 ⟨rfl, hb1⟩
 have hB1 := blk_keep hB hb1 (blk_lt hB)
 have hx1 := ext_trans hal hb1
 have p0 := blk_cell hB1 0 (.bool (decide (q.num < 0))) rfl
 have p1 := blk_cell hB1 1 (.slice a1 (dig b32 q.num.natAbs).length c1) rfl
 have p2 := blk_cell hB1 2 (.slice a2 (dig b32 d').length c2) rfl
 clear hb1
 by_cases hneg : q.num < 0
 ·
  have tn : decide (q.num < 0) = true := decide_eq_true hneg
  have Hneg := Lib.hid hneg
  clear hneg
  have hz0 : (strB (decT q.num.natAbs)).size ≤ 20000000001 := HX.out _ HS.out.1
  obtain ⟨X, hX⟩ : ∃ X, X = 45 :: decT q.num.natAbs := ⟨_, rfl⟩
  have hcat : { data := #[45] } ++ strB (decT q.num.natAbs) = strB X := by rw [hX, show ({ data := #[45] } : ByteArray) = strB [45] from rfl, strB_append]; rfl
  have ho1 : (ByteArray.mk #[45]).size = 1 := rfl
  have hz2 : (strB X).size ≤ 20000000002 := by rw [hX]; rw [strB_size] at hz0 ⊢; rw [List.length_cons]; omega
  have HXX := Lib.hid hX
  clear hX
  clear hB hal
  go_wp2_with fail
  refine (qunder_any d' q.den _ _ _ _ _ _ _ (N2.out.below hx1) HD.out q.den_nz).mono ?_
  rintro e w2 ⟨vu, rfl, hvu, hb2⟩
  have HX2 := Lib.hid (ext_trans hx1 hb2)
  have hB2 := blk_keep hB1 hb2 (blk_lt hB1)
  have HVU := Lib.hid hvu
  clear hb2 hvu hB1 p0 p1 p2
  go_wp2_with fail
  refine (nat_any 1 _ (by unfold b64; omega)).mono ?_
  rintro e w3 ⟨v1, rfl, hv1, hb3⟩
  replace HX2 := Lib.hid (ext_trans HX2.out hb3)
  have hB3 := blk_keep hB2 hb3 (blk_lt hB2)
  replace HVU := Lib.hid (HVU.out.below hb3)
  have HV1 := Lib.hid hv1
  clear hb3 hv1 hB2
  go_wp2_with fail
  refine (order_any q.den 1 _ _ _ HVU.out HV1.out).mono ?_
  rintro e w4 ⟨rfl, hq4⟩
  have hbq := Quiet.below hq4
  have p0 := blk_cell (blk_keep hB3 hbq (blk_lt hB3)) 0 (.bool (decide (q.num < 0))) rfl
  have p1 := blk_cell (blk_keep hB3 hbq (blk_lt hB3)) 1 (.slice a1 (dig b32 q.num.natAbs).length c1) rfl
  have p2 := blk_cell (blk_keep hB3 hbq (blk_lt hB3)) 2 (.slice a2 (dig b32 d').length c2) rfl
  replace HX2 := Lib.hid (ext_trans HX2.out hbq)
  clear hbq hB3 HV1 HVU
  by_cases hd : q.den = 1
  ·
   have hc : cmpN q.den 1 = 0 := by rw [hd]; rfl
   have HR : Hid (txtQ q = X) := by show _ = _; rw [Htx.out, if_pos Hneg.out, HXX.out, if_pos hd]; simp
   rw [hc]
   clear hd hc
   go_wp2_with fail
   go_ret
   exact ⟨by rw [HR.out] <;> rfl, HX2.out⟩
  ·
   have hc : cmpN q.den 1 = 1 := by
    have := q.den_pos
    unfold cmpN
    rw [if_neg (by omega), if_pos (by omega)]
   have HR : Hid (txtQ q = X ++ 47 :: decT q.den) := by show _ = _; rw [Htx.out, if_pos Hneg.out, HXX.out, if_neg hd]; simp
   rw [hc]
   clear hd hc
   have hc1 : strB (X) ++ { data := #[47] } = strB (X ++ [47]) := by rw [← strB_append]; rfl
   have ho : (ByteArray.mk #[47]).size = 1 := rfl
   have hz5 : (strB (X)).size ≤ 20000000002 := hz2
   have hz6 : (strB (X ++ [47])).size ≤ 20000000003 := by rw [strB_size] at hz5 ⊢; rw [List.length_append, List.length_singleton]; omega
   go_wp2_with fail
   refine (qunder_any d' q.den _ _ _ _ _ _ _ (N2.out.below HX2.out) HD.out q.den_nz).mono ?_
   rintro e w5 ⟨vu, rfl, hvu, hb5⟩
   replace HX2 := Lib.hid (ext_trans HX2.out hb5)
   clear p0 p1 p2 hb5
   go_wp2_with fail
   refine (qdigits_any q.den _ _ hvu (Nat.le_trans HS.out.2 (by omega)) (Nat.le_trans (HXL.out _ HS.out.2) (by omega))).mono ?_
   rintro e w6 ⟨rfl, hb6⟩
   have hz7 : (strB (decT q.den)).size ≤ 20000000001 := HX.out _ HS.out.2
   have hc2 : strB (X ++ [47]) ++ strB (decT q.den) = strB (txtQ q) := by rw [strB_append, HR.out]; simp
   replace HX2 := Lib.hid (ext_trans HX2.out hb6)
   clear hb6 hvu
   go_wp2_with fail
   go_ret
   exact ⟨rfl, HX2.out⟩
 ·
  have tn : decide (q.num < 0) = false := decide_eq_false hneg
  have Hneg : Hid (¬ q.num < 0) := hneg
  clear hneg
  have hz0 : (strB (decT q.num.natAbs)).size ≤ 20000000001 := HX.out _ HS.out.1
  have hz2 : (strB (decT q.num.natAbs)).size ≤ 20000000002 := by omega
  clear hB hal
  go_wp2_with fail
  refine (qunder_any d' q.den _ _ _ _ _ _ _ (N2.out.below hx1) HD.out q.den_nz).mono ?_
  rintro e w2 ⟨vu, rfl, hvu, hb2⟩
  have HX2 := Lib.hid (ext_trans hx1 hb2)
  have hB2 := blk_keep hB1 hb2 (blk_lt hB1)
  have HVU := Lib.hid hvu
  clear hb2 hvu hB1 p0 p1 p2
  go_wp2_with fail
  refine (nat_any 1 _ (by unfold b64; omega)).mono ?_
  rintro e w3 ⟨v1, rfl, hv1, hb3⟩
  replace HX2 := Lib.hid (ext_trans HX2.out hb3)
  have hB3 := blk_keep hB2 hb3 (blk_lt hB2)
  replace HVU := Lib.hid (HVU.out.below hb3)
  have HV1 := Lib.hid hv1
  clear hb3 hv1 hB2
  go_wp2_with fail
  refine (order_any q.den 1 _ _ _ HVU.out HV1.out).mono ?_
  rintro e w4 ⟨rfl, hq4⟩
  have hbq := Quiet.below hq4
  have p0 := blk_cell (blk_keep hB3 hbq (blk_lt hB3)) 0 (.bool (decide (q.num < 0))) rfl
  have p1 := blk_cell (blk_keep hB3 hbq (blk_lt hB3)) 1 (.slice a1 (dig b32 q.num.natAbs).length c1) rfl
  have p2 := blk_cell (blk_keep hB3 hbq (blk_lt hB3)) 2 (.slice a2 (dig b32 d').length c2) rfl
  replace HX2 := Lib.hid (ext_trans HX2.out hbq)
  clear hbq hB3 HV1 HVU
  by_cases hd : q.den = 1
  ·
   have hc : cmpN q.den 1 = 0 := by rw [hd]; rfl
   have HR : Hid (txtQ q = decT q.num.natAbs) := by show _ = _; rw [Htx.out, if_neg (by have := Hneg.out; omega), if_pos hd]; simp
   rw [hc]
   clear hd hc
   go_wp2_with fail
   go_ret
   exact ⟨by rw [HR.out] <;> rfl, HX2.out⟩
  ·
   have hc : cmpN q.den 1 = 1 := by
    have := q.den_pos
    unfold cmpN
    rw [if_neg (by omega), if_pos (by omega)]
   have HR : Hid (txtQ q = decT q.num.natAbs ++ 47 :: decT q.den) := by show _ = _; rw [Htx.out, if_neg (by have := Hneg.out; omega), if_neg hd]; simp
   rw [hc]
   clear hd hc
   have hc1 : strB (decT q.num.natAbs) ++ { data := #[47] } = strB (decT q.num.natAbs ++ [47]) := by rw [← strB_append]; rfl
   have ho : (ByteArray.mk #[47]).size = 1 := rfl
   have hz5 : (strB (decT q.num.natAbs)).size ≤ 20000000002 := hz2
   have hz6 : (strB (decT q.num.natAbs ++ [47])).size ≤ 20000000003 := by rw [strB_size] at hz5 ⊢; rw [List.length_append, List.length_singleton]; omega
   go_wp2_with fail
   refine (qunder_any d' q.den _ _ _ _ _ _ _ (N2.out.below HX2.out) HD.out q.den_nz).mono ?_
   rintro e w5 ⟨vu, rfl, hvu, hb5⟩
   replace HX2 := Lib.hid (ext_trans HX2.out hb5)
   clear p0 p1 p2 hb5
   go_wp2_with fail
   refine (qdigits_any q.den _ _ hvu (Nat.le_trans HS.out.2 (by omega)) (Nat.le_trans (HXL.out _ HS.out.2) (by omega))).mono ?_
   rintro e w6 ⟨rfl, hb6⟩
   have hz7 : (strB (decT q.den)).size ≤ 20000000001 := HX.out _ HS.out.2
   have hc2 : strB (decT q.num.natAbs ++ [47]) ++ strB (decT q.den) = strB (txtQ q) := by rw [strB_append, HR.out]; simp
   replace HX2 := Lib.hid (ext_trans HX2.out hb6)
   clear hb6 hvu
   go_wp2_with fail
   go_ret
   exact ⟨rfl, HX2.out⟩
end Go.Proofs.YtemkhgdhoingiaaGreat

namespace Go.Proofs.YtemkhgdhoingiaaGreat
open Go.RowKit

set_option maxRecDepth 100000 in
set_option maxHeartbeats 4000000 in
theorem lis_any (q : Rat) (vx vy : Value) (w : World) (hx : IsRat w vx q) (hy : IsR w vy q) (s1 : szR q 400000000) :
  Calls Tryz.prog 10 #[vx, vy] w (RetBool true w) := by
 obtain ⟨x1, rfl⟩ := hx.open3
 obtain ⟨y1, rfl⟩ := hy.open3
 have HS := Lib.hid (((Sx.init w).addP hx).addQ hy)
 have S1 := Lib.hid s1
 clear hx hy s1
 go_enter Tryz.func10, Tryz.ntmps10
 go_wp2_with fail
 generalize hW1 : ((w).alloc (.cells _ _)).alloc (.cells _ _) = W1 at *
 replace HS : Hid (Sx w W1 [(w.heap.size + 1, y1.arr, 37), (w.heap.size, x1.arr, 32)] [(false, y1.val, q), (true, x1.val, q)]) := by subst hW1; exact ((HS.out).alloc (B := w.heap.size) rfl (by rfl)).alloc (B := w.heap.size + 1) (by simp) (by rfl)
 clear hW1
 refine wp_region_held_drew (S := (fun w' => Sx w w' [(w.heap.size + 1, y1.arr, 37), (w.heap.size, x1.arr, 32)] [])) (by kernel_rfl) ((HS.out.drew).bare) (fun hh => ?_)
 replace HS := Lib.hid HS.out.drew
 refine tkA (i := 0) (v := ?vpr2_0_k4) rfl (Or.inl ⟨by first | rfl | kernel_rfl, ?hypr2_0_k4⟩) (by assumption) ?repr2_0_k4
 case hypr2_0_k4 => (intro u hSu; (try dsimp only at hSu); obtain ⟨qb0c0, qb0c1, qb0c2, _⟩ := fac3 (x := x1) (hSu.at 1 _ _ _ rfl); clear hSu; (go_simp <;> with_reducible rfl))
 try simp only [nb1, nb2, nb3, Act.put, nb4, nb5, nb6]
 refine tkA (i := 2) (v := ?vpr2_2_k6) rfl (Or.inl ⟨by first | rfl | kernel_rfl, ?hypr2_2_k6⟩) (by assumption) ?repr2_2_k6
 case hypr2_2_k6 => (intro u hSu; (try dsimp only at hSu); obtain ⟨qb1c0, qb1c1, qb1c2, _⟩ := fac3 (x := y1) (hSu.at 0 _ _ _ rfl); clear hSu; (go_simp <;> with_reducible rfl))
 try simp only [nb1, nb2, nb3, Act.put, nb4, nb5, nb6]
 refine rdA (i := 1) rfl (fun K hK => ?_)
 go_simp
 have a8 := HS.out.p 1 _ _ rfl
 go_wp2_with (go_at_call 33; (with_reducible refine (textRat_any q _ _ a8 (szR_mono S1.out (by omega))).mono ?_); rintro e w7 ⟨rfl, hb7⟩)
 refine hK.out _ _ (Sx.below hh hb7) (fun hh => ?_)
 clear hK K
 try simp only [nb1, nb2, nb3, Act.put, nb4, nb5, nb6]
 replace HS := Lib.hid (HS.out.below hb7)
 clear hb7 a8
 refine rdA (i := 3) rfl (fun K hK => ?_)
 go_simp
 have a10 := HS.out.q 0 _ _ rfl
 go_wp2_with (go_at_call 34; (with_reducible refine (qtext_any q _ _ a10 (szQ_mono (szQ_of S1.out) (by omega))).mono ?_); rintro e w9 ⟨rfl, hb9⟩)
 refine hK.out _ _ (Sx.below hh hb9) (fun hh => ?_)
 clear hK K
 try simp only [nb1, nb2, nb3, Act.put, nb4, nb5, nb6]
 replace HS := Lib.hid (HS.out.below hb9)
 clear hb9 a10
 refine tkA (i := 4) (v := ?vpr2_4_k12) rfl (Or.inl ⟨by first | rfl | kernel_rfl, ?hypr2_4_k12⟩) (by assumption) ?repr2_4_k12
 case hypr2_4_k12 => (intro u hSu; (go_simp <;> with_reducible rfl))
 try simp only [nb1, nb2, nb3, Act.put, nb4, nb5, nb6]
 refine tkA (i := 5) (v := ?vpr2_5_k14) rfl (Or.inl ⟨by first | rfl | kernel_rfl, ?hypr2_5_k14⟩) (by assumption) ?repr2_5_k14
 case hypr2_5_k14 => (intro u hSu; (go_simp <;> with_reducible rfl))
 try simp only [nb1, nb2, nb3, Act.put, nb4, nb5, nb6]
 refine wpAnyH_done (by kernel_rfl) ?_ _
 obtain ⟨b0c0, b0c1, b0c2, b0f0, b0f1, b0f2⟩ := fac3 (x := x1) (HS.out.at 1 _ _ _ rfl)
 have b0l := blk_lt (HS.out.at 1 _ _ _ rfl)
 obtain ⟨b1c0, b1c1, b1c2, b1f0, b1f1, b1f2⟩ := fac3 (x := y1) (HS.out.at 0 _ _ _ rfl)
 have b1l := blk_lt (HS.out.at 0 _ _ _ rfl)
 go_wp2_with fail
 clear b0c0 b0c1 b0c2 b0f0 b0f1 b0f2 b0l b1c0 b1c1 b1c2 b1f0 b1f1 b1f2 b1l
 go_ret
 exact ⟨by simp, HS.out.bel⟩
end Go.Proofs.YtemkhgdhoingiaaGreat

namespace Go.Proofs.YtemkhgdhoingiaaGreat
open Go.RowKit

def fillT (t : Array Value) (ds : List Nat) (f : Nat → Value) : Array Value := ds.foldl (fun t d => t.setIfInBounds d (f d)) t
def fillA (a : Act) (ds : List Nat) (f : Nat → Value) : Act := { a with tmps := fillT a.tmps ds f }
theorem fillT_get (f : Nat → Value) (j : Nat) : ∀ (ds : List Nat) (t : Array Value), (fillT t ds f)[j]? = if j ∈ ds ∧ j < t.size then some (f j) else t[j]?
 | [], t => by simp [fillT]
 | d :: ds, t => by
  have ih := fillT_get f j ds (t.setIfInBounds d (f d))
  show (fillT (t.setIfInBounds d (f d)) ds f)[j]? = _
  rw [ih, Array.size_setIfInBounds]
  by_cases h1 : j ∈ ds ∧ j < t.size
  ·
   rw [if_pos h1, if_pos ⟨List.mem_cons_of_mem _ h1.1, h1.2⟩]
  ·
   rw [if_neg h1, Array.getElem?_setIfInBounds]
   by_cases h2 : d = j
   ·
    subst h2
    rw [if_pos rfl]
    by_cases h3 : d < t.size
    ·
     rw [if_pos h3, if_pos ⟨List.mem_cons_self, h3⟩]
    ·
     rw [if_neg h3, if_neg (fun h => h3 h.2), Array.getElem?_eq_none (by omega)]
   ·
    rw [if_neg h2, if_neg (fun h => h1 ⟨by rcases List.mem_cons.1 h.1 with h | h; exact absurd h.symm h2; exact h, h.2⟩)]
theorem fillT_size (f : Nat → Value) : ∀ (ds : List Nat) (t : Array Value), (fillT t ds f).size = t.size
 | [], t => rfl
 | d :: ds, t => by
  show (fillT (t.setIfInBounds d (f d)) ds f).size = _
  rw [fillT_size, Array.size_setIfInBounds]
theorem fillA_put {a : Act} {ds : List Nat} {f : Nat → Value} {d : Nat} {v : Value} (hd : d ∈ ds) : (fillA a ds f).put (some d) v = fillA a ds (fun e => if e = d then v else f e) := by
 have e : (fillT a.tmps ds f).setIfInBounds d v = fillT a.tmps ds (fun e => if e = d then v else f e) := by
  apply Array.ext_getElem?
  intro j
  rw [Array.getElem?_setIfInBounds, fillT_get, fillT_get, fillT_size]
  by_cases h : d = j
  ·
   subst h
   rw [if_pos rfl]
   by_cases h3 : d < a.tmps.size
   ·
    rw [if_pos h3, if_pos ⟨hd, h3⟩]; simp
   ·
    rw [if_neg h3, if_neg (fun h => h3 h.2), Array.getElem?_eq_none (by omega)]
  ·
   rw [if_neg h]
   have h' : ¬ j = d := fun e => h e.symm
   simp [h']
 unfold fillA
 show ({ a with tmps := fillT a.tmps ds f } : Act).put (some d) v = _
 unfold Act.put
 simp [e]
theorem fillA_id (a : Act) (ds : List Nat) : fillA a ds (fun d => a.tmps.getD d undef) = a := by
 unfold fillA
 have e : fillT a.tmps ds (fun d => a.tmps.getD d undef) = a.tmps := by
  apply Array.ext_getElem?
  intro j
  rw [fillT_get]
  split
  ·
   rename_i h
   rw [Array.getElem?_eq_getElem h.2, Array.getD_eq_getD_getElem?, Array.getElem?_eq_getElem h.2]
   rfl
  ·
   rfl
 rw [e]
def AllM (p : Nat → Prop) : List Nat → Prop
 | [] => True
 | i :: l => p i ∧ AllM p l
theorem AllM.at {p : Nat → Prop} {i : Nat} : ∀ {l : List Nat}, AllM p l → i ∈ l → p i
 | j :: l, h, hi => by
  rcases List.mem_cons.1 hi with rfl | hi
  ·
   exact h.1
  ·
   exact h.2.at hi
def modOk (ops : Array Oper) (l0 lM : Array Bool) (M N E : List Nat) (dst : Nat → Nat) (preds : Nat → List Nat) (ds : List Nat) : Bool :=
 l0.size == ops.size && lM.size == ops.size &&
 (List.range ops.size).all (fun i => lM.getD i true == (l0.getD i true || M.contains i)) &&
 M.all (fun i => l0.getD i true == false && (match ops[i]? with
  | some o => o.dst == some (dst i) && ds.contains (dst i) && (preds i).all (fun j => M.contains j && o.after.any (fun e => Region.binds .any e && e.on == j)) &&
    o.after.all (fun e => !Region.binds .any e || l0.getD e.on false || (M.contains e.on && Nat.blt e.on i))
  | none => false)) &&
 (List.range ops.size).all (fun i => l0.getD i true || M.contains i || (match ops[i]? with
  | some o => M.all (fun j => o.after.any (fun e => Region.binds .any e && e.on == j) || M.any (fun l => Nat.blt j l && (match ops[l]? with
    | some o' => o'.after.any (fun e => Region.binds .any e && e.on == j)
    | none => false)) || (E.contains j && (match ops[j]? with
    | some oj => oj.after.all (fun e => !Region.binds .any e || l0.getD e.on false || o.after.any (fun e' => Region.binds .any e' && e'.on == e.on))
    | none => false)))
  | none => false)) &&
 M.all (fun i => M.all (fun j => i == j || dst i != dst j)) && M.all (fun i => N.contains i || E.contains i) && Region.noSelect ops &&
 E.all (fun i => M.contains i && (match ops[i]? with
  | some oi => (List.range ops.size).all (fun j => j == i || oi.after.any (fun e => Region.binds .any e && e.on == j) || (match ops[j]? with
   | some oj => oj.after.any (fun e => Region.binds .any e && e.on == i) || oi.apart ops oj
   | none => true))
  | none => false))
section
variable {P : Program} {ops : Array Oper} {Q : Exit → Act → World → Prop}
def StepM (P : Program) (ops : Array Oper) (Q : Exit → Act → World → Prop) (a0 : Act) (ds : List Nat) (W0 : World) (PV : Nat → Value → World → Prop) (dst : Nat → Nat) (preds : Nat → List Nat) (al : List Nat) (i : Nat) : Prop :=
 ∀ o, ops[i]? = some o → ∀ f w, Below W0.heap.size W0 w → (∀ j, j ∈ preds i → PV j (f (dst j)) w) →
  ∀ K' : Act → World → Prop, Shut (∀ a' w'' v, a' = (fillA a0 ds f).put o.dst v → PV i v w'' → (i ∈ al → v = .pointer (some ⟨w.heap.size, 0, none⟩)) → Below w.heap.size w w'' → K' a' w'') →
   if Region.wanted o (yielded ops (fillA a0 ds f).tmps) = true then Oper.wp P o (fillA a0 ds f) w K' Q else K' ((fillA a0 ds f).put o.dst undef) w
theorem StepM.of {a0 : Act} {ds : List Nat} {W0 : World} {PV : Nat → Value → World → Prop} {dst : Nat → Nat} {preds : Nat → List Nat} {al : List Nat} {i : Nat} {o : Oper} (ho : ops[i]? = some o)
  (h : ∀ f w, Below W0.heap.size W0 w → (∀ j, j ∈ preds i → PV j (f (dst j)) w) →
   ∀ K' : Act → World → Prop, Shut (∀ a' w'' v, a' = (fillA a0 ds f).put o.dst v → PV i v w'' → (i ∈ al → v = .pointer (some ⟨w.heap.size, 0, none⟩)) → Below w.heap.size w w'' → K' a' w'') →
   if Region.wanted o (yielded ops (fillA a0 ds f).tmps) = true then Oper.wp P o (fillA a0 ds f) w K' Q else K' ((fillA a0 ds f).put o.dst undef) w) : StepM P ops Q a0 ds W0 PV dst preds al i :=
 fun o' ho' => by rw [ho] at ho'; cases ho'; exact h
def EagerM (P : Program) (ops : Array Oper) (a0 : Act) (ds : List Nat) (W0 : World) (PV : Nat → Value → World → Prop) (dst : Nat → Nat) (preds : Nat → List Nat) (i : Nat) : Prop :=
 ∀ o, ops[i]? = some o → ∀ f w, Below W0.heap.size W0 w → (∀ j, j ∈ preds i → PV j (f (dst j)) w) →
  ∃ v, PV i v w ∧ Region.wanted o (yielded ops (fillA a0 ds f).tmps) = true ∧ ∀ u, (execOp (fillA a0 ds f).eval o).run P u = .ok (.value v) u
theorem EagerM.of {a0 : Act} {ds : List Nat} {W0 : World} {PV : Nat → Value → World → Prop} {dst : Nat → Nat} {preds : Nat → List Nat} {i : Nat} {o : Oper} (ho : ops[i]? = some o)
  (h : ∀ f w, Below W0.heap.size W0 w → (∀ j, j ∈ preds i → PV j (f (dst j)) w) →
   ∃ v, PV i v w ∧ Region.wanted o (yielded ops (fillA a0 ds f).tmps) = true ∧ ∀ u, (execOp (fillA a0 ds f).eval o).run P u = .ok (.value v) u) : EagerM P ops a0 ds W0 PV dst preds i :=
 fun o' ho' => by rw [ho] at ho'; cases ho'; exact h
theorem wpAnyH_mod {S : World → Prop} {a0 : Act} {ds : List Nat} {l0 lM : Array Bool} {M N E : List Nat} {F : Nat} {W0 : World} {PV : Nat → Value → World → Prop} {dst : Nat → Nat} {preds : Nat → List Nat} {al : List Nat}
  (hchk : modOk ops l0 lM M N E dst preds ds = true) (hQ : ∀ c a (d : Nat) v w, Q (.panic c) (Act.put a (some d) v) w → Q (.panic c) a w)
  (hst : ∀ i v w w', Below w.heap.size w w' → PV i v w → PV i v w')
  (hal : ∀ i v w, i ∈ al → PV i v w → ∃ B, v = .pointer (some ⟨B, 0, none⟩) ∧ B < w.heap.size)
  (hS : ∀ w, Below W0.heap.size W0 w → S w)
  (hstep : AllM (StepM P ops Q a0 ds W0 PV dst preds al) N) (heag : AllM (EagerM P ops a0 ds W0 PV dst preds) E) (hEal : ∀ i, i ∈ E → i ∉ al)
  (hend : ∀ f w, Below W0.heap.size W0 w → (∀ i, i ∈ M → PV i (f (dst i)) w) → (∀ i j, i ∈ M → j ∈ M → i ∈ al → j ∈ al → i ≠ j → f (dst i) ≠ f (dst j)) → wpAnyH P .any ops Q S F lM (fillA a0 ds f) w) :
  ∀ (n : Nat) (U : List Nat) (listed : Array Bool) (f : Nat → Value) (w : World), U.length = n → listed.size = ops.size →
   (∀ i, i ∉ M → listed.getD i true = l0.getD i true) → (∀ i, i ∈ M → (listed.getD i true = false ↔ i ∈ U)) → (∀ i, i ∈ U → i ∈ M) → U.Nodup → Below W0.heap.size W0 w →
   (∀ i, i ∈ M → i ∉ U → PV i (f (dst i)) w) → (∀ i j, i ∈ M → j ∈ M → i ∉ U → j ∉ U → i ∈ al → j ∈ al → i ≠ j → f (dst i) ≠ f (dst j)) →
   (∀ i, i ∈ M → i ∉ U → ∀ o, ops[i]? = some o → ∀ e, e ∈ o.after → Region.binds .any e = true → e.on ∈ U → False) →
   wpAnyH P .any ops Q S (F + n) listed (fillA a0 ds f) w := by
 unfold modOk at hchk
 simp only [Bool.and_eq_true, beq_iff_eq, List.all_eq_true, List.mem_range] at hchk
 obtain ⟨⟨⟨⟨⟨⟨⟨⟨k1, k2⟩, k3⟩, k4⟩, k5⟩, k6⟩, k7⟩, k8⟩, k9⟩ := hchk
 intro n
 induction n with
 | zero =>
  intro U listed f w hU hsz hout hin hsub hnd hb hp hdist hdc
  obtain rfl : U = [] := List.eq_nil_of_length_eq_zero hU
  have e : listed = lM := by
   apply Array.ext (by omega)
   intro i h1 h2
   have hi : i < ops.size := by omega
   have g1 : listed.getD i true = listed[i] := by simp [Array.getD_eq_getD_getElem?, h1]
   have g2 : lM.getD i true = lM[i] := by simp [Array.getD_eq_getD_getElem?, h2]
   rw [← g1, ← g2, k3 i hi]
   by_cases hm : i ∈ M
   ·
    have := hin i hm
    have h3 : M.contains i = true := by simpa using hm
    rw [h3, Bool.or_true]
    cases h4 : listed.getD i true with
    | true => rfl
    | false => exact absurd (this.1 h4) (by simp)
   ·
    have h3 : M.contains i = false := by simpa using hm
    rw [h3, Bool.or_false, hout i hm]
  rw [e]
  exact hend f w hb (fun i hi => hp i hi (by simp)) (fun i j h1 h2 => hdist i j h1 h2 (by simp) (by simp))
 | succ n ih =>
  intro U listed f w hU hsz hout hin hsub hnd hb hp hdist hdc
  have hpre : ∀ i, i ∈ U → i ∈ Region.ready .any ops listed → ∀ o, ops[i]? = some o → ∀ j, j ∈ preds i → PV j (f (dst j)) w := by
   intro i hiU hi o ho j hj
   have hm := hsub i hiU
   have h4 := k4 i hm
   rw [ho] at h4
   simp only [Bool.and_eq_true, beq_iff_eq] at h4
   obtain ⟨_, ⟨⟨hdst, hds⟩, hpr⟩, _⟩ := h4
   rw [List.all_eq_true] at hpr
   have h6 := hpr j hj
   simp only [Bool.and_eq_true] at h6
   obtain ⟨hjM, hja⟩ := h6
   have hjM : j ∈ M := by simpa using hjM
   refine hp j hjM (fun hjU => ?_)
   obtain ⟨_, o', ho', hall⟩ := mem_ready.1 hi
   rw [ho] at ho'
   cases ho'
   rw [Array.any_eq_true'] at hja
   obtain ⟨e, he, hbe⟩ := hja
   simp only [Bool.and_eq_true, beq_iff_eq] at hbe
   have h7 := hall e he hbe.1
   rw [hbe.2] at h7
   have h8 := (hin j hjM).2 hjU
   rw [Array.getD_eq_getD_getElem?] at h7 h8
   cases hx : listed[j]? with
   | none => rw [hx] at h7; simp at h7
   | some b => rw [hx] at h7 h8; simp at h7 h8; rw [h7] at h8; cases h8
  -- behind an operation of U that was ready
  have hgo : ∀ i, i ∈ U → i ∈ Region.ready .any ops listed → ∀ o, ops[i]? = some o → ∀ w'' v, PV i v w'' → (i ∈ al → v = .pointer (some ⟨w.heap.size, 0, none⟩)) → Below w.heap.size w w'' →
    wpAnyH P .any ops Q S (F + n) (listed.setIfInBounds i true) (fillA a0 ds (fun e => if e = dst i then v else f e)) w'' := by
   intro i hiU hi o ho w'' v hv hfresh hb'
   have hm := hsub i hiU
   have hdd : ∀ j, j ∈ M → j ≠ i → dst j ≠ dst i := fun j hj hne h => by
    have := k6 j hj i hm
    simp only [Bool.or_eq_true, beq_iff_eq, bne_iff_ne] at this
    rcases this with h1 | h1
    ·
     exact hne h1
    ·
     exact h1 h
   refine ih (U.erase i) _ _ _ (by rw [List.length_erase_of_mem hiU]; omega) (by rw [Array.size_setIfInBounds]; exact hsz) (fun j hj => ?_) (fun j hj => ?_) (fun j hj => hsub j (List.mem_of_mem_erase hj)) (hnd.erase i) (hb.trans (hb'.mono hb.size)) (fun j hj hju => ?_) (fun j l hj hl hju hlu hja hla hjl => ?_) (fun j hj hju o' ho' e he hbe heU => ?_)
   ·
    have hne : i ≠ j := fun h => hj (h ▸ hm)
    rw [getD_set_ne true hne]
    exact hout j hj
   ·
    by_cases hij : i = j
    ·
     subst hij
     have hlt : i < listed.size := by rw [hsz]; exact (Array.getElem?_eq_some_iff.1 ho).1
     constructor
     ·
      intro h
      rw [Array.getD_eq_getD_getElem?, Array.getElem?_setIfInBounds] at h
      simp [hlt] at h
     ·
      intro h
      exact absurd h (List.Nodup.not_mem_erase hnd)
    ·
     rw [getD_set_ne true hij, hin j hj, List.Nodup.mem_erase_iff hnd]
     constructor
     ·
      intro h; exact ⟨fun e => hij e.symm, h⟩
     ·
      intro h; exact h.2
   ·
    by_cases hij : j = i
    ·
     subst hij
     simpa using hv
    ·
     have := hp j hj (fun h => hju ((List.Nodup.mem_erase_iff hnd).2 ⟨hij, h⟩))
     show PV j (if dst j = dst i then v else f (dst j)) w''
     rw [if_neg (hdd j hj hij)]
     exact hst j _ _ _ hb' this
   ·
    show (if dst j = dst i then v else f (dst j)) ≠ (if dst l = dst i then v else f (dst l))
    have hnew : ∀ k, k ∈ M → k ≠ i → k ∉ U.erase i → k ∈ al → i ∈ al → f (dst k) ≠ v := fun k hk hki hku hka hia => by
     have h1 := hp k hk (fun h => hku ((List.Nodup.mem_erase_iff hnd).2 ⟨hki, h⟩))
     obtain ⟨B, hB, hlt⟩ := hal k _ _ hka h1
     rw [hB, hfresh hia]
     intro h
     have h2 := congrArg (fun v => match v with | Value.pointer (some a) => a.block | _ => 0) h
     dsimp only at h2
     omega
    by_cases h1 : j = i
    ·
     subst h1
     rw [if_pos rfl, if_neg (hdd l hl (fun h => hjl h.symm))]
     exact fun h => hnew l hl (fun h => hjl h.symm) hlu hla hja h.symm
    ·
     rw [if_neg (hdd j hj h1)]
     by_cases h2 : l = i
     ·
      subst h2
      rw [if_pos rfl]
      exact hnew j hj h1 hju hja hla
     ·
      rw [if_neg (hdd l hl h2)]
      exact hdist j l hj hl (fun h => hju ((List.Nodup.mem_erase_iff hnd).2 ⟨h1, h⟩)) (fun h => hlu ((List.Nodup.mem_erase_iff hnd).2 ⟨h2, h⟩)) hja hla hjl
   ·
    have heU2 : e.on ∈ U := List.mem_of_mem_erase heU
    by_cases hij : j = i
    ·
     subst hij
     obtain ⟨_, o2, ho2, hall⟩ := mem_ready.1 hi
     rw [ho'] at ho2
     cases ho2
     have h7 := hall e he hbe
     have h8 := (hin e.on (hsub _ heU2)).2 heU2
     rw [Array.getD_eq_getD_getElem?] at h7 h8
     cases hx : listed[e.on]? with
     | none => rw [hx] at h7; simp at h7
     | some b => rw [hx] at h7 h8; simp at h7 h8; rw [h7] at h8; cases h8
    ·
     exact hdc j hj (fun h => hju ((List.Nodup.mem_erase_iff hnd).2 ⟨hij, h⟩)) o' ho' e he hbe heU2
  have hdstd : ∀ i, i ∈ M → ∀ o, ops[i]? = some o → o.dst = some (dst i) ∧ dst i ∈ ds := by
   intro i hm o ho
   have h4 := k4 i hm
   rw [ho] at h4
   simp only [Bool.and_eq_true, beq_iff_eq] at h4
   obtain ⟨_, ⟨⟨hdst, hds⟩, hpr⟩, _⟩ := h4
   exact ⟨hdst, by simpa using hds⟩
  by_cases hE : ∃ i, i ∈ E ∧ i ∈ U ∧ i ∈ Region.ready .any ops listed
  ·
   obtain ⟨i, hiE, hiU, hi⟩ := hE
   obtain ⟨_, o, ho, _⟩ := mem_ready.1 hi
   obtain ⟨hdst, hds⟩ := hdstd i (hsub i hiU) o ho
   obtain ⟨v, hv, hw, hrun⟩ := heag.at hiE o ho f w hb (hpre i hiU hi o ho)
   refine wpAnyH_first (v := v) ho (Region.noSelect_spec k8) (fun c a w h => hQ c a (dst i) v w (by rw [hdst] at h; exact h)) (F + n) listed _ w ?_ hi (.inl ⟨hw, fun u _ => hrun u⟩) (hS _ hb) ?_
   ·
    intro j oj hoj hne hun hno
    have h9 := (k9 i hiE).2
    rw [ho] at h9
    simp only [List.all_eq_true, List.mem_range] at h9
    have h10 := h9 j (Array.getElem?_eq_some_iff.1 hoj).1
    rw [hoj] at h10
    simp only [Bool.or_eq_true, beq_iff_eq, hne, false_or] at h10
    rcases h10 with h10 | h10 | h10
    ·
     exfalso
     rw [Array.any_eq_true'] at h10
     obtain ⟨e, he, hbe⟩ := h10
     simp only [Bool.and_eq_true, beq_iff_eq] at hbe
     obtain ⟨_, o2, ho2, hall⟩ := mem_ready.1 hi
     rw [ho] at ho2
     cases ho2
     have h11 := hall e he hbe.1
     rw [hbe.2] at h11
     rw [Array.getD_eq_getD_getElem?] at h11 hun
     cases hx : listed[j]? with
     | none => rw [hx] at h11; simp at h11
     | some b => rw [hx] at h11 hun; simp at h11 hun; rw [h11] at hun; cases hun
    ·
     exfalso
     rw [Array.any_eq_true'] at h10
     obtain ⟨e, he, hbe⟩ := h10
     simp only [Bool.and_eq_true, beq_iff_eq] at hbe
     exact hno e he hbe.1 hbe.2
    ·
     exact h10
   ·
    rw [hdst, fillA_put hds]
    exact hgo i hiU hi o ho w v hv (fun h => absurd h (hEal i hiE)) (Below.refl _ _)
  ·
   -- what is ready lies in U
   have hready : ∀ i, i ∈ Region.ready .any ops listed → i ∈ U := by
    intro i hi
    obtain ⟨g1, o, ho, hall⟩ := mem_ready.1 hi
    by_cases hm : i ∈ M
    ·
     exact (hin i hm).1 g1
    ·
     exfalso
     have hlt : i < ops.size := (Array.getElem?_eq_some_iff.1 ho).1
     have h5 := k5 i hlt
     rw [hout i hm] at g1
     have h3 : M.contains i = false := by simpa using hm
     rw [g1, h3, ho] at h5
     simp only [Bool.false_or, List.all_eq_true] at h5
     have hne : U ≠ [] := by intro h; rw [h] at hU; simp at hU
     have hu : U.max hne ∈ U := List.max_mem hne
     have hmax : ∀ j, j ∈ U → j ≤ U.max hne := fun j hj => List.le_max_of_mem hj
     generalize U.max hne = u at hu hmax
     have h6 := h5 u (hsub u hu)
     rw [Bool.or_eq_true, Bool.or_eq_true] at h6
     rcases h6 with (h6 | h6) | h6
     ·
      rw [Array.any_eq_true'] at h6
      obtain ⟨e, he, hbe⟩ := h6
      simp only [Bool.and_eq_true, beq_iff_eq] at hbe
      have h7 := hall e he hbe.1
      rw [hbe.2] at h7
      have h8 := (hin u (hsub u hu)).2 hu
      rw [Array.getD_eq_getD_getElem?] at h7 h8
      cases hx : listed[u]? with
      | none => rw [hx] at h7; simp at h7
      | some b => rw [hx] at h7 h8; simp at h7 h8; rw [h7] at h8; cases h8
     ·
      rw [List.any_eq_true] at h6
      obtain ⟨l, hl, h6⟩ := h6
      rw [Bool.and_eq_true] at h6
      obtain ⟨h6a, h6b⟩ := h6
      have hlt2 : u < l := by simpa using h6a
      have hlu : l ∉ U := fun h => by have := hmax l h; omega
      cases hol : ops[l]? with
      | none => rw [hol] at h6b; simp at h6b
      | some o' =>
       rw [hol] at h6b
       simp only [Array.any_eq_true'] at h6b
       obtain ⟨e, he, hbe⟩ := h6b
       simp only [Bool.and_eq_true, beq_iff_eq] at hbe
       exact hdc l hl hlu o' hol e he hbe.1 (hbe.2 ▸ hu)
     ·
      rw [Bool.and_eq_true] at h6
      obtain ⟨h6a, h6b⟩ := h6
      cases hou : ops[u]? with
      | none => rw [hou] at h6b; simp at h6b
      | some ou =>
       rw [hou] at h6b
       simp only [Array.all_eq_true_iff_forall_mem] at h6b
       refine hE ⟨u, by simpa using h6a, hu, mem_ready.2 ⟨(hin u (hsub u hu)).2 hu, ou, hou, fun e he hbe => ?_⟩⟩
       have h7 := h6b e he
       rw [hbe] at h7
       simp only [Bool.not_true, Bool.false_or, Bool.or_eq_true] at h7
       rcases h7 with h7 | h7
       ·
        by_cases hem : e.on ∈ M
        ·
         exfalso
         have h9 := (k4 e.on hem).1
         rw [Array.getD_eq_getD_getElem?] at h7 h9
         cases hx : l0[e.on]? with
         | none => rw [hx] at h7; simp at h7
         | some b => rw [hx] at h7 h9; simp at h7 h9; rw [h7] at h9; cases h9
        ·
         have h13 : l0.getD e.on true = true ∧ e.on < l0.size := by
          rw [Array.getD_eq_getD_getElem?] at h7 ⊢
          cases hx : l0[e.on]? with
          | none => rw [hx] at h7; simp at h7
          | some b => rw [hx] at h7; exact ⟨by simpa using h7, (Array.getElem?_eq_some_iff.1 hx).1⟩
         have h14 := hout e.on hem
         rw [h13.1] at h14
         rw [Array.getD_eq_getD_getElem?] at h14 ⊢
         have h15 : e.on < listed.size := by omega
         rw [Array.getElem?_eq_getElem h15] at h14 ⊢
         simpa using h14
       ·
        rw [Array.any_eq_true'] at h7
        obtain ⟨e', he', hbe'⟩ := h7
        simp only [Bool.and_eq_true, beq_iff_eq] at hbe'
        have h8 := hall e' he' hbe'.1
        rw [hbe'.2] at h8
        exact h8
   -- something is ready: the least of U
   have hmin : ∃ i, i ∈ U ∧ ∀ j, j ∈ U → i ≤ j := by
    have hne : U ≠ [] := by intro h; rw [h] at hU; simp at hU
    refine ⟨U.min hne, List.min_mem hne, fun j hj => List.min_le_of_mem hj⟩
   have hsome : Region.ready .any ops listed ≠ [] := by
    obtain ⟨i, hi, hle⟩ := hmin
    have hm := hsub i hi
    have h4 := k4 i hm
    cases ho : ops[i]? with
    | none => rw [ho] at h4; simp at h4
    | some o =>
     rw [ho] at h4
     simp only [Bool.and_eq_true, beq_iff_eq] at h4
     obtain ⟨_, ⟨⟨_, _⟩, _⟩, h7⟩ := h4
     have : i ∈ Region.ready .any ops listed := by
      rw [mem_ready]
      refine ⟨(hin i hm).2 hi, o, ho, fun e he hbe => ?_⟩
      rw [Array.all_eq_true_iff_forall_mem] at h7
      have h8 := h7 e he
      rw [hbe] at h8
      simp only [Bool.not_true, Bool.false_or, Bool.or_eq_true, Bool.and_eq_true] at h8
      have hgd : listed.getD e.on true = true → listed.getD e.on false = true ∨ ops.size ≤ e.on := fun h => by
       rw [Array.getD_eq_getD_getElem?] at h ⊢
       cases hx : listed[e.on]? with
       | none => right; have := Array.getElem?_eq_none_iff.1 hx; omega
       | some b => left; rw [hx] at h; simpa using h
      by_cases hem : e.on ∈ M
      ·
       have hlt : e.on < i := by
        rcases h8 with h8 | h8
        ·
         exfalso
         have h9 := k4 e.on hem
         have h10 := h9.1
         rw [Array.getD_eq_getD_getElem?] at h8 h10
         cases hx : l0[e.on]? with
         | none => rw [hx] at h8; simp at h8
         | some b => rw [hx] at h8 h10; simp at h8 h10; rw [h8] at h10; cases h10
        ·
         simpa using h8.2
       have hnu : e.on ∉ U := fun h => by have := hle _ h; omega
       have h11 : listed.getD e.on true = true := by
        cases h12 : listed.getD e.on true with
        | true => rfl
        | false => exact absurd ((hin e.on hem).1 h12) hnu
       rcases hgd h11 with h | h
       ·
        exact h
       ·
        exfalso
        have := k4 e.on hem
        rw [Array.getElem?_eq_none h] at this
        simp at this
      ·
       rcases h8 with h8 | h8
       ·
        have h13 : l0.getD e.on true = true := by
         rw [Array.getD_eq_getD_getElem?] at h8 ⊢
         cases hx : l0[e.on]? with
         | none => rfl
         | some b => rw [hx] at h8; simpa using h8
        have h14 := hout e.on hem
        rw [h13] at h14
        rcases hgd h14 with h | h
        ·
         exact h
        ·
         exfalso
         rw [Array.getD_eq_getD_getElem?, Array.getElem?_eq_none (by omega)] at h8
         simp at h8
       ·
        exact absurd (by simpa using h8.1) hem
     intro h
     rw [h] at this
     cases this
   refine ⟨fun h => absurd h hsome, fun i hi => ?_⟩
   have hiU := hready i hi
   have hm := hsub i hiU
   obtain ⟨_, o, ho, _⟩ := mem_ready.1 hi
   obtain ⟨hdst, hds⟩ := hdstd i hm o ho
   refine wpOp_step ho (fun K' hK => ?_)
   have hiN : i ∈ N := by
    have := k7 i hm
    rw [Bool.or_eq_true] at this
    rcases this with h | h
    ·
     simpa using h
    ·
     exact absurd ⟨i, by simpa using h, hiU, hi⟩ hE
   refine hstep.at hiN o ho f w hb (hpre i hiU hi o ho) K' ?_
   intro a' w'' v ha' hv hfresh hb'
   refine hK _ _ ⟨hS _ (hb.trans (hb'.mono hb.size)), ?_⟩
   rw [ha', hdst, fillA_put hds]
   exact hgo i hiU hi o ho w'' v hv hfresh hb'
end
section
variable {P : Program} {ops : Array Oper} {Q : Exit → Act → World → Prop}
def pickV : List (Nat × (Value → World → Prop)) → Nat → Value → World → Prop
 | [], _ => fun _ _ => True
 | (j, p) :: l, i => if i = j then p else pickV l i
def StV : List (Nat × (Value → World → Prop)) → Prop
 | [] => True
 | (_, p) :: l => (∀ v w w', Below w.heap.size w w' → p v w → p v w') ∧ StV l
theorem StV.st : ∀ {l : List (Nat × (Value → World → Prop))}, StV l → ∀ i v w w', Below w.heap.size w w' → pickV l i v w → pickV l i v w'
 | [], _, _, _, _, _, _, _ => trivial
 | (j, p) :: l, h, i, v, w, w', hb, hp => by
  unfold pickV at hp ⊢
  split
  ·
   rename_i he; rw [if_pos he] at hp; exact h.1 v w w' hb hp
  ·
   rename_i he; rw [if_neg he] at hp; exact h.2.st i v w w' hb hp
def lookN : List (Nat × Nat) → Nat → Nat
 | [], _ => 0
 | (j, d) :: l, i => if i = j then d else lookN l i
def lookL : List (Nat × List Nat) → Nat → List Nat
 | [], _ => []
 | (j, d) :: l, i => if i = j then d else lookL l i
theorem wpAnyH_modular {S : World → Prop} {a : Act} {w : World} {fuel : Nat} {l0 : Array Bool} (M N E ds : List Nat) (lM : Array Bool) (F : Nat) (dst : List (Nat × Nat)) (preds : List (Nat × List Nat)) (al : List Nat) (pv : List (Nat × (Value → World → Prop)))
  (hf : fuel = F + M.length) (hchk : modOk ops l0 lM M N E (lookN dst) (lookL preds) ds = true) (hnd : M.Nodup) (hsz : l0.size = ops.size) (hst : StV pv)
  (hal : AllM (fun i => ∀ v w, pickV pv i v w → ∃ B, v = .pointer (some ⟨B, 0, none⟩) ∧ B < w.heap.size) al)
  (hS : ∀ w', Below w.heap.size w w' → S w')
  (hstep : AllM (StepM P ops Q a ds w (pickV pv) (lookN dst) (lookL preds) al) N) (heag : AllM (EagerM P ops a ds w (pickV pv) (lookN dst) (lookL preds)) E) (hEal : ∀ i, i ∈ E → i ∉ al)
  (hend : ∀ f w', Below w.heap.size w w' → (∀ i, i ∈ M → pickV pv i (f (lookN dst i)) w') → (∀ i j, i ∈ M → j ∈ M → i ∈ al → j ∈ al → i ≠ j → f (lookN dst i) ≠ f (lookN dst j)) → wpAnyH P .any ops Q S F lM (fillA a ds f) w') (hQ : ∀ c a (d : Nat) v w, Q (.panic c) (Act.put a (some d) v) w → Q (.panic c) a w := by exact fun _ _ _ _ _ h => h) :
  wpAnyH P .any ops Q S fuel l0 a w := by
 have k4 : ∀ i, i ∈ M → l0.getD i true = false := fun i hi => by
  have h := hchk
  unfold modOk at h
  simp only [Bool.and_eq_true, beq_iff_eq, List.all_eq_true] at h
  exact (h.1.1.1.1.1.2 i hi).1
 have h := wpAnyH_mod hchk hQ hst.st (fun i v w hi h => hal.at hi v w h) hS hstep heag hEal hend M.length M l0 (fun d => a.tmps.getD d undef) w rfl hsz (fun _ _ => rfl) (fun i hi => ⟨fun _ => hi, fun _ => k4 i hi⟩) (fun _ h => h) hnd (Below.refl _ _) (fun i hi hn => absurd hi hn) (fun i j hi _ hn => absurd hi hn) (fun i hi hn => absurd hi hn)
 rw [fillA_id] at h
 rw [hf]
 exact h
end
theorem Sx.addBox {w0 w : World} {bs : List Bx} {fs : List Fx} (h : Sx w0 w bs fs) {B T : Nat} {cs : Array Value} (hB : w.heap[B]? = some (.cells cs T (0, 0))) (h1 : w0.heap.size ≤ B) (hp : cs.toList.all plainV = true) (hn : ∀ b, b ∈ bs → b.1 ≠ B) : Sx w0 w ((B, cs, T) :: bs) fs := by
 refine ⟨h.bel, fun i b hi => ?_, ?_, h.fra⟩
 ·
  match i, hi with
  | 0, hi => simp at hi; subst hi; exact ⟨hB, h1, hp⟩
  | i + 1, hi => exact h.box i b (by simpa using hi)
 ·
  rw [List.map_cons, List.nodup_cons]
  refine ⟨fun hm => ?_, h.nod⟩
  obtain ⟨b, hb1, hb2⟩ := List.mem_map.1 hm
  exact hn b hb1 hb2
theorem Sx.lt {w0 w : World} {bs : List Bx} {fs : List Fx} (h : Sx w0 w bs fs) : ∀ b, b ∈ bs → b.1 < w.heap.size := fun b hb => by
 obtain ⟨i, hi⟩ := List.mem_iff_getElem?.1 hb
 exact blk_lt (h.box i b hi).1
end Go.Proofs.YtemkhgdhoingiaaGreat
