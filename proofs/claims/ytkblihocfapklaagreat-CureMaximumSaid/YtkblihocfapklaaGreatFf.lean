/- Part f of the lemmas and walks. -/
import Derived.Test.YtkblihocfapklaaGreatFe
set_option maxRecDepth 100000
set_option maxHeartbeats 30000000
namespace Go.Proofs.YtkblihocfapklaaGreat
open Go.RowKit
theorem U8 {v : Value} (h : jh v) : ni v = true := by
 unfold ni
 split
 · rename_i x; exact absurd rfl (h x).1
 · rename_i x; exact absurd rfl (h x).2
 · rfl
theorem dL.block {w : World} {base : Nat} {e : TypeId} {size : Nat} {v : Value} {n : Nat} {xs : List Value} (h : dL w base e size v n xs) {g : Nat} (hg : v.ownBlock = some g) : ∃ cur, w.heap[g]? = some (.cells cur e (0, 0)) ∧ cur.toList.all ni = true := by
 rcases h.1.2 with ⟨rfl, _⟩ | ⟨g', cap, cur, rfl, hb, hh, _⟩
 · simp [Value.ownBlock] at hg
 ·
  simp [Value.ownBlock] at hg
  subst hg
  refine ⟨cur, hh, List.all_eq_true.2 fun u hu => ?_⟩
  obtain ⟨j, hj⟩ := List.mem_iff_getElem?.1 hu
  refine U8 (h.2 g' rfl j u ?_)
  rw [cell_of_row w g' j cur e (0, 0) hh]
  simpa using hj
theorem Jy {w : World} {g : Nat} {e : TypeId} {cur : Array Value} (hh : w.heap[g]? = some (.cells cur e (0, 0))) (j : Nat) (v : Value) : (w.setCell ⟨g, j, none⟩ v).heap[g]? = some (.cells (cur.setIfInBounds j v) e (0, 0)) := by
 have hlt := (Array.getElem?_eq_some_iff.1 hh).1
 show (w.heap.modify g _)[g]? = _
 rw [Array.getElem?_modify, if_pos rfl, hh]
 rfl
theorem dL.set {w : World} {base : Nat} {e : TypeId} {size g n cap : Nat} {xs : List Value} (h : dL w base e size (.slice (some ⟨g, 0, none⟩) n cap) n xs) (j : Nat) {v : Value} (hv : jh v) :
  dL (w.setCell ⟨g, j, none⟩ v) base e size (.slice (some ⟨g, 0, none⟩) n cap) n (xs.set j v) := by
 obtain ⟨⟨hl, h1⟩, hd⟩ := h
 rcases h1 with ⟨h1, _⟩ | ⟨g', cap', cur, hq, hb, hh, h2, h3, h4, h5⟩
 · cases h1
 ·
  injection hq with hq1 hq2 hq3
  injection hq1 with hq1
  injection hq1 with hq1
  subst hq1
  subst hq3
  have hh' := Jy hh j v
  refine ⟨⟨by simpa using hl, .inr ⟨g, cap, _, rfl, hb, hh', h2, h3, by simpa using h4, ?_⟩⟩, fun g' hg' => ?_⟩
  · rw [Array.toList_setIfInBounds, List.take_set, h5]
  ·
   simp [Value.ownBlock] at hg'
   subst hg'
   refine mZ.of_block hh' fun u hu => ?_
   rw [Array.toList_setIfInBounds] at hu
   rcases List.mem_or_eq_of_mem_set hu with hu | rfl
   ·
    obtain ⟨k, hk⟩ := List.mem_iff_getElem?.1 hu
    refine hd g rfl k u ?_
    rw [cell_of_row w g k cur e (0, 0) hh]
    simpa using hk
   · exact hv
theorem RowOf.arV {p : Bool} {k : Nat} {w : World} {xs : List Value} {qs : List (List Rat)} (h : RowOf p k w xs qs) {m j : Nat} (hm : m < qs.length) (hj : j < k) (hk : ∀ i, i < qs.length → (qs.getD i []).length = k) {x : R3} {q : Rat} (hx : Fr p w x.val q) :
  RowOf p k w (((xs.set (m * (3 * k) + j * 3) (.bool x.b)).set (m * (3 * k) + j * 3 + 1) (.slice x.a x.n x.c)).set (m * (3 * k) + j * 3 + 2) (.slice x.d x.m x.e)) (qs.set m ((qs.getD m []).set j q)) := by
 obtain ⟨h0, h1⟩ := h
 have hb : m * (3 * k) + j * 3 + 2 < xs.length := by
  rw [h0]
  have : (m + 1) * (3 * k) ≤ qs.length * (3 * k) := Nat.mul_le_mul_right _ hm
  rw [Nat.add_mul] at this
  omega
 refine ⟨by simpa using h0, fun i hi a ha => ?_⟩
 rw [List.length_set] at hi
 by_cases hc : i = m ∧ a = j
 ·
  obtain ⟨rfl, rfl⟩ := hc
  refine ⟨x, ?_, ?_, ?_, ?_⟩
  · rw [List.getElem?_set_ne (by omega), List.getElem?_set_ne (by omega), List.getElem?_set_self (by omega)]
  · rw [List.getElem?_set_ne (by omega), List.getElem?_set_self (by rw [List.length_set]; omega)]
  · rw [List.getElem?_set_self (by rw [List.length_set, List.length_set]; omega)]
  ·
   have e : ((qs.set i ((qs.getD i []).set a q)).getD i []).getD a 0 = q := by
    have hh := hk i hi
    have f : (qs.set i ((qs.getD i []).set a q)).getD i [] = (qs.getD i []).set a q := by simp [List.getD, hi]
    rw [f, List.getD_eq_getElem?_getD, List.getElem?_set_self (by omega)]
    rfl
   rw [e]; exact hx
 ·
  have hne : ∀ u v, u < 3 → v < 3 → m * (3 * k) + j * 3 + u ≠ i * (3 * k) + a * 3 + v := by
   intro u v hu hv he
   apply hc
   have e1 : m * (3 * k) = (m * k) * 3 := by rw [Nat.mul_comm 3 k, Nat.mul_assoc]
   have e2 : i * (3 * k) = (i * k) * 3 := by rw [Nat.mul_comm 3 k, Nat.mul_assoc]
   rw [e1, e2] at he
   have e3 : m * k + j = i * k + a := by omega
   rcases Nat.lt_trichotomy m i with hmi | hmi | hmi
   ·
    have : (m + 1) * k ≤ i * k := Nat.mul_le_mul_right _ hmi
    rw [Nat.add_mul] at this
    omega
   · subst hmi; exact ⟨rfl, by omega⟩
   ·
    have : (i + 1) * k ≤ m * k := Nat.mul_le_mul_right _ hmi
    rw [Nat.add_mul] at this
    omega
  obtain ⟨y, g1, g2, g3, g4⟩ := h1 i hi a ha
  have n0 : ∀ v, v < 3 → m * (3 * k) + j * 3 ≠ i * (3 * k) + a * 3 + v := fun v hv => hne 0 v (by omega) hv
  have hs : ∀ v, v < 3 → ((((xs.set (m * (3 * k) + j * 3) (.bool x.b)).set (m * (3 * k) + j * 3 + 1) (.slice x.a x.n x.c)).set (m * (3 * k) + j * 3 + 2) (.slice x.d x.m x.e)))[i * (3 * k) + a * 3 + v]? = xs[i * (3 * k) + a * 3 + v]? := fun v hv => by
   rw [List.getElem?_set_ne (hne 2 v (by omega) hv), List.getElem?_set_ne (hne 1 v (by omega) hv), List.getElem?_set_ne (n0 v hv)]
  refine ⟨y, by rw [← g1]; exact hs 0 (by omega), by rw [← g2]; exact hs 1 (by omega), by rw [← g3]; exact hs 2 (by omega), ?_⟩
  have e : ((qs.set m ((qs.getD m []).set j q)).getD i []).getD a 0 = (qs.getD i []).getD a 0 := by
   by_cases hmi : m = i
   ·
    subst hmi
    have f : (qs.set m ((qs.getD m []).set j q)).getD m [] = (qs.getD m []).set j q := by simp [List.getD, hm]
    rw [f, List.getD_eq_getElem?_getD, List.getElem?_set_ne (fun h => hc ⟨rfl, h.symm⟩), ← List.getD_eq_getElem?_getD]
   ·
    have f : (qs.set m ((qs.getD m []).set j q)).getD i [] = qs.getD i [] := by simp [List.getD, List.getElem?_set_ne hmi]
    rw [f]
  rw [e]; exact g4
theorem Sx.setOther {w0 w : World} {bs : List Bx} {fs : List Fx} (h : Sx w0 w bs fs) {b : Nat} {e : TypeId} {cur : Array Value} (hh : w.heap[b]? = some (.cells cur e (0, 0))) (hp : cur.toList.all ni = true) (hb : w0.heap.size ≤ b) (hne : ∀ B, B ∈ bs → b ≠ B.1) (j : Nat) (v : Value) :
  Sx w0 (w.setCell ⟨b, j, none⟩ v) bs fs :=
 ⟨h.bel.setCell (p := ⟨b, j, none⟩) hb v, fun k B hk => by
  obtain ⟨h1, h2⟩ := h.box k B hk
  exact ⟨(heap_setCell_other w ⟨b, j, none⟩ B.1 v (fun e => hne B (List.mem_iff_getElem?.2 ⟨k, hk⟩) e.symm)).trans h1, h2⟩, h.Qm, fun k f hf => (h.B_ k f hf).set hh hp j v⟩
theorem Sx.ab7 {w0 w : World} {bs : List Bx} {fs : List Fx} {gs : List yz} (h : Sx w0 w bs fs) (hg : jF w0 w bs gs) (i : Nat) {g : yz} (hi : gs[i]? = some g) {b cap : Nat} (hv : g.v = .slice (some ⟨b, 0, none⟩) g.qs.length cap) (m j : Nat) (hm : m < g.qs.length) (hj : j < g.k)
  (hk : ∀ i, i < g.qs.length → (g.qs.getD i []).length = g.k) (x : R3) (q : Rat) (hx : Fr g.p w x.val q) :
  Sx w0 (((w.setCell ⟨b, m * (3 * g.k) + j * 3, none⟩ (.bool x.b)).setCell ⟨b, m * (3 * g.k) + j * 3 + 1, none⟩ (.slice x.a x.n x.c)).setCell ⟨b, m * (3 * g.k) + j * 3 + 2, none⟩ (.slice x.d x.m x.e)) bs fs ∧
  jF w0 (((w.setCell ⟨b, m * (3 * g.k) + j * 3, none⟩ (.bool x.b)).setCell ⟨b, m * (3 * g.k) + j * 3 + 1, none⟩ (.slice x.a x.n x.c)).setCell ⟨b, m * (3 * g.k) + j * 3 + 2, none⟩ (.slice x.d x.m x.e)) bs
   (gs.set i ⟨g.e, g.p, g.k, g.v, ((g.xs.set (m * (3 * g.k) + j * 3) (.bool x.b)).set (m * (3 * g.k) + j * 3 + 1) (.slice x.a x.n x.c)).set (m * (3 * g.k) + j * 3 + 2) (.slice x.d x.m x.e), g.qs.set m ((g.qs.getD m []).set j q)⟩) := by
 have hmem : g ∈ gs := List.mem_iff_getElem?.2 ⟨i, hi⟩
 have hL := hg.row i g hi
 have hob : g.v.ownBlock = some b := by rw [hv]; rfl
 have hb := (hL.lt hob).2
 have hne : ∀ B, B ∈ bs → b ≠ B.1 := fun B hB e => hg.sep B hB g hmem (by rw [hob, e])
 have hL0 := hL
 rw [hv] at hL0
 have hL1 := hL0.set (m * (3 * g.k) + j * 3) (fA x.b)
 have hL2 := hL1.set (m * (3 * g.k) + j * 3 + 1) (dH x.a x.n x.c)
 have hL3 := hL2.set (m * (3 * g.k) + j * 3 + 2) (dH x.d x.m x.e)
 obtain ⟨c0, hc0, hp0⟩ := hL0.block rfl
 obtain ⟨c1, hc1, hp1⟩ := hL1.block rfl
 obtain ⟨c2, hc2, hp2⟩ := hL2.block rfl
 have hf : ∀ p v q, Fr p w v q → Fr p (((w.setCell ⟨b, m * (3 * g.k) + j * 3, none⟩ (.bool x.b)).setCell ⟨b, m * (3 * g.k) + j * 3 + 1, none⟩ (.slice x.a x.n x.c)).setCell ⟨b, m * (3 * g.k) + j * 3 + 2, none⟩ (.slice x.d x.m x.e)) v q := fun p v q h => ((h.set hc0 hp0 _ _).set hc1 hp1 _ _).set hc2 hp2 _ _
 have ho : ∀ c, b ≠ c → (((w.setCell ⟨b, m * (3 * g.k) + j * 3, none⟩ (.bool x.b)).setCell ⟨b, m * (3 * g.k) + j * 3 + 1, none⟩ (.slice x.a x.n x.c)).setCell ⟨b, m * (3 * g.k) + j * 3 + 2, none⟩ (.slice x.d x.m x.e)).heap[c]? = w.heap[c]? := fun c hc =>
  (heap_setCell_other _ ⟨b, _, none⟩ c _ (Ne.symm hc)).trans ((heap_setCell_other _ ⟨b, _, none⟩ c _ (Ne.symm hc)).trans (heap_setCell_other _ ⟨b, _, none⟩ c _ (Ne.symm hc)))
 refine ⟨((h.setOther hc0 hp0 hb hne _ _).setOther hc1 hp1 hb hne _ _).setOther hc2 hp2 hb hne _ _, fun a r ha => ?_, fun a r ha => ?_, fun B hB r hr => ?_, fun a a' r r' ha ha' hne' c hc => ?_⟩
 ·
  rw [List.getElem?_set] at ha
  by_cases hia : i = a
  ·
   subst hia
   rw [if_pos rfl] at ha
   split at ha
   ·
    injection ha with ha
    subst ha
    dsimp only
    rw [List.length_set, hv]
    exact hL3
   · exact absurd ha (by simp)
  ·
   rw [if_neg hia] at ha
   exact (hg.row a r ha).keep fun c hc => ho c fun e => hg.apart i a g r hi ha hia b hob (by rw [hc, e])
 ·
  rw [List.getElem?_set] at ha
  by_cases hia : i = a
  ·
   subst hia
   rw [if_pos rfl] at ha
   split at ha
   ·
    injection ha with ha
    subst ha
    exact ((hg.mean i g hi).mono fun _ _ h => hf _ _ _ h).arV hm hj hk (hf _ _ _ hx)
   · exact absurd ha (by simp)
  ·
   rw [if_neg hia] at ha
   exact (hg.mean a r ha).mono fun _ _ h => hf _ _ _ h
 ·
  rcases List.mem_or_eq_of_mem_set hr with hr | rfl
  · exact hg.sep B hB r hr
  · exact hg.sep B hB g hmem
 ·
  rw [List.getElem?_set] at ha ha'
  by_cases hia : i = a
  ·
   subst hia
   rw [if_pos rfl] at ha
   rw [if_neg hne'] at ha'
   split at ha
   ·
    injection ha with ha
    subst ha
    exact hg.apart i a' g r' hi ha' hne' c hc
   · exact absurd ha (by simp)
  ·
   rw [if_neg hia] at ha
   by_cases amD : i = a'
   ·
    subst amD
    rw [if_pos rfl] at ha'
    split at ha'
    ·
     injection ha' with ha'
     subst ha'
     exact hg.apart a i r g ha hi hne' c hc
    · exact absurd ha' (by simp)
   ·
    rw [if_neg amD] at ha'
    exact hg.apart a a' r r' ha ha' hne' c hc
theorem Bv {w : World} {r : Nat} {o : Obj} (h : w.heap[r]? = some o) (hc : o.isCells = false) : mZ w r := by
 intro j v hv
 obtain ⟨o', h1, h2⟩ := cells_of_cell hv
 rw [show (⟨r, j, none⟩ : Addr).block = r from rfl, h] at h1
 cases h1
 rw [hc] at h2
 cases h2
theorem sZ {w : World} {r b : Nat} {o : Obj} {cs : Array Value} {T : Nat} {fr : Nat × Nat} (h : w.heap[r]? = some o) (hc : o.isCells = false) (hb : w.heap[b]? = some (.cells cs T fr)) : r ≠ b := by
 rintro rfl
 rw [h] at hb
 cases hb
 cases hc
theorem Sx.other {w0 w w' : World} {bs : List Bx} {fs : List Fx} {row : Option Nat} (h : Sx w0 w bs fs) (hg : w.grownBy w' row) (hr : ∀ r, row = some r → w0.heap.size ≤ r ∧ ∃ o : Obj, w.heap[r]? = some o ∧ o.isCells = false) : Sx w0 w' bs fs := by
 refine ⟨h.bel.grown hg h.bel.size (fun k e => (hr k e).1), fun i b hi => ?_, h.Qm, fun i f hi => (h.B_ i f hi).grown hg fun g e => by obtain ⟨_, o, ho, hc⟩ := hr g e; exact Bv ho hc⟩
 obtain ⟨h1, h2⟩ := h.box i b hi
 refine ⟨(hg.block b.1 (ai h1) (fun e => ?_)).trans h1, h2⟩
 obtain ⟨_, o, ho, hc⟩ := hr b.1 e.symm
 exact sZ ho hc h1 rfl
theorem dL.other {w w' : World} {base e size n : Nat} {v : Value} {xs : List Value} {row : Option Nat} (h : dL w base e size v n xs) (hg : w.grownBy w' row) (hr : ∀ r, row = some r → ∃ o : Obj, w.heap[r]? = some o ∧ o.isCells = false) : dL w' base e size v n xs := by
 refine h.grown hg fun g hv e => ?_
 obtain ⟨o, ho, hc⟩ := hr g e.symm
 rcases h.1.2 with ⟨rfl, _⟩ | ⟨g', cap, cur, rfl, hb, hh, _⟩
 · cases hv
 ·
  cases hv
  exact sZ ho hc hh rfl
theorem jF.other {w0 w w' : World} {bs : List Bx} {gs : List yz} {row : Option Nat} (h : jF w0 w bs gs) (hg : w.grownBy w' row) (hr : ∀ r, row = some r → ∃ o : Obj, w.heap[r]? = some o ∧ o.isCells = false) : jF w0 w' bs gs :=
 ⟨fun i g hi => (h.row i g hi).other hg hr, fun i g hi => (h.mean i g hi).mono fun _ _ hf => hf.grown hg fun g e => by obtain ⟨o, ho, hc⟩ := hr g e; exact Bv ho hc, h.sep, h.apart⟩
theorem Z8 {m w w' : World} (h : KeepsOthers m w) (hb : Below w.heap.size w w') : KeepsOthers m w' :=
 h.trans ⟨hb.size, fun k o hk _ => (hb.block k (Array.getElem?_eq_some_iff.1 hk).1).trans hk⟩
theorem ajC {m w : World} (h : KeepsOthers m w) (a : Addr) (v : Value) : KeepsOthers m (w.setCell a v) := h.trans (KeepsOthers.setCell w a v)
theorem Z9 {m w w' : World} {base e size n : Nat} {v : Value} {xs : List Value} (h : KeepsOthers m w) (hl : dL w base e size v n xs) (hg : w.grownBy w' v.ownBlock) : KeepsOthers m w' := by
 refine h.trans (KeepsOthers.of_grownBy hg fun j o hj ho => ?_)
 rcases hl.1.2 with ⟨rfl, _⟩ | ⟨g', cap, cur, rfl, hb, hh, _⟩
 · cases hj
 ·
  cases hj
  rw [hh] at ho
  cases ho
  rfl
theorem YG {l n : Nat} {P : Program} {f : FuncId} {args : Array Value} {w : World} {R : Ending → World → Prop} (h : Calls P f args w R) : CallsIn (Fence.wide.inRound l) n P f args w R := CallsIn.inRound l (callsIn_wide.2 h)
def Rw (T n : Nat) (Bs : List Nat) (W W' : World) : Prop := Below n W W' ∧ (∀ b, b ∈ Bs → W'.heap[b]? = W.heap[b]?) ∧ ∀ (k : Nat) (cs : Array Value) (fr : Nat × Nat), W.heap[k]? = some (.cells cs T fr) → W'.heap[k]? = some (.cells cs T fr)
theorem Rw.trans {T n : Nat} {Bs : List Nat} {X Y Z : World} (h : Rw T n Bs X Y) (k : Rw T n Bs Y Z) : Rw T n Bs X Z := ⟨h.1.trans k.1, fun b hb => (k.2.1 b hb).trans (h.2.1 b hb), fun c cs fr hc => k.2.2 c cs fr (h.2.2 c cs fr hc)⟩
theorem Rw.putObj {T n m : Nat} {Bs : List Nat} (hn : n ≤ m) (hB : ∀ b, b ∈ Bs → b < m) (W : World) (l : Nat) (o o' : Obj) (hl : m ≤ l) (h : W.heap[l]? = some o) (hc : o.isCells = false) : Rw T n Bs W (W.putObj l o') :=
 ⟨(Below.refl n W).grown (grownBy_putObj' W l o') (by have := (Array.getElem?_eq_some_iff.1 h).1; omega) (fun k e => by cases e; omega), fun b hb => World.putObj_heap_other (by have := hB b hb; omega), fun k cs fr hk => (World.putObj_heap_other (fun e => sZ h hc (e ▸ hk) rfl)).trans hk⟩
def KT (T : Nat) (m w : World) : Prop := KeepsOthers m w ∧ ∀ (k : Nat) (cs : Array Value) (fr : Nat × Nat), m.heap[k]? = some (.cells cs T fr) → w.heap[k]? = some (.cells cs T fr)
theorem aez (T : Nat) (w : World) : KT T w w := ⟨KeepsOthers.refl w, fun _ _ _ h => h⟩
theorem jy {T : Nat} {m w w' : World} (h : KT T m w) (hb : Below w.heap.size w w') : KT T m w' :=
 ⟨Z8 h.1 hb, fun k cs fr hk => by have h1 := h.2 k cs fr hk; exact (hb.block k (Array.getElem?_eq_some_iff.1 h1).1).trans h1⟩
theorem FV {T : Nat} {m w : World} (h : KT T m w) (o : Obj) : KT T m (w.alloc o) := jy h ((Below.refl _ _).alloc (Nat.le_refl _) o)
theorem wX {T : Nat} {m w W : World} (h : KT T m w) (e : w = W) : KT T m W := by subst e; exact h
theorem J8 {T T' : Nat} {m w : World} (h : KT T m w) {B : Nat} {cs : Array Value} {fr : Nat × Nat} (hB : w.heap[B]? = some (.cells cs T' fr)) (hne : T' ≠ T) (j : Nat) (v : Value) : KT T m (w.setCell ⟨B, j, none⟩ v) :=
 ⟨ajC h.1 _ _, fun k cs' fr' hk => by
  have h1 := h.2 k cs' fr' hk
  have hkB : k ≠ B := by
   rintro rfl
   rw [h1] at hB
   cases hB
   exact hne rfl
  exact (heap_setCell_other w ⟨B, j, none⟩ k v hkB).trans h1⟩
theorem aeA {T T' : Nat} {m w : World} (h : KT T m w) {B : Nat} {cs : Array Value} (hB : w.heap[B]? = some (.cells cs T' (0, 0))) (hne : T' ≠ T) {j0 : Nat} {v0 : Value} : KT T m (w.setCell ⟨B, j0, none⟩ v0) := J8 h hB hne j0 v0
theorem C_ {T T' : Nat} {m w : World} (h : KT T m w) {B : Nat} {cs : Array Value} (hB : w.heap[B]? = some (.cells cs T' (0, 0))) (hne : T' ≠ T) {j0 j1 j2 : Nat} {v0 v1 v2 : Value} : KT T m (((w.setCell ⟨B, j0, none⟩ v0).setCell ⟨B, j1, none⟩ v1).setCell ⟨B, j2, none⟩ v2) :=
 J8 (J8 (J8 h hB hne j0 v0) (bM hB j0 v0) hne j1 v1) (bM (bM hB j0 v0) j1 v1) hne j2 v2
theorem xW {T T' : Nat} {m w : World} (h : KT T m w) {B : Nat} {cs : Array Value} (hB : w.heap[B]? = some (.cells cs T' (0, 0))) (hne : T' ≠ T) {j0 j1 j2 j3 j4 j5 : Nat} {v0 v1 v2 v3 v4 v5 : Value} :
  KT T m ((((((w.setCell ⟨B, j0, none⟩ v0).setCell ⟨B, j1, none⟩ v1).setCell ⟨B, j2, none⟩ v2).setCell ⟨B, j3, none⟩ v3).setCell ⟨B, j4, none⟩ v4).setCell ⟨B, j5, none⟩ v5) := by
 have b1 := bM hB j0 v0
 have b2 := bM b1 j1 v1
 have b3 := bM b2 j2 v2
 exact C_ (C_ h hB hne) b3 hne
theorem aae {T e : Nat} {m w w' : World} {base size n : Nat} {v : Value} {xs : List Value} (h : KT T m w) (hl : dL w base e size v n xs) (hg : w.grownBy w' v.ownBlock) (hne : e ≠ T) : KT T m w' :=
 ⟨Z9 h.1 hl hg, fun k cs fr hk => by
  have h1 := h.2 k cs fr hk
  refine (hg.block k (Array.getElem?_eq_some_iff.1 h1).1 (fun e1 => ?_)).trans h1
  rcases hl.1.2 with ⟨rfl, _⟩ | ⟨g', cap, cur, rfl, hb, hh, _⟩
  · cases e1
  ·
   cases e1
   rw [hh] at h1
   cases h1
   exact hne rfl⟩
theorem lY {l n : Nat} {P : Program} {ops : Array Oper} {Q : Exit → Act → World → Prop} (hQ : ∀ a w, ¬ Q .outgrown a w) : ∀ (os : List Oper), (∀ o, o ∈ os → ∀ c, o.op ≠ .defer c) → ∀ (a : Act) (w : World), wpList P ops Q os a w → wpListIn (Fence.wide.inRound l) n P ops Q os a w
 | [], _, _, _, h => h
 | o :: os, hnd, a, w, h => by
  unfold wpList at h
  unfold wpListIn
  by_cases hw : Region.wanted o (yielded ops a.tmps) = true
  ·
   rw [if_pos hw] at h ⊢
   rcases h with h | ⟨_, a', w', h⟩
   · exact Oper.wpIn_mono (fun a w h => lY hQ os (fun o ho => hnd o (List.mem_cons_of_mem _ ho)) a w h) (zl (hnd o List.mem_cons_self) h)
   · exact absurd h (hQ a' w')
  ·
   rw [if_neg hw] at h ⊢
   exact ⟨fun _ _ => trivial, lY hQ os (fun o ho => hnd o (List.mem_cons_of_mem _ ho)) _ _ h⟩
theorem uM {l n : Nat} {P : Program} {os : List Oper} {Q : Exit → Act → World → Prop} {id : Nat} {a : Act} {w : World} (hd : KA os.toArray = true) (hQ : ∀ a w, ¬ Q .outgrown a w) (h : wpList P os.toArray Q os a w) : (Code.region id os.toArray false).wpIn (Fence.wide.inRound l) n P Q a w := by
 refine wpIn_region_lit (lY hQ os (fun o ho => ?_) a w h)
 obtain ⟨i, hi⟩ := List.mem_iff_getElem?.1 ho
 exact zT hd i o (by simpa using hi)
theorem Sx.kept {w0 w w' : World} {bs : List Bx} {fs : List Fx} (h : Sx w0 w bs []) (h0 : Sx w0 w0 [] fs) (hb : Below w0.heap.size w0 w') (hk : ∀ b, b ∈ bs → w'.heap[b.1]? = w.heap[b.1]?) : Sx w0 w' bs fs :=
 ⟨hb, fun i b hi => ⟨(hk b (List.mem_iff_getElem?.2 ⟨i, hi⟩)).trans (h.box i b hi).1, (h.box i b hi).2⟩, h.Qm, fun i f hi => (h0.B_ i f hi).below hb⟩
theorem oC {w : World} {B T : Nat} {cs : Array Value} (h : w.heap[B]? = some (.cells cs T (0, 0))) {o n : Nat} (hn : o + n ≤ cs.size) : w.there B o n := fun j hj => by
 have hlt : o + j < cs.size := by omega
 exact ⟨by rw [af h (o + j) cs[o + j] (Array.getElem?_eq_getElem hlt)]; rfl, ah h (o + j)⟩
theorem kV {P : Program} {w W' : World} {ops : Array Oper} {op : Oper} {a : Act} {K : Act → World → Prop} {Q : Exit → Act → World → Prop} {E : Prop} (hgd : op.guard = none) (ty : TypeId) (x y : Operand) (ho : op.op = .store ty x y)
  (b o : Nat) (cells : Array Value) (hx : a.eval x = .pointer (some ⟨b, o, none⟩)) (hy : a.eval y = .agg cells)
  (ht : w.there b o cells.size) (hi : (P.info? ty).map (·.size) = some cells.size) (h1 : cells.all (·.oneCell') = true) (hW : w.setCells b o cells.toList = W')
  (h : K (a.put op.dst undef) W') : if Region.wanted op (yielded ops a.tmps) = true then Oper.wp P op a w K Q else E := by
 have hw : Region.wanted op (yielded ops a.tmps) = true := by simp [Region.wanted, hgd]
 rw [if_pos hw]
 subst hW
 exact wp_store_mid ty x y ho b o cells hx hy ht hi h1 h
theorem Gy {P : Program} {w : World} {op : Oper} {a : Act} (ty : TypeId) (x : Operand) (ho : op.op = .load ty x) (b o : Nat) (hx : a.eval x = .pointer (some ⟨b, o, none⟩)) (cs : List Value) (d : TypeDesc) (hc : w.rangeAt b o cs)
  (hu : P.underlying ty = some d) (hd : d.isRow = true) (hi : (P.info? ty).map (·.size) = some cs.length) : (execOp a.eval op).run P w = .ok (.value (.agg cs.toArray)) w := by
 unfold execOp
 simp only [ho, hx, Instr.loadAt, Instr.sureAddr, Sem.run_bind, Sem.run_pure, Result.andThen_ok, run_loadVar_mid w b o ty cs d hc hu hd hi]
theorem jA {w w' : World} {b o n : Nat} {cs : List Value} (h : w.rangeAt b o cs) (hb : Below n w w') (hlt : b < n) : w'.rangeAt b o cs := fun j v hj => (hb.cell (p := ⟨b, o + j, none⟩) hlt).trans (h j v hj)
theorem di.pick {p : Bool} {k : Nat} {w : World} {v : Value} {qs : List (List Rat)} (h : di p k w v qs) (hp : 0 < qs.length) : ∃ (b off cap : Nat) (X : Nat → Nat → R3), v = .slice (some ⟨b, off, none⟩) qs.length cap ∧ b < w.heap.size ∧
  ∀ i, i < qs.length → ∀ j, j < k → w.cell? ⟨b, off + i * (3 * k) + j * 3, none⟩ = some (.bool (X i j).b) ∧ w.cell? ⟨b, off + i * (3 * k) + j * 3 + 1, none⟩ = some (.slice (X i j).a (X i j).n (X i j).c) ∧ w.cell? ⟨b, off + i * (3 * k) + j * 3 + 2, none⟩ = some (.slice (X i j).d (X i j).m (X i j).e) ∧ Fr p w (X i j).val ((qs.getD i []).getD j 0) := by
 obtain ⟨ao, cap, rfl, h⟩ := h
 obtain ⟨b, off, rfl, hlt, h⟩ := h hp
 refine ⟨b, off, cap, fun i j => if hi : i < qs.length then if hj : j < k then Classical.choose (h i hi j hj) else dQ else dQ, rfl, hlt, fun i hi j hj => ?_⟩
 have hs := Classical.choose_spec (h i hi j hj)
 simp only [hi, hj, dite_true]
 exact hs
theorem x8 (x : R3) (w : World) : Calls Tryz.prog 8 #[x.val] w (fun e w' => e = .returned (.agg #[.bool x.b, .slice x.a x.n x.c, .slice x.d x.m x.e, .bool x.b, .slice x.a x.n x.c, .slice x.d x.m x.e]) ∧ Below w.heap.size w w') := by
 go_enter Tryz.func8, Tryz.ntmps8
 go_wp2_with fail
 exact bodyPost_ret (v := zg x x) (by simp [results, Tryz.results8, go_sem]) rfl ⟨rfl, below2 _ _ _⟩
theorem zN (p : Rat) (v : Value) (w : World) (h : aA w v p) (s : bQ p 10000) : Calls Tryz.prog 40 #[v] w (ja (BK p) w) := by
 obtain ⟨x, rfl⟩ := h.bn
 have HS := ae ((Sx.init w).az h)
 have SP := ae s
 clear h s
 go_enter Tryz.func40, Tryz.ntmps40
 go_wp2_with fail
 generalize hW1 : (w).alloc (.cells _ _) = W1 at *
 replace HS := ae (((HS.out).alloc (B := w.heap.size) rfl (by rfl)).to hW1 (by (try simp only [ig, ik]); rfl))
 clear hW1
 obtain ⟨c2, hc2⟩ : ∃ κ, κ = jG (decide (p.num < 0)) p.num.natAbs := ⟨_, rfl⟩
 have HC2 := ae hc2
 clear hc2
 refine (AZ p _ _ (HS.out.p 0 _ _ rfl)).mono ?_
 rw [← HC2.out]
 rintro e w2 ⟨rfl, hb2⟩
 replace HS := ae (HS.out.below hb2)
 clear hb2
 by_cases Vp : c2 ≥ 0
 ·
  have t3 : decide (c2 ≥ 0) = true := decide_eq_true Vp
  have T3 := ae Vp
  clear Vp
  obtain ⟨iy, iL, jD, jI, jU, kz⟩ := eu (x := x) (HS.out.at 0 _ _ _ rfl)
  have rG := ai (HS.out.at 0 _ _ _ rfl)
  go_wp2_with fail
  clear iy iL jD jI jU kz rG
  refine (lS p p _ _ _ (HS.out.p 0 _ _ rfl) (HS.out.p 0 _ _ rfl) (aj SP.out (by omega)) (aj SP.out (by omega))).mono ?_
  rintro e w4 ⟨v4, rfl, hv4, hb4⟩
  obtain ⟨z4, rfl⟩ := hv4.bn
  replace HS := ae (HS.out.below hb4)
  clear hb4
  replace HS := ae (HS.out.az hv4)
  clear hv4
  go_wp2_with fail
  refine (one_any _).mono ?_
  rintro e w5 ⟨v5, rfl, hv5, hb5⟩
  obtain ⟨z5, rfl⟩ := hv5.bn
  replace HS := ae (HS.out.below hb5)
  clear hb5
  replace HS := ae (HS.out.az hv5)
  clear hv5
  go_wp2_with fail
  obtain ⟨c6, hc6⟩ : ∃ κ, κ = dN (p + p) 1 := ⟨_, rfl⟩
  have HC6 := ae hc6
  clear hc6
  refine (iM (p + p) 1 _ _ _ (HS.out.p 1 _ _ rfl) (HS.out.p 0 _ _ rfl) (aj (lN SP.out SP.out) (by omega)) (aj (jb 1 (by omega)) (by omega))).mono ?_
  rw [← HC6.out]
  rintro e w6 ⟨rfl, hb6⟩
  replace HS := ae (HS.out.below hb6)
  clear hb6
  go_wp2_with fail
  have HF : Hid (BK p = (decide (0 ≤ jG (decide (p.num < 0)) p.num.natAbs) && decide (dN (p + p) 1 ≤ 0))) := rfl
  have HR : Hid (BK p = decide (c6 ≤ 0)) := (by show _ = _; first | (rw [HF.out]; simp only [← HC2.out, ← HC6.out, t3, Bool.and_true, Bool.true_and, Bool.and_false, Bool.false_and, Bool.or_true, Bool.true_or, Bool.or_false, Bool.false_or, Bool.not_true, Bool.not_false, cond_true, cond_false]) | (rw [HF.out]; simp [← HC2.out, ← HC6.out, t3]))
  go_ret
  exact ⟨by rw [HR.out] <;> rfl, HS.out.bel⟩
 ·
  have t3 : decide (c2 ≥ 0) = false := decide_eq_false Vp
  have T3 := ae Vp
  clear Vp
  go_wp2_with fail
  have HF : Hid (BK p = (decide (0 ≤ jG (decide (p.num < 0)) p.num.natAbs) && decide (dN (p + p) 1 ≤ 0))) := rfl
  have HR : Hid (BK p = false) := (by show _ = _; first | (rw [HF.out]; simp only [← HC2.out, t3, Bool.and_true, Bool.true_and, Bool.and_false, Bool.false_and, Bool.or_true, Bool.true_or, Bool.or_false, Bool.false_or, Bool.not_true, Bool.not_false, cond_true, cond_false]) | (rw [HF.out]; simp [← HC2.out, t3]))
  go_ret
  exact ⟨by rw [HR.out] <;> rfl, HS.out.bel⟩
theorem Ip (p : Rat) (v : Value) (w : World) (h : aA w v p) (s : bQ p 10000) : Calls Tryz.prog 43 #[v] w (dW (1 - p) w) := by
 obtain ⟨x, rfl⟩ := h.bn
 have HS := ae ((Sx.init w).az h)
 have SP := ae s
 clear h s
 go_enter Tryz.func43, Tryz.ntmps43
 go_wp2_with fail
 generalize hW1 : ((w).alloc (.cells _ _)).alloc (.cells _ _) = W1 at *
 replace HS := ae ((((HS.out).alloc (B := w.heap.size) rfl (by rfl)).alloc (B := w.heap.size + 1) (by simp) (by rfl)).to hW1 (by (try simp only [ig, ik]); rfl))
 clear hW1
 refine wp_region_held_drew (S := (fun w' => Sx w w' [(w.heap.size, x.arr, 40)] [])) (by kernel_rfl) ((HS.out.drew).erase 0) (fun hh => ?_)
 replace HS := ae HS.out.drew
 refine dF (i := 1) (v := ?vk3) rfl ?hk3 ?rk3
 case hk3 => intro u aH; (try dsimp only at aH); obtain ⟨kH, kJ, kK, _⟩ := eu (x := x) (aH.at 0 _ _ _ rfl); clear aH; go_simp <;> with_reducible rfl
 try simp only [ag]
 refine rdA (i := 0) rfl (fun K hK => ?_)
 go_simp
 go_wp2_with (go_at_call 44; (with_reducible refine (one_any _).mono ?_); rintro e w4 ⟨v4, rfl, hv4, hb4⟩; obtain ⟨z4, rfl⟩ := hv4.bn)
 refine hK.out _ _ (Sx.below hh hb4) (fun hh => ?_)
 clear hK K
 try simp only [ag]
 replace HS := ae (HS.out.below hb4)
 clear hb4
 replace HS := ae (HS.out.az hv4)
 clear hv4
 refine rdA (i := 2) rfl (fun K hK => ?_)
 go_simp
 have a6 := HS.out.p 0 _ _ rfl
 have a7 := HS.out.p 1 _ _ rfl
 go_wp2_with (go_at_call 45; (with_reducible refine (zk 1 p _ _ _ a6 a7 (aj (jb 1 (by omega)) (by omega)) (aj SP.out (by omega))).mono ?_); rintro e w5 ⟨v5, rfl, hv5, hb5⟩; obtain ⟨z5, rfl⟩ := hv5.bn)
 refine hK.out _ _ (Sx.below hh hb5) (fun hh => ?_)
 clear hK K
 try simp only [ag]
 replace HS := ae (HS.out.below hb5)
 clear hb5 a6 a7
 replace HS := ae (HS.out.az hv5)
 clear hv5
 refine rdA (i := 3) rfl (fun K hK => ?_)
 have gW := (HS.out.at 0 _ _ _ rfl)
 have kC := af gW 0 (.bool false) rfl
 have kD := af gW 1 (.slice none 0 0) rfl
 have qB := af gW 2 (.slice none 0 0) rfl
 have lT := ah gW 0
 have lU := ah gW 1
 have vK := ah gW 2
 have yO := ai gW
 clear gW
 go_simp
 refine hK.out _ _ ((((HS.out).oz 0 dQ z5 rfl)).erase 0) (fun hh => ?_)
 clear hK K kC kD qB lT lU vK yO
 try simp only [ag]
 generalize hW8 : (((w5).setCell _ _).setCell _ _).setCell _ _ = W8 at *
 replace HS := ae (((HS.out).oz 0 dQ z5 rfl).to hW8 (by (try simp only [ig, ik]); rfl))
 clear hW8
 refine wpAnyH_done (by kernel_rfl) ?_ _
 obtain ⟨kC, kD, qB, lT, lU, vK⟩ := eu (x := z5) (HS.out.at 0 _ _ _ rfl)
 have yO := ai (HS.out.at 0 _ _ _ rfl)
 go_wp2_with fail
 clear kC kD qB lT lU vK yO
 obtain ⟨kC, kD, qB, _⟩ := eu (x := z5) (HS.out.at 0 _ _ _ rfl)
 refine bodyPost_ret (v := z5.val) (by simp [results, Tryz.results43, go_sem, kC, kD, qB]) rfl ⟨_, rfl, (HS.out.p 0 _ _ rfl), HS.out.bel⟩
theorem R_ (p h0 h1 t0 t1 c0 c1 : Rat) (x0 x1 x2 x3 x4 x5 x6 : R3) (w : World) (g0 : aA w x0.val p) (g1 : aA w x1.val h0) (g2 : aA w x2.val h1) (g3 : aA w x3.val t0) (g4 : aA w x4.val t1) (g5 : aA w x5.val c0) (g6 : aA w x6.val c1) (sp : bQ p 1000) (sh0 : bQ h0 1000) (sh1 : bQ h1 1000) (st0 : bQ t0 1000) (st1 : bQ t1 1000) (sc0 : bQ c0 1000) (sc1 : bQ c1 1000) : Calls Tryz.prog 70 #[.agg #[.bool x0.b, .slice x0.a x0.n x0.c, .slice x0.d x0.m x0.e, .bool x1.b, .slice x1.a x1.n x1.c, .slice x1.d x1.m x1.e, .bool x2.b, .slice x2.a x2.n x2.c, .slice x2.d x2.m x2.e, .bool x3.b, .slice x3.a x3.n x3.c, .slice x3.d x3.m x3.e, .bool x4.b, .slice x4.a x4.n x4.c, .slice x4.d x4.m x4.e, .bool x5.b, .slice x5.a x5.n x5.c, .slice x5.d x5.m x5.e, .bool x6.b, .slice x6.a x6.n x6.c, .slice x6.d x6.m x6.e]] w (ja (!BK p || (decide (jG (decide (h0.num < 0)) h0.num.natAbs < 0) || !g_ c0 c1)) w) := by
 have HS := ae ((((((((Sx.init w).az g0).az g1).az g2).az g3).az g4).az g5).az g6)
 have Sp := ae sp
 have Sh0 := ae sh0
 have Sh1 := ae sh1
 have St0 := ae st0
 have St1 := ae st1
 have Sc0 := ae sc0
 have Sc1 := ae sc1
 clear g0 g1 g2 g3 g4 g5 g6 sp sh0 sh1 st0 st1 sc0 sc1
 go_enter Tryz.func70, Tryz.ntmps70
 go_wp2_with fail
 generalize hW1 : (w).alloc (.cells _ _) = W1 at *
 replace HS := ae (((HS.out).alloc (B := w.heap.size) rfl (by rfl)).to hW1 (by (try simp only [ig, ik]); rfl))
 clear hW1
 cases t2 : BK p with
 | true =>
  refine (zN p _ _ (HS.out.p 6 _ _ rfl) (aj Sp.out (by omega))).mono ?_
  rw [t2]
  rintro e w3 ⟨rfl, hb3⟩
  replace HS := ae (HS.out.below hb3)
  clear hb3
  have bg := (HS.out.at 0 _ _ _ rfl)
  have iy := af bg 0 (.bool x0.b) rfl
  have iL := af bg 1 (.slice x0.a x0.n x0.c) rfl
  have jD := af bg 2 (.slice x0.d x0.m x0.e) rfl
  have pg := af bg 3 (.bool x1.b) rfl
  have qo := af bg 4 (.slice x1.a x1.n x1.c) rfl
  have qp := af bg 5 (.slice x1.d x1.m x1.e) rfl
  have uf := af bg 6 (.bool x2.b) rfl
  have ahH := af bg 7 (.slice x2.a x2.n x2.c) rfl
  have ahI := af bg 8 (.slice x2.d x2.m x2.e) rfl
  have ahJ := af bg 9 (.bool x3.b) rfl
  have XI := af bg 10 (.slice x3.a x3.n x3.c) rfl
  have XJ := af bg 11 (.slice x3.d x3.m x3.e) rfl
  have XK := af bg 12 (.bool x4.b) rfl
  have XL := af bg 13 (.slice x4.a x4.n x4.c) rfl
  have XM := af bg 14 (.slice x4.d x4.m x4.e) rfl
  have XO := af bg 15 (.bool x5.b) rfl
  have XP := af bg 16 (.slice x5.a x5.n x5.c) rfl
  have XQ := af bg 17 (.slice x5.d x5.m x5.e) rfl
  have XR := af bg 18 (.bool x6.b) rfl
  have XT := af bg 19 (.slice x6.a x6.n x6.c) rfl
  have XU := af bg 20 (.slice x6.d x6.m x6.e) rfl
  have jI := ah bg 0
  have jU := ah bg 1
  have kz := ah bg 2
  have qx := ah bg 3
  have qy := ah bg 4
  have qA := ah bg 5
  have ug := ah bg 6
  have ahK := ah bg 7
  have ahL := ah bg 8
  have ahM := ah bg 9
  have XV := ah bg 10
  have XW := ah bg 11
  have XX := ah bg 12
  have XY := ah bg 13
  have XZ := ah bg 14
  have X0 := ah bg 15
  have X3 := ah bg 16
  have X5 := ah bg 17
  have X6 := ah bg 18
  have X7 := ah bg 19
  have X8 := ah bg 20
  have rG := ai bg
  clear bg
  go_wp2_with fail
  clear iy iL jD pg qo qp uf ahH ahI ahJ XI XJ XK XL XM XO XP XQ XR XT XU jI jU kz qx qy qA ug ahK ahL ahM XV XW XX XY XZ X0 X3 X5 X6 X7 X8 rG
  refine (ny h0 h1 _ _ (gB (HS.out.p 5 _ _ rfl) (HS.out.p 4 _ _ rfl))).mono ?_
  rintro e w4 ⟨v4, rfl, hv4, hb4⟩
  obtain ⟨z4, rfl⟩ := hv4.bn
  replace HS := ae (HS.out.below hb4)
  clear hb4
  replace HS := ae (HS.out.az hv4)
  clear hv4
  go_wp2_with fail
  obtain ⟨c5, hc5⟩ : ∃ κ, κ = jG (decide (h0.num < 0)) h0.num.natAbs := ⟨_, rfl⟩
  have HC5 := ae hc5
  clear hc5
  refine (AZ h0 _ _ (HS.out.p 0 _ _ rfl)).mono ?_
  rw [← HC5.out]
  rintro e w5 ⟨rfl, hb5⟩
  replace HS := ae (HS.out.below hb5)
  clear hb5
  by_cases t6p : c5 < 0
  ·
   have t6 : decide (c5 < 0) = true := decide_eq_true t6p
   have T6 := ae t6p
   clear t6p
   go_wp2_with fail
   have HF : Hid ((!BK p || (decide (jG (decide (h0.num < 0)) h0.num.natAbs < 0) || !g_ c0 c1)) = (!BK p || (decide (jG (decide (h0.num < 0)) h0.num.natAbs < 0) || !g_ c0 c1))) := rfl
   have HR : Hid ((!BK p || (decide (jG (decide (h0.num < 0)) h0.num.natAbs < 0) || !g_ c0 c1)) = true) := (by show _ = _; first | (simp only [← HC5.out, t2, t6, Bool.and_true, Bool.true_and, Bool.and_false, Bool.false_and, Bool.or_true, Bool.true_or, Bool.or_false, Bool.false_or, Bool.not_true, Bool.not_false, cond_true, cond_false]; done) | simp [← HC5.out, t2, t6])
   go_ret
   exact ⟨by rw [HR.out] <;> rfl, HS.out.bel⟩
  ·
   have t6 : decide (c5 < 0) = false := decide_eq_false t6p
   have T6 := ae t6p
   clear t6p
   have bg := (HS.out.at 0 _ _ _ rfl)
   have iy := af bg 0 (.bool x0.b) rfl
   have iL := af bg 1 (.slice x0.a x0.n x0.c) rfl
   have jD := af bg 2 (.slice x0.d x0.m x0.e) rfl
   have pg := af bg 3 (.bool x1.b) rfl
   have qo := af bg 4 (.slice x1.a x1.n x1.c) rfl
   have qp := af bg 5 (.slice x1.d x1.m x1.e) rfl
   have uf := af bg 6 (.bool x2.b) rfl
   have ahH := af bg 7 (.slice x2.a x2.n x2.c) rfl
   have ahI := af bg 8 (.slice x2.d x2.m x2.e) rfl
   have ahJ := af bg 9 (.bool x3.b) rfl
   have XI := af bg 10 (.slice x3.a x3.n x3.c) rfl
   have XJ := af bg 11 (.slice x3.d x3.m x3.e) rfl
   have XK := af bg 12 (.bool x4.b) rfl
   have XL := af bg 13 (.slice x4.a x4.n x4.c) rfl
   have XM := af bg 14 (.slice x4.d x4.m x4.e) rfl
   have XO := af bg 15 (.bool x5.b) rfl
   have XP := af bg 16 (.slice x5.a x5.n x5.c) rfl
   have XQ := af bg 17 (.slice x5.d x5.m x5.e) rfl
   have XR := af bg 18 (.bool x6.b) rfl
   have XT := af bg 19 (.slice x6.a x6.n x6.c) rfl
   have XU := af bg 20 (.slice x6.d x6.m x6.e) rfl
   have jI := ah bg 0
   have jU := ah bg 1
   have kz := ah bg 2
   have qx := ah bg 3
   have qy := ah bg 4
   have qA := ah bg 5
   have ug := ah bg 6
   have ahK := ah bg 7
   have ahL := ah bg 8
   have ahM := ah bg 9
   have XV := ah bg 10
   have XW := ah bg 11
   have XX := ah bg 12
   have XY := ah bg 13
   have XZ := ah bg 14
   have X0 := ah bg 15
   have X3 := ah bg 16
   have X5 := ah bg 17
   have X6 := ah bg 18
   have X7 := ah bg 19
   have X8 := ah bg 20
   have rG := ai bg
   clear bg
   go_wp2_with fail
   clear iy iL jD pg qo qp uf ahH ahI ahJ XI XJ XK XL XM XO XP XQ XR XT XU jI jU kz qx qy qA ug ahK ahL ahM XV XW XX XY XZ X0 X3 X5 X6 X7 X8 rG
   cases t7 : g_ c0 c1 with
   | true =>
    refine (tu c0 c1 _ _ (gB (HS.out.p 2 _ _ rfl) (HS.out.p 1 _ _ rfl)) (aj Sc1.out (by omega))).mono ?_
    rw [t7]
    rintro e w8 ⟨rfl, hb8⟩
    replace HS := ae (HS.out.below hb8)
    clear hb8
    go_wp2_with fail
    have HF : Hid ((!BK p || (decide (jG (decide (h0.num < 0)) h0.num.natAbs < 0) || !g_ c0 c1)) = (!BK p || (decide (jG (decide (h0.num < 0)) h0.num.natAbs < 0) || !g_ c0 c1))) := rfl
    have HR : Hid ((!BK p || (decide (jG (decide (h0.num < 0)) h0.num.natAbs < 0) || !g_ c0 c1)) = false) := (by show _ = _; first | (simp only [← HC5.out, t2, t6, t7, Bool.and_true, Bool.true_and, Bool.and_false, Bool.false_and, Bool.or_true, Bool.true_or, Bool.or_false, Bool.false_or, Bool.not_true, Bool.not_false, cond_true, cond_false]; done) | simp [← HC5.out, t2, t6, t7])
    go_ret
    exact ⟨by rw [HR.out] <;> rfl, HS.out.bel⟩
   | false =>
    refine (tu c0 c1 _ _ (gB (HS.out.p 2 _ _ rfl) (HS.out.p 1 _ _ rfl)) (aj Sc1.out (by omega))).mono ?_
    rw [t7]
    rintro e w9 ⟨rfl, hb9⟩
    replace HS := ae (HS.out.below hb9)
    clear hb9
    go_wp2_with fail
    have HF : Hid ((!BK p || (decide (jG (decide (h0.num < 0)) h0.num.natAbs < 0) || !g_ c0 c1)) = (!BK p || (decide (jG (decide (h0.num < 0)) h0.num.natAbs < 0) || !g_ c0 c1))) := rfl
    have HR : Hid ((!BK p || (decide (jG (decide (h0.num < 0)) h0.num.natAbs < 0) || !g_ c0 c1)) = true) := (by show _ = _; first | (simp only [← HC5.out, t2, t6, t7, Bool.and_true, Bool.true_and, Bool.and_false, Bool.false_and, Bool.or_true, Bool.true_or, Bool.or_false, Bool.false_or, Bool.not_true, Bool.not_false, cond_true, cond_false]; done) | simp [← HC5.out, t2, t6, t7])
    go_ret
    exact ⟨by rw [HR.out] <;> rfl, HS.out.bel⟩
 | false =>
  refine (zN p _ _ (HS.out.p 6 _ _ rfl) (aj Sp.out (by omega))).mono ?_
  rw [t2]
  rintro e w10 ⟨rfl, Zf⟩
  replace HS := ae (HS.out.below Zf)
  clear Zf
  go_wp2_with fail
  have HF : Hid ((!BK p || (decide (jG (decide (h0.num < 0)) h0.num.natAbs < 0) || !g_ c0 c1)) = (!BK p || (decide (jG (decide (h0.num < 0)) h0.num.natAbs < 0) || !g_ c0 c1))) := rfl
  have HR : Hid ((!BK p || (decide (jG (decide (h0.num < 0)) h0.num.natAbs < 0) || !g_ c0 c1)) = true) := (by show _ = _; first | (simp only [t2, Bool.and_true, Bool.true_and, Bool.and_false, Bool.false_and, Bool.or_true, Bool.true_or, Bool.or_false, Bool.false_or, Bool.not_true, Bool.not_false, cond_true, cond_false]; done) | simp [t2])
  go_ret
  exact ⟨by rw [HR.out] <;> rfl, HS.out.bel⟩
theorem P_ (ls : List (List Rat)) (f : Nat → Bool) (v : Value) (w : World) (h : di true 7 w v ls) (hl : ls.length ≤ 300) (hf : ∀ i (y0 y1 y2 y3 y4 y5 y6 : R3), i < ls.length → ∀ W, Below w.heap.size w W → aA W y0.val (aS ls i 0) → aA W y1.val (aS ls i 1) → aA W y2.val (aS ls i 2) → aA W y3.val (aS ls i 3) → aA W y4.val (aS ls i 4) → aA W y5.val (aS ls i 5) → aA W y6.val (aS ls i 6) → Calls Tryz.prog 70 #[.agg #[.bool y0.b, .slice y0.a y0.n y0.c, .slice y0.d y0.m y0.e, .bool y1.b, .slice y1.a y1.n y1.c, .slice y1.d y1.m y1.e, .bool y2.b, .slice y2.a y2.n y2.c, .slice y2.d y2.m y2.e, .bool y3.b, .slice y3.a y3.n y3.c, .slice y3.d y3.m y3.e, .bool y4.b, .slice y4.a y4.n y4.c, .slice y4.d y4.m y4.e, .bool y5.b, .slice y5.a y5.n y5.c, .slice y5.d y5.m y5.e, .bool y6.b, .slice y6.a y6.n y6.c, .slice y6.d y6.m y6.e]] W (ja (f i) W)) :
  Calls Tryz.prog 92 #[v, .func (.func 70) #[] #[]] w (yN (dS f ls.length) w) := by
 have HS := ae (Sx.init w)
 have HF := ae hf
 obtain ⟨al, cl, rfl, hE⟩ := h
 have HE := ae hE
 clear hE hf
 go_enter Tryz.func92, Tryz.ntmps92
 go_wp2_with fail
 go_loopw [8] (fun u8 wr => ∃ (i : Nat), i ≤ ls.length ∧ u8 = .int .i64 i ∧ Hid (dS f i = -1) ∧ Hid (Sx w wr [] []))
  (fun u _ => ls.length - (intOf u).toNat)
 case atStart => exact ⟨0, Nat.zero_le _, rfl, ae rfl, ae (HS.out.bare)⟩
 case round =>
  obtain ⟨Rf, ajA⟩ : ∃ z, z = wr := ⟨_, rfl⟩
  subst ajA
  clear HS
  obtain ⟨i, hi, rfl, VG, HS⟩ := hrel
  by_cases hlt : i < ls.length
  ·
   have hlt' : (i : Int) < ls.length := by omega
   have hge' : (0 : Int) ≤ i := by omega
   have gq := ae hlt
   obtain ⟨b, qR, rfl, ale, K_⟩ := HE.out (by omega)
   have ao3 := ae ale
   obtain ⟨AT, hAT⟩ : ∃ z, qR + i * 21 = z := ⟨_, rfl⟩
   obtain ⟨T0, Ai, Aj, Ak, Th⟩ := K_ i hlt 0 (by omega)
   rw [show qR + i * (3 * 7) + 0 * 3 = AT by omega] at Ai
   have Tc0 : Hid (w.cell? ⟨b, AT, none⟩ = some (.bool T0.b)) := Ai
   rw [show qR + i * (3 * 7) + 0 * 3 + 1 = AT + 1 by omega] at Aj
   have Tc1 : Hid (w.cell? ⟨b, AT + 1, none⟩ = some (.slice T0.a T0.n T0.c)) := Aj
   rw [show qR + i * (3 * 7) + 0 * 3 + 2 = AT + 2 by omega] at Ak
   have Tc2 : Hid (w.cell? ⟨b, AT + 2, none⟩ = some (.slice T0.d T0.m T0.e)) := Ak
   have Th : Fr true w T0.val (aS ls i 0) := Th
   replace HS := ae (HS.out.az (Fr.below Th HS.out.bel))
   clear Ai Aj Ak Th
   obtain ⟨T1, Ai, Aj, Ak, Th⟩ := K_ i hlt 1 (by omega)
   rw [show qR + i * (3 * 7) + 1 * 3 = AT + 3 by omega] at Ai
   have Tc3 : Hid (w.cell? ⟨b, AT + 3, none⟩ = some (.bool T1.b)) := Ai
   rw [show qR + i * (3 * 7) + 1 * 3 + 1 = AT + 4 by omega] at Aj
   have Tc4 : Hid (w.cell? ⟨b, AT + 4, none⟩ = some (.slice T1.a T1.n T1.c)) := Aj
   rw [show qR + i * (3 * 7) + 1 * 3 + 2 = AT + 5 by omega] at Ak
   have Tc5 : Hid (w.cell? ⟨b, AT + 5, none⟩ = some (.slice T1.d T1.m T1.e)) := Ak
   have Th : Fr true w T1.val (aS ls i 1) := Th
   replace HS := ae (HS.out.az (Fr.below Th HS.out.bel))
   clear Ai Aj Ak Th
   obtain ⟨T2, Ai, Aj, Ak, Th⟩ := K_ i hlt 2 (by omega)
   rw [show qR + i * (3 * 7) + 2 * 3 = AT + 6 by omega] at Ai
   have Tc6 : Hid (w.cell? ⟨b, AT + 6, none⟩ = some (.bool T2.b)) := Ai
   rw [show qR + i * (3 * 7) + 2 * 3 + 1 = AT + 7 by omega] at Aj
   have Tc7 : Hid (w.cell? ⟨b, AT + 7, none⟩ = some (.slice T2.a T2.n T2.c)) := Aj
   rw [show qR + i * (3 * 7) + 2 * 3 + 2 = AT + 8 by omega] at Ak
   have Tc8 : Hid (w.cell? ⟨b, AT + 8, none⟩ = some (.slice T2.d T2.m T2.e)) := Ak
   have Th : Fr true w T2.val (aS ls i 2) := Th
   replace HS := ae (HS.out.az (Fr.below Th HS.out.bel))
   clear Ai Aj Ak Th
   obtain ⟨T3, Ai, Aj, Ak, Th⟩ := K_ i hlt 3 (by omega)
   rw [show qR + i * (3 * 7) + 3 * 3 = AT + 9 by omega] at Ai
   have Tc9 : Hid (w.cell? ⟨b, AT + 9, none⟩ = some (.bool T3.b)) := Ai
   rw [show qR + i * (3 * 7) + 3 * 3 + 1 = AT + 10 by omega] at Aj
   have ak5 : Hid (w.cell? ⟨b, AT + 10, none⟩ = some (.slice T3.a T3.n T3.c)) := Aj
   rw [show qR + i * (3 * 7) + 3 * 3 + 2 = AT + 11 by omega] at Ak
   have ak6 : Hid (w.cell? ⟨b, AT + 11, none⟩ = some (.slice T3.d T3.m T3.e)) := Ak
   have Th : Fr true w T3.val (aS ls i 3) := Th
   replace HS := ae (HS.out.az (Fr.below Th HS.out.bel))
   clear Ai Aj Ak Th
   obtain ⟨T4, Ai, Aj, Ak, Th⟩ := K_ i hlt 4 (by omega)
   rw [show qR + i * (3 * 7) + 4 * 3 = AT + 12 by omega] at Ai
   have ak7 : Hid (w.cell? ⟨b, AT + 12, none⟩ = some (.bool T4.b)) := Ai
   rw [show qR + i * (3 * 7) + 4 * 3 + 1 = AT + 13 by omega] at Aj
   have ak8 : Hid (w.cell? ⟨b, AT + 13, none⟩ = some (.slice T4.a T4.n T4.c)) := Aj
   rw [show qR + i * (3 * 7) + 4 * 3 + 2 = AT + 14 by omega] at Ak
   have ak9 : Hid (w.cell? ⟨b, AT + 14, none⟩ = some (.slice T4.d T4.m T4.e)) := Ak
   have Th : Fr true w T4.val (aS ls i 4) := Th
   replace HS := ae (HS.out.az (Fr.below Th HS.out.bel))
   clear Ai Aj Ak Th
   obtain ⟨T5, Ai, Aj, Ak, Th⟩ := K_ i hlt 5 (by omega)
   rw [show qR + i * (3 * 7) + 5 * 3 = AT + 15 by omega] at Ai
   have ak' : Hid (w.cell? ⟨b, AT + 15, none⟩ = some (.bool T5.b)) := Ai
   rw [show qR + i * (3 * 7) + 5 * 3 + 1 = AT + 16 by omega] at Aj
   have ak_ : Hid (w.cell? ⟨b, AT + 16, none⟩ = some (.slice T5.a T5.n T5.c)) := Aj
   rw [show qR + i * (3 * 7) + 5 * 3 + 2 = AT + 17 by omega] at Ak
   have ala : Hid (w.cell? ⟨b, AT + 17, none⟩ = some (.slice T5.d T5.m T5.e)) := Ak
   have Th : Fr true w T5.val (aS ls i 5) := Th
   replace HS := ae (HS.out.az (Fr.below Th HS.out.bel))
   clear Ai Aj Ak Th
   obtain ⟨T6, Ai, Aj, Ak, Th⟩ := K_ i hlt 6 (by omega)
   rw [show qR + i * (3 * 7) + 6 * 3 = AT + 18 by omega] at Ai
   have alb : Hid (w.cell? ⟨b, AT + 18, none⟩ = some (.bool T6.b)) := Ai
   rw [show qR + i * (3 * 7) + 6 * 3 + 1 = AT + 19 by omega] at Aj
   have alc : Hid (w.cell? ⟨b, AT + 19, none⟩ = some (.slice T6.a T6.n T6.c)) := Aj
   rw [show qR + i * (3 * 7) + 6 * 3 + 2 = AT + 20 by omega] at Ak
   have ald : Hid (w.cell? ⟨b, AT + 20, none⟩ = some (.slice T6.d T6.m T6.e)) := Ak
   have Th : Fr true w T6.val (aS ls i 6) := Th
   replace HS := ae (HS.out.az (Fr.below Th HS.out.bel))
   clear Ai Aj Ak Th
   clear ale K_
   have TR : Hid (w.rangeAt b AT [.bool T0.b, .slice T0.a T0.n T0.c, .slice T0.d T0.m T0.e, .bool T1.b, .slice T1.a T1.n T1.c, .slice T1.d T1.m T1.e, .bool T2.b, .slice T2.a T2.n T2.c, .slice T2.d T2.m T2.e, .bool T3.b, .slice T3.a T3.n T3.c, .slice T3.d T3.m T3.e, .bool T4.b, .slice T4.a T4.n T4.c, .slice T4.d T4.m T4.e, .bool T5.b, .slice T5.a T5.n T5.c, .slice T5.d T5.m T5.e, .bool T6.b, .slice T6.a T6.n T6.c, .slice T6.d T6.m T6.e]) := fun j v hj => by
    match j, hj with
    | 0, hj => simp at hj; subst hj; exact Tc0.out
    | 1, hj => simp at hj; subst hj; exact Tc1.out
    | 2, hj => simp at hj; subst hj; exact Tc2.out
    | 3, hj => simp at hj; subst hj; exact Tc3.out
    | 4, hj => simp at hj; subst hj; exact Tc4.out
    | 5, hj => simp at hj; subst hj; exact Tc5.out
    | 6, hj => simp at hj; subst hj; exact Tc6.out
    | 7, hj => simp at hj; subst hj; exact Tc7.out
    | 8, hj => simp at hj; subst hj; exact Tc8.out
    | 9, hj => simp at hj; subst hj; exact Tc9.out
    | 10, hj => simp at hj; subst hj; exact ak5.out
    | 11, hj => simp at hj; subst hj; exact ak6.out
    | 12, hj => simp at hj; subst hj; exact ak7.out
    | 13, hj => simp at hj; subst hj; exact ak8.out
    | 14, hj => simp at hj; subst hj; exact ak9.out
    | 15, hj => simp at hj; subst hj; exact ak'.out
    | 16, hj => simp at hj; subst hj; exact ak_.out
    | 17, hj => simp at hj; subst hj; exact ala.out
    | 18, hj => simp at hj; subst hj; exact alb.out
    | 19, hj => simp at hj; subst hj; exact alc.out
    | 20, hj => simp at hj; subst hj; exact ald.out
    | j + 21, hj => simp at hj
   clear Tc0 Tc1 Tc2 Tc3 Tc4 Tc5 Tc6 Tc7 Tc8 Tc9 ak5 ak6 ak7 ak8 ak9 ak' ak_ ala alb alc ald
   clear hlt
   go_wp2_with (first | (refine wpList_load_mid rfl 46 (.tmp 14) rfl b AT rfl _ _ (jA TR.out HS.out.bel ao3.out) Tryz.underlying46 rfl (by kernel_rfl) ?_))
   cases t2 : f i with
   | true =>
    refine (HF.out i T0 T1 T2 T3 T4 T5 T6 gq.out _ HS.out.bel (HS.out.p 6 _ _ rfl) (HS.out.p 5 _ _ rfl) (HS.out.p 4 _ _ rfl) (HS.out.p 3 _ _ rfl) (HS.out.p 2 _ _ rfl) (HS.out.p 1 _ _ rfl) (HS.out.p 0 _ _ rfl)).mono ?_
    rw [t2]
    rintro e w3 ⟨rfl, hb3⟩
    replace HS := ae (HS.out.below hb3)
    clear hb3
    go_wp2_with fail
    have HR : Hid (dS f ls.length = i) := Px VG.out t2 gq.out
    go_ret
    exact ⟨by rw [HR.out] <;> rfl, HS.out.bel⟩
   | false =>
    refine (HF.out i T0 T1 T2 T3 T4 T5 T6 gq.out _ HS.out.bel (HS.out.p 6 _ _ rfl) (HS.out.p 5 _ _ rfl) (HS.out.p 4 _ _ rfl) (HS.out.p 3 _ _ rfl) (HS.out.p 2 _ _ rfl) (HS.out.p 1 _ _ rfl) (HS.out.p 0 _ _ rfl)).mono ?_
    rw [t2]
    rintro e w4 ⟨rfl, hb4⟩
    replace HS := ae (HS.out.below hb4)
    clear hb4
    go_wp2_with fail
    exact ⟨⟨i + 1, by have := gq.out; omega, by go_num, ae (uy VG.out t2), ae (HS.out.bare)⟩, bU gq.out⟩
  ·
   obtain rfl : i = ls.length := by omega
   go_wp2_with fail
   have HR := VG
   go_ret
   exact ⟨by rw [HR.out] <;> rfl, HS.out.bel⟩
theorem yH (ls : List (List Rat)) (f : Nat → Bool) (v : Value) (w : World) (h : di true 7 w v ls) (hl : ls.length ≤ 300) (hf : ∀ i (y0 y1 y2 y3 y4 y5 y6 : R3), i < ls.length → ∀ W, Below w.heap.size w W → aA W y0.val (aS ls i 0) → aA W y1.val (aS ls i 1) → aA W y2.val (aS ls i 2) → aA W y3.val (aS ls i 3) → aA W y4.val (aS ls i 4) → aA W y5.val (aS ls i 5) → aA W y6.val (aS ls i 6) → Calls Tryz.prog 70 #[.agg #[.bool y0.b, .slice y0.a y0.n y0.c, .slice y0.d y0.m y0.e, .bool y1.b, .slice y1.a y1.n y1.c, .slice y1.d y1.m y1.e, .bool y2.b, .slice y2.a y2.n y2.c, .slice y2.d y2.m y2.e, .bool y3.b, .slice y3.a y3.n y3.c, .slice y3.d y3.m y3.e, .bool y4.b, .slice y4.a y4.n y4.c, .slice y4.d y4.m y4.e, .bool y5.b, .slice y5.a y5.n y5.c, .slice y5.d y5.m y5.e, .bool y6.b, .slice y6.a y6.n y6.c, .slice y6.d y6.m y6.e]] W (ja (f i) W)) :
  Calls Tryz.prog 69 #[v, .func (.func 70) #[] #[]] w (ja (decide (dS f ls.length ≥ 0)) w) := by
 have HS := ae (Sx.init w)
 have HF := ae hf
 have HLE := ae hl
 have HR0 := ae h
 obtain ⟨al, cl, rfl, _⟩ := h
 clear hf hl
 go_enter Tryz.func69, Tryz.ntmps69
 go_wp2_with fail
 refine (P_ ls f _ _ (HR0.out.below HS.out.bel) HLE.out (fun i y0 y1 y2 y3 y4 y5 y6 hi W hb => HF.out i y0 y1 y2 y3 y4 y5 y6 hi W (ax HS.out.bel hb))).mono ?_
 rintro e w1 ⟨rfl, hb1⟩
 replace HS := ae (HS.out.below hb1)
 clear hb1
 go_wp2_with fail
 go_ret
 exact ⟨rfl, HS.out.bel⟩
theorem Gh (ls : List (List Rat)) (v : Value) (w : World) (h : di true 7 w v ls) (sl : ∀ i j, bQ (aS ls i j) 1000) :
  Calls Tryz.prog 38 #[v] w (yN (m_ ls) w) := by
 have HS := ae (Sx.init w)
 have HR0 := ae h
 have H5 := ae sl
 obtain ⟨al, cl, rfl, _⟩ := h
 clear sl
 by_cases h1 : ls.length < 1
 ·
  have HR : Hid (m_ ls = 4) := by show _ = _; unfold m_; rw [if_pos (by omega)]
  have t1 : decide ((ls.length : Int) < 1) = true := decide_eq_true (by omega)
  have t1b : decide (ls.length < 1) = true := decide_eq_true (by omega)
  go_enter Tryz.func38, Tryz.ntmps38
  go_wp2_with fail
  go_ret
  exact ⟨by rw [HR.out] <;> rfl, HS.out.bel⟩
 by_cases h2 : 16 < ls.length
 ·
  have HR : Hid (m_ ls = 4) := by show _ = _; unfold m_; rw [if_pos (by omega)]
  have t1 : decide ((ls.length : Int) < 1) = false := decide_eq_false (by omega)
  have t1b : decide (ls.length < 1) = false := decide_eq_false (by omega)
  have t2 : decide ((ls.length : Int) > 16) = true := decide_eq_true (by omega)
  have t2b : decide (16 < ls.length) = true := decide_eq_true (by omega)
  go_enter Tryz.func38, Tryz.ntmps38
  go_wp2_with fail
  go_ret
  exact ⟨by rw [HR.out] <;> rfl, HS.out.bel⟩
 ·
  have Ae : Hid (¬ ls.length < 1 ∧ ¬ 16 < ls.length) := ⟨h1, h2⟩
  have t1 : decide ((ls.length : Int) < 1) = false := decide_eq_false (by omega)
  have t1b : decide (ls.length < 1) = false := decide_eq_false (by omega)
  have t2 : decide ((ls.length : Int) > 16) = false := decide_eq_false (by omega)
  have t2b : decide (16 < ls.length) = false := decide_eq_false (by omega)
  go_enter Tryz.func38, Tryz.ntmps38
  go_wp2_with fail
  by_cases t1p : dS (sG ls) ls.length ≥ 0
  ·
   have t1 : decide (dS (sG ls) ls.length ≥ 0) = true := decide_eq_true t1p
   have T1 := ae t1p
   clear t1p
   refine (yH ls (sG ls) _ _ (HR0.out.below HS.out.bel) (by have := Ae.out; omega) (fun i y0 y1 y2 y3 y4 y5 y6 hi W hb g0 g1 g2 g3 g4 g5 g6 => R_ _ _ _ _ _ _ _ y0 y1 y2 y3 y4 y5 y6 W g0 g1 g2 g3 g4 g5 g6 (H5.out i 0) (H5.out i 1) (H5.out i 2) (H5.out i 3) (H5.out i 4) (H5.out i 5) (H5.out i 6))).mono ?_
   rw [t1]
   rintro e w2 ⟨rfl, hb2⟩
   replace HS := ae (HS.out.below hb2)
   clear hb2
   go_wp2_with fail
   have HR : Hid (m_ ls = 1) := by
    show _ = _
    unfold m_
    have hq := of_decide_eq_true t1
    rw [if_neg (by have := Ae.out; omega), if_neg (by omega)]
   go_ret
   exact ⟨by rw [HR.out] <;> rfl, HS.out.bel⟩
  ·
   have t1 : decide (dS (sG ls) ls.length ≥ 0) = false := decide_eq_false t1p
   have T1 := ae t1p
   clear t1p
   refine (yH ls (sG ls) _ _ (HR0.out.below HS.out.bel) (by have := Ae.out; omega) (fun i y0 y1 y2 y3 y4 y5 y6 hi W hb g0 g1 g2 g3 g4 g5 g6 => R_ _ _ _ _ _ _ _ y0 y1 y2 y3 y4 y5 y6 W g0 g1 g2 g3 g4 g5 g6 (H5.out i 0) (H5.out i 1) (H5.out i 2) (H5.out i 3) (H5.out i 4) (H5.out i 5) (H5.out i 6))).mono ?_
   rw [t1]
   rintro e w3 ⟨rfl, hb3⟩
   replace HS := ae (HS.out.below hb3)
   clear hb3
   go_wp2_with fail
   have HR : Hid (m_ ls = 0) := by
    show _ = _
    unfold m_
    have hq := of_decide_eq_false t1
    rw [if_neg (by have := Ae.out; omega), if_pos (by omega)]
   go_ret
   exact ⟨by rw [HR.out] <;> rfl, HS.out.bel⟩
theorem Ij (ls : List (List Rat)) (es : List lD) (ed : Rat) (vl vt ve : Value) (w : World) (h : di true 7 w vl ls) (ht : kN aA w vt es) (he : aA w ve ed) (sl : ∀ i j, bQ (aS ls i j) 1000) (hl : es.length ≤ 1000) (hI : Pq es) (hZ : Jq es) (sd : bQ ed 1000) :
  Calls Tryz.prog 20 #[vl, vt, ve] w (yN (lG ls es ed) w) := by
 obtain ⟨xe, rfl⟩ := he.bn
 have HS := ae ((Sx.init w).az he)
 have HR0 := ae h
 have H5 := ae sl
 have HT := ae ht
 have HLE := ae hl
 have HI := ae hI
 have HZ := ae hZ
 have SD := ae sd
 obtain ⟨al, cl, rfl, _⟩ := h
 obtain ⟨Ib, ct, rfl, _⟩ := ht
 clear sl hl hI hZ sd he
 go_enter Tryz.func20, Tryz.ntmps20
 go_wp2_with fail
 generalize hW1 : (w).alloc (.cells _ _) = W1 at *
 replace HS := ae (((HS.out).alloc (B := w.heap.size) rfl (by rfl)).to hW1 (by (try simp only [ig, ik]); rfl))
 clear hW1
 by_cases hz2 : m_ ls = 0
 ·
  have HZ2 := ae hz2
  clear hz2
  refine (Gh ls _ _ (HR0.out.below HS.out.bel) H5.out).mono ?_
  rw [HZ2.out]
  rintro e w3 ⟨rfl, hb3⟩
  replace HS := ae (HS.out.below hb3)
  clear hb3
  go_wp2_with fail
  by_cases UX : iG es = 0
  ·
   have HZ4 := ae UX
   clear UX
   refine (Ed es _ _ (HT.out.bP HS.out.bel) HLE.out HI.out HZ.out).mono ?_
   rw [HZ4.out]
   rintro e w5 ⟨rfl, hb5⟩
   replace HS := ae (HS.out.below hb5)
   clear hb5
   obtain ⟨iy, iL, jD, jI, jU, kz⟩ := eu (x := xe) (HS.out.at 0 _ _ _ rfl)
   have rG := ai (HS.out.at 0 _ _ _ rfl)
   go_wp2_with fail
   clear iy iL jD jI jU kz rG
   cases t6 : BK ed with
   | true =>
    refine (zN ed _ _ (HS.out.p 0 _ _ rfl) (aj SD.out (by omega))).mono ?_
    rw [t6]
    rintro e w7 ⟨rfl, hb7⟩
    replace HS := ae (HS.out.below hb7)
    clear hb7
    go_wp2_with fail
    have HR : Hid (lG ls es ed = 0) := by show _ = _; unfold lG; rw [if_neg (by rw [HZ2.out]; simp)]; rw [if_neg (by rw [HZ4.out]; simp)]; rw [t6]; rfl
    go_ret
    exact ⟨by rw [HR.out] <;> rfl, HS.out.bel⟩
   | false =>
    refine (zN ed _ _ (HS.out.p 0 _ _ rfl) (aj SD.out (by omega))).mono ?_
    rw [t6]
    rintro e w8 ⟨rfl, hb8⟩
    replace HS := ae (HS.out.below hb8)
    clear hb8
    go_wp2_with fail
    have HR : Hid (lG ls es ed = 1) := by show _ = _; unfold lG; rw [if_neg (by rw [HZ2.out]; simp)]; rw [if_neg (by rw [HZ4.out]; simp)]; rw [t6]; rfl
    go_ret
    exact ⟨by rw [HR.out] <;> rfl, HS.out.bel⟩
  ·
   obtain ⟨er4, aiR⟩ : ∃ c, c = iG es := ⟨_, rfl⟩
   have aho := ae aiR
   rw [← aiR] at UX
   have en4 : (er4 == 0) = false := beq_eq_false_iff_ne.2 UX
   have eo4 : (er4 != 0) = true := bne_iff_ne.2 UX
   have ep4 : decide (er4 = 0) = false := decide_eq_false UX
   have aoL := ae UX
   clear aiR UX
   refine (Ed es _ _ (HT.out.bP HS.out.bel) HLE.out HI.out HZ.out).mono ?_
   rw [← aho.out]
   rintro e w9 ⟨rfl, hb9⟩
   replace HS := ae (HS.out.below hb9)
   clear hb9
   go_wp2_with fail
   have HR : Hid (lG ls es ed = er4) := by show _ = _; unfold lG; rw [if_neg (by rw [HZ2.out]; simp)]; rw [if_pos (by rw [← aho.out]; exact aoL.out), ← aho.out]
   go_ret
   exact ⟨by rw [HR.out] <;> rfl, HS.out.bel⟩
 ·
  obtain ⟨er2, PQ⟩ : ∃ c, c = m_ ls := ⟨_, rfl⟩
  have TU := ae PQ
  rw [← PQ] at hz2
  have en2 : (er2 == 0) = false := beq_eq_false_iff_ne.2 hz2
  have eo2 : (er2 != 0) = true := bne_iff_ne.2 hz2
  have ep2 : decide (er2 = 0) = false := decide_eq_false hz2
  have aht := ae hz2
  clear PQ hz2
  refine (Gh ls _ _ (HR0.out.below HS.out.bel) H5.out).mono ?_
  rw [← TU.out]
  rintro e w10 ⟨rfl, Zf⟩
  replace HS := ae (HS.out.below Zf)
  clear Zf
  go_wp2_with fail
  have HR : Hid (lG ls es ed = er2) := by show _ = _; unfold lG; rw [if_pos (by rw [← TU.out]; exact aht.out), ← TU.out]
  go_ret
  exact ⟨by rw [HR.out] <;> rfl, HS.out.bel⟩
theorem jF.to {w0 w W : World} {bs cs : List Bx} {gs : List yz} (h : jF w0 w bs gs) (e : w = W) (eb : bs = cs) : jF w0 W cs gs := by subst e; subst eb; exact h
def RG (p : Bool) (k : Nat) (qs : List (List Rat)) (w : World) (e : Ending) (w' : World) : Prop := ∃ v, e = .returned v ∧ di p k w' v qs ∧ Below w.heap.size w w'
def zu (p : Bool) (k : Nat) (qs : List (List Rat)) (er : Int) (w : World) (e : Ending) (w' : World) : Prop := ∃ v, e = .returned (.tuple #[v, .int .i64 er]) ∧ di p k w' v qs ∧ Below w.heap.size w w'
def flT (qs : List (List Rat)) (er : Int) : List (List Rat) := if er = 0 then qs else []
theorem di.nil (p : Bool) (k : Nat) (w : World) : di p k w (.slice none 0 0) [] := ⟨none, 0, rfl, fun h => absurd h (by simp)⟩
theorem Oa (a b c d : Rat) (vx vy : Value) (w : World) (hx : cZ w vx a b) (hy : cZ w vy c d) (h1 : a ≤ b) (h2 : c ≤ d) (s1 : bQ a 274877906944) (s2 : bQ b 274877906944) (s3 : bQ c 274877906944) (s4 : bQ d 274877906944) :
  Calls Tryz.prog 9 #[vx, vy] w (iK (rW a c) (qU b d) w) := by
 have := II a b c d vx vy w hx hy s1 s2 s3 s4
 rw [adR h1 h2, adQ h1 h2] at this
 exact this
def OL (T : TypeId) (p : Bool) (k : Nat) (qs : List (List Rat)) (w : World) (e : Ending) (w' : World) : Prop := ∃ v xs, e = .returned v ∧ dL w' w.heap.size T (3 * k) v qs.length xs ∧ RowOf p k w' xs qs ∧ Below w.heap.size w w'
def RD (T : TypeId) (p : Bool) (k : Nat) (qs : List (List Rat)) (er : Int) (w : World) (e : Ending) (w' : World) : Prop := ∃ v xs, e = .returned (.tuple #[v, .int .i64 er]) ∧ dL w' w.heap.size T (3 * k) v qs.length xs ∧ RowOf p k w' xs qs ∧ Below w.heap.size w w'
theorem OL.recs {T : TypeId} {p : Bool} {k : Nat} {qs : List (List Rat)} {w : World} {e : Ending} {w' : World} (h : OL T p k qs w e w') : RG p k qs w e w' := by
 obtain ⟨v, xs, he, hl, hr, hb⟩ := h
 exact ⟨v, he, di.ofRow hl hr, hb⟩
theorem RD.recs {T : TypeId} {p : Bool} {k : Nat} {qs : List (List Rat)} {er : Int} {w : World} {e : Ending} {w' : World} (h : RD T p k qs er w e w') : zu p k qs er w e w' := by
 obtain ⟨v, xs, he, hl, hr, hb⟩ := h
 exact ⟨v, he, di.ofRow hl hr, hb⟩
def Rt (ls : List (List Rat)) (es : List lD) (dX ed : Rat) (k : Nat) (z : Int) : Prop := ∀ i, i < ls.length →
 (bQ (aS ls i 0) 1000 ∧ bQ (aS ls i 1) 1000 ∧ bQ (aS ls i 2) 1000 ∧ bQ (aS ls i 3) 1000 ∧ bQ (aS ls i 4) 1000 ∧ bQ (aS ls i 5) 1000 ∧ bQ (aS ls i 6) 1000) ∧
 (bQ (sV ls ed i) 1000 ∧ bQ (sL ls dX i 3) 1000 ∧ bQ (sL ls dX i 4) 1000 ∧ bQ (sW ls ed i) 1000 ∧ bQ (sM ls dX i 3) 1000 ∧ bQ (sM ls dX i 4) 1000) ∧
 (bQ (fJ es (aS ls i 3)).1 10000 ∧ bQ (fJ es (aS ls i 4)).2 10000) ∧
 (∀ (W : World) (vt vx : Value), kN aA W vt es → cZ W vx (aS ls i 3) (aS ls i 4) → Calls Tryz.prog 42 #[vt, vx] W (iK (fJ es (aS ls i 3)).1 (fJ es (aS ls i 4)).2 W)) ∧
 dN ((fJ es (aS ls i 3)).1 * (1 - aS ls i 6)) ((fJ es (aS ls i 4)).2 * (1 - aS ls i 5)) ≤ 0 ∧
 (∀ (W : World) (vc vr : Value), cZ W vc (aS ls i 5) (aS ls i 6) → cZ W vr (fJ es (aS ls i 3)).1 (fJ es (aS ls i 4)).2 → Calls Tryz.prog 29 #[vc, vr, .int .i64 z] W (iK (gK (aS ls i 5 + (fJ es (aS ls i 3)).1 * (1 - aS ls i 5)) k) (yu (aS ls i 6 + (fJ es (aS ls i 4)).2 * (1 - aS ls i 6)) k) W))
theorem Jr {f : Nat → Bool} {n : Nat} (h : dS f n < 0) : ∀ i, i < n → f i = false := by
 intro i hi
 cases hf : f i with
 | false => rfl
 | true =>
  exfalso
  have h1 : 0 ≤ dS f (i + 1) := by
   show 0 ≤ (if 0 ≤ dS f i then dS f i else if f i then (i : Int) else -1)
   rw [hf]
   split
   · assumption
   · simp
  have := zI h1 (show i + 1 ≤ n by omega)
  omega
theorem YK {l : List (List Rat)} {i : Nat} (h : sG l i = false) : (0 ≤ aS l i 0 ∧ aS l i 0 + aS l i 0 ≤ 1) ∧ 0 ≤ aS l i 1 ∧ (0 ≤ aS l i 5 ∧ aS l i 6 ≤ 1) := by
 unfold sG at h
 rw [Bool.or_eq_false_iff, Bool.or_eq_false_iff] at h
 obtain ⟨h1, h2, h3⟩ := h
 refine ⟨yf.1 (by simpa using h1), ?_, mJ.1 (by simpa using h3)⟩
 have h4 := of_decide_eq_false h2
 have h5 : decide (0 ≤ aS l i 1) = true := by rw [← KJ]; exact decide_eq_true (by omega)
 exact of_decide_eq_true h5
structure adG (ls : List (List Rat)) (es : List lD) (ed : Rat) : Prop where
 n0 : 0 < ls.length
 n16 : ls.length ≤ 16
 cell : ∀ i, i < ls.length → (0 ≤ aS ls i 0 ∧ aS ls i 0 + aS ls i 0 ≤ 1) ∧ 0 ≤ aS ls i 1 ∧ (0 ≤ aS ls i 5 ∧ aS ls i 6 ≤ 1)
 tab : iG es = 0
 edge : 0 ≤ ed ∧ ed + ed ≤ 1
theorem wL {ls : List (List Rat)} {es : List lD} {ed : Rat} (h : lG ls es ed = 0) : adG ls es ed := by
 unfold lG at h
 rcases Decidable.em (m_ ls = 0) with h1 | h1
 ·
  rw [if_neg (by rw [h1]; simp)] at h
  rcases Decidable.em (iG es = 0) with h2 | h2
  ·
   rw [if_neg (by rw [h2]; simp)] at h
   have h3 : BK ed = true := by
    cases he : BK ed with
    | true => rfl
    | false => rw [he] at h; exact absurd h (by decide)
   unfold m_ at h1
   split at h1
   · exact absurd h1 (by decide)
   ·
    split at h1
    ·
     rename_i h4 h5
     exact ⟨by omega, by omega, fun i hi => YK (Jr h5 i hi), h2, yf.1 h3⟩
    · exact absurd h1 (by decide)
  · rw [if_pos h2] at h; exact absurd h h2
 · rw [if_pos h1] at h; exact absurd h h1
theorem ab8 {es : List lD} (h : iG es = 0) (ho : Pv es) {t t' : Rat} (ht : t ≤ t') : (0 ≤ (fJ es t).1 ∧ (fJ es t').2 ≤ 1) ∧ (fJ es t).1 ≤ (fJ es t').2 :=
 ⟨⟨(KG h t es.length (Nat.le_refl _)).1, (KG h t' es.length (Nat.le_refl _)).2⟩, k_.1 (agX h ho ht)⟩
theorem Zt {ls : List (List Rat)} {es : List lD} {dX ed : Rat} {k : Nat} {z : Int} (hk : k ≤ 256) (hz : min (max z 0) 256 = (k : Int)) (h : adG ls es ed) (sl : ∀ i j, bQ (aS ls i j) 1000) (sa : bQ dX 1000) (sd : bQ ed 1000) (hl : es.length ≤ 1000) (hI : Pq es) (hZ : Jq es) (hO : Pv es)
  (hth : ∀ i, aS ls i 3 ≤ aS ls i 4) (hch : ∀ i, aS ls i 5 ≤ aS ls i 6) : Rt ls es dX ed k z := by
 intro i hi
 obtain ⟨⟨g1, g2⟩, g3⟩ := ab8 h.tab hO (hth i)
 obtain ⟨_, _, g4, g5⟩ := h.cell i hi
 refine ⟨⟨sl i 0, sl i 1, sl i 2, sl i 3, sl i 4, sl i 5, sl i 6⟩, ⟨?_, ?_, ?_, ?_, ?_, ?_⟩, ⟨(x9 hZ _).1, (x9 hZ _).2⟩, ?_, ?_, ?_⟩
 · unfold sV; split <;> first | exact sl _ _ | exact sd
 · unfold sL; split <;> first | exact sl _ _ | exact sa
 · unfold sL; split <;> first | exact sl _ _ | exact sa
 · unfold sW; split <;> first | exact sl _ _ | exact sd
 · unfold sM; split <;> first | exact sl _ _ | exact sa
 · unfold sM; split <;> first | exact sl _ _ | exact sa
 ·
  intro W vt vx h1 h2
  exact aat es _ _ vt vx W h1 h2 hl hI hZ (aj (sl i 3) (by omega)) (aj (sl i 4) (by omega)) (agX h.tab hO (hth i))
 · exact k_.2 (zV (by grind) g3 (by have := hch i; grind) (by grind))
 ·
  intro W vc vr h1 h2
  exact Vk _ _ _ _ k hk z hz vc vr W h1 h2 (mJ.2 ⟨g4, g5⟩) (mJ.2 ⟨g1, g2⟩) (hch i) g3 (aj (sl i 5) (by omega)) (aj (sl i 6) (by omega)) (x9 hZ _).1 (x9 hZ _).2
def nM (n d : Nat) : Rat := (((n : Int) : Rat)) / (((d : Int) : Rat))
theorem xq {n d : Nat} (h1 : n ≤ 1000) (h2 : d ≤ 1000) (h3 : d ≠ 0) : bQ (nM n d) 100 := by
 have := aj (Ut (n : Int) (d : Int) (by omega) (by omega) (by omega) (by omega)) (show 1 ≤ 100 by omega)
 unfold zJ at this
 rw [if_neg (by omega)] at this
 exact this
theorem rq (n d : Nat) (h : d ≠ 0) : 0 ≤ nM n d := by
 have h1 : (0 : Rat) ≤ (((n : Int) : Rat)) := Rat.intCast_le_intCast.2 (by omega : (0 : Int) ≤ (n : Int))
 have h2 : (0 : Rat) < (((d : Int) : Rat)) := Rat.intCast_lt_intCast.2 (by omega : (0 : Int) < (d : Int))
 unfold nM
 generalize ((n : Int) : Rat) = a at *
 generalize ((d : Int) : Rat) = b at *
 have e : a / b * b = a := Rat.div_mul_cancel (by grind)
 rcases Decidable.em (0 ≤ a / b) with h3 | h3
 · exact h3
 ·
  have := Rat.mul_lt_mul_of_pos_right (a := a / b) (b := 0) (c := b) (by grind) h2
  grind
theorem aag (a c : Rat) (v u : Value) (w : World) (h : cZ w v a a) (k : cZ w u c c) (hac : a ≤ c) (s1 : bQ a 274877906944) (s2 : bQ c 274877906944) : Calls Tryz.prog 9 #[v, u] w (iK a c w) := by
 have := U0 a c v u w h k s1 s2
 rw [rX hac, rP hac] at this
 exact this
theorem j_ (n d : Nat) (z : Int) (hz : (d : Int) = z) (w : World) (hn : n ≤ 1000) (hd : d ≤ 1000) (h0 : d ≠ 0) :
  Calls Tryz.prog 7 #[.int .i64 (n : Int), .int .i64 z] w (dW (nM n d) w) := by
 subst hz
 have HS := ae (Sx.init w)
 go_enter Tryz.func7, Tryz.ntmps7
 go_wp2_with fail
 generalize hW1 : (w).alloc (.cells _ _) = W1 at *
 replace HS := ae (((HS.out).alloc (B := w.heap.size) rfl (by rfl)).to hW1 (by (try simp only [ig, ik]); rfl))
 clear hW1
 refine (new_any _ _ _ (by omega) (by omega) (by omega) (by omega) (by omega)).mono ?_
 rintro e w2 ⟨v2, rfl, hv2, hb2⟩
 obtain ⟨z2, rfl⟩ := hv2.bn
 replace HS := ae (HS.out.below hb2)
 clear hb2
 replace HS := ae (HS.out.az hv2)
 clear hv2
 have bg := (HS.out.at 0 _ _ _ rfl)
 have iy := af bg 0 (.bool false) rfl
 have iL := af bg 1 (.slice none 0 0) rfl
 have jD := af bg 2 (.slice none 0 0) rfl
 have jI := ah bg 0
 have jU := ah bg 1
 have kz := ah bg 2
 have rG := ai bg
 clear bg
 go_wp2_with fail
 clear iy iL jD jI jU kz rG
 generalize hW3 : ((((w2).setCell _ _).setCell _ _).setCell _ _).alloc (.cells _ _) = W3 at *
 replace HS := ae ((((HS.out).oz 0 dQ z2 rfl).alloc (B := w2.heap.size) (by simp) (by rfl)).to hW3 (by (try simp only [ig, ik]); rfl))
 clear hW3
 obtain ⟨iy, iL, jD, _⟩ := eu (x := z2) (HS.out.at 1 _ _ _ rfl)
 refine bodyPost_ret (v := z2.val) (by simp [results, Tryz.results7, go_sem, iy, iL, jD]) rfl ⟨_, rfl, (HS.out.p 0 _ _ rfl), HS.out.bel⟩
def Dw (lo hi x : Rat) (w : World) (e : Ending) (w' : World) : Prop := ∃ y1 y2 y3 : R3, e = .returned (.tuple #[.agg #[.bool y1.b, .slice y1.a y1.n y1.c, .slice y1.d y1.m y1.e, .bool y2.b, .slice y2.a y2.n y2.c, .slice y2.d y2.m y2.e], y3.val]) ∧ aA w' y1.val lo ∧ aA w' y2.val hi ∧ aA w' y3.val x ∧ Below w.heap.size w w'
theorem uJ (a w1 : Rat) (n r : Nat) (hn : n ≤ 255) (hr : r = n % 251) (va vw : Value) (w : World) (ha : aA w va a) (hw : aA w vw w1) (h0 : 0 ≤ w1) (s1 : bQ a 1000) (s2 : bQ w1 1000) :
  Calls Tryz.prog 18 #[va, vw, .int .u8 (n : Int)] w (Dw a (a + w1) (a + (w1 * (nM r 250))) w) := by
 obtain ⟨x1, rfl⟩ := ha.bn
 obtain ⟨x2, rfl⟩ := hw.bn
 have HS := ae (((Sx.init w).az ha).az hw)
 have SA := ae s1
 have SW := ae s2
 have hrb : r < 251 := by omega
 have SP := ae (xq (n := r) (d := 250) (by omega) (by omega) (by omega))
 have HAW : Hid (a ≤ a + w1) := by show _ ≤ _; grind
 have atW : Int.tmod (n : Int) 251 = (r : Int) := by rw [Int.tmod_eq_emod_of_nonneg (by omega)]; omega
 have atX : (n : Int) % 251 = (r : Int) := by omega
 have atY : IntKind.u8.wrap (r : Int) = (r : Int) := IntWalk.u8_in _ (by omega)
 have hm4 : IntKind.i64.wrap (r : Int) = (r : Int) := IntWalk.i64_in _ (by omega)
 clear ha hw s1 s2 h0 hr
 go_enter Tryz.func18, Tryz.ntmps18
 go_wp2_with fail
 generalize hW1 : ((((w).alloc (.cells _ _)).alloc (.cells _ _)).alloc (.cells _ _)).alloc (.cells _ _) = W1 at *
 replace HS := ae ((((((HS.out).alloc (B := w.heap.size) rfl (by rfl)).alloc (B := w.heap.size + 1) (by simp) (by rfl)).alloc (B := w.heap.size + 2) (by simp) (by rfl)).alloc (B := w.heap.size + 3) (by simp) (by rfl)).to hW1 (by (try simp only [ig, ik]); rfl))
 clear hW1
 refine wp_region_held_drew (S := (fun w' => Sx w w' [(w.heap.size + 3, #[.bool false, .slice none 0 0, .slice none 0 0], 40), (w.heap.size + 2, #[.bool false, .slice none 0 0, .slice none 0 0, .bool false, .slice none 0 0, .slice none 0 0], 43), (w.heap.size + 1, x2.arr, 40), (w.heap.size, x1.arr, 40)] [])) (by kernel_rfl) ((HS.out.drew).bare) (fun hh => ?_)
 replace HS := ae HS.out.drew
 have BM := ae HS.out.bel.size
 refine dF (i := 0) (v := ?vk3) rfl ?hk3 ?rk3
 case hk3 => intro u aH; (try dsimp only at aH); obtain ⟨kH, kJ, kK, _⟩ := eu (x := x1) (aH.at 3 _ _ _ rfl); clear aH; go_simp <;> with_reducible rfl
 try simp only [ag]
 refine dF (i := 2) (v := ?vk4) rfl ?hk4 ?rk4
 case hk4 => intro u aH; (try dsimp only at aH); obtain ⟨kH, kJ, kK, _⟩ := eu (x := x1) (aH.at 3 _ _ _ rfl); clear aH; go_simp <;> with_reducible rfl
 try simp only [ag]
 refine dF (i := 3) (v := ?vk5) rfl ?hk5 ?rk5
 case hk5 => intro u aH; (try dsimp only at aH); obtain ⟨rC, rD, rE, _⟩ := eu (x := x2) (aH.at 2 _ _ _ rfl); clear aH; go_simp <;> with_reducible rfl
 try simp only [ag]
 refine dY [1, 4, 5, 6, 7] [1, 4, 5, 6, 7] [] [10, 13, 14, 15, 8] #[true, true, true, true, true, true, true, true, false] 1 [(1, 10), (4, 13), (5, 14), (6, 15), (7, 8)] [(1, []), (4, [1]), (5, [4]), (6, [1, 5]), (7, [])] [7] [(1, fun v w => ∃ uU uV : R3, v = .agg #[.bool uU.b, .slice uU.a uU.n uU.c, .slice uU.d uU.m uU.e, .bool uV.b, .slice uV.a uV.n uV.c, .slice uV.d uV.m uV.e] ∧ Fr true w uU.val a ∧ Fr true w uV.val a), (4, fun v w => ∃ z7 : R3, v = z7.val ∧ Fr true w z7.val (a + w1)), (5, fun v w => ∃ uX uY : R3, v = .agg #[.bool uX.b, .slice uX.a uX.n uX.c, .slice uX.d uX.m uX.e, .bool uY.b, .slice uY.a uY.n uY.c, .slice uY.d uY.m uY.e] ∧ Fr true w uX.val (a + w1) ∧ Fr true w uY.val (a + w1)), (6, fun v w => ∃ r_ su : R3, v = .agg #[.bool r_.b, .slice r_.a r_.n r_.c, .slice r_.d r_.m r_.e, .bool su.b, .slice su.a su.n su.c, .slice su.d su.m su.e] ∧ Fr true w r_.val a ∧ Fr true w su.val (a + w1)), (7, fun v w => ∃ u_ : Nat, v = .pointer (some ⟨u_, 0, none⟩) ∧ W1.drew.heap.size ≤ u_ ∧ w.heap[u_]? = some (.cells #[.bool false, .slice none 0 0, .slice none 0 0, .bool false, .slice none 0 0, .slice none 0 0] 43 (0, 0)))]
  rfl (by kernel_rfl) (by decide) rfl ⟨(fun v w w' hb ⟨z0, z1, e, h0, h1⟩ => ⟨z0, z1, e, Fr.below h0 hb, Fr.below h1 hb⟩), ⟨(fun v w w' hb ⟨z0, e, h0⟩ => ⟨z0, e, Fr.below h0 hb⟩), ⟨(fun v w w' hb ⟨z0, z1, e, h0, h1⟩ => ⟨z0, z1, e, Fr.below h0 hb, Fr.below h1 hb⟩), ⟨(fun v w w' hb ⟨z0, z1, e, h0, h1⟩ => ⟨z0, z1, e, Fr.below h0 hb, Fr.below h1 hb⟩), ⟨(fun v w w' hb ⟨B, e, g, k⟩ => ⟨B, e, g, ay k hb (ai k)⟩), trivial⟩⟩⟩⟩⟩ ⟨fun v w ⟨B, e, g, k⟩ => ⟨B, e, ai k⟩, trivial⟩ (fun w' hb => Sx.below hh hb) ⟨?_, ?_, ?_, ?_, ?_, trivial⟩ trivial (by decide) ?_
 ·
  refine dI.of rfl (fun f w' hb hp K hK => ?_)
  have pJ := HS
  replace HS := ae (HS.out.below hb)
  simp only [aQ, aT, List.foldl_cons, List.foldl_nil, ag]
  have a10 := HS.out.p 1 _ _ rfl
  go_simp
  go_wp2_with (go_at_call 8; (with_reducible refine (F_ a _ _ a10).mono ?_); rintro e w6 ⟨v6, rfl, ⟨uU, uV, rfl, hv6, hw6⟩, hb6⟩)
  exact hK.out _ _ (.agg #[.bool uU.b, .slice uU.a uU.n uU.c, .slice uU.d uU.m uU.e, .bool uV.b, .slice uV.a uV.n uV.c, .slice uV.d uV.m uV.e]) (by simp only [aQ, aT, List.foldl_cons, List.foldl_nil, ag]) ⟨uU, uV, rfl, hv6, hw6⟩ (fun h => absurd h (by decide)) hb6
 ·
  refine dI.of rfl (fun f w' hb hp K hK => ?_)
  have pJ := HS
  replace HS := ae (HS.out.below hb)
  simp only [aQ, aT, List.foldl_cons, List.foldl_nil, ag]
  have a11 := HS.out.p 1 _ _ rfl
  have a12 := HS.out.p 0 _ _ rfl
  go_simp
  go_wp2_with (go_at_call 33; (with_reducible refine (lS a w1 _ _ _ a11 a12 (aj SA.out (by omega)) (aj SW.out (by omega))).mono ?_); rintro e w7 ⟨v7, rfl, hv7, hb7⟩; obtain ⟨z7, rfl⟩ := hv7.bn)
  exact hK.out _ _ (z7.val) (by simp only [aQ, aT, List.foldl_cons, List.foldl_nil, ag]) ⟨z7, rfl, hv7⟩ (fun h => absurd h (by decide)) hb7
 ·
  refine dI.of rfl (fun f w' hb hp K hK => ?_)
  obtain ⟨z7, e4, Ez⟩ : ∃ z7 : R3, f 13 = z7.val ∧ Fr true w' z7.val (a + w1) := hp 4 (by decide)
  have pJ := HS
  replace HS := ae (HS.out.below hb)
  replace HS := ae (HS.out.az Ez)
  simp only [aQ, aT, List.foldl_cons, List.foldl_nil, ag, e4]
  have a13 := HS.out.p 0 _ _ rfl
  go_simp
  go_wp2_with (go_at_call 8; (with_reducible refine (F_ (a + w1) _ _ a13).mono ?_); rintro e w8 ⟨v8, rfl, ⟨uX, uY, rfl, hv8, hw8⟩, hb8⟩)
  exact hK.out _ _ (.agg #[.bool uX.b, .slice uX.a uX.n uX.c, .slice uX.d uX.m uX.e, .bool uY.b, .slice uY.a uY.n uY.c, .slice uY.d uY.m uY.e]) (by simp only [aQ, aT, List.foldl_cons, List.foldl_nil, ag, e4]) ⟨uX, uY, rfl, hv8, hw8⟩ (fun h => absurd h (by decide)) hb8
 ·
  refine dI.of rfl (fun f w' hb hp K hK => ?_)
  obtain ⟨uU, uV, e1, Ew, aim⟩ : ∃ uU uV : R3, f 10 = .agg #[.bool uU.b, .slice uU.a uU.n uU.c, .slice uU.d uU.m uU.e, .bool uV.b, .slice uV.a uV.n uV.c, .slice uV.d uV.m uV.e] ∧ Fr true w' uU.val a ∧ Fr true w' uV.val a := hp 1 (by decide)
  obtain ⟨uX, uY, e5, EC, PE⟩ : ∃ uX uY : R3, f 14 = .agg #[.bool uX.b, .slice uX.a uX.n uX.c, .slice uX.d uX.m uX.e, .bool uY.b, .slice uY.a uY.n uY.c, .slice uY.d uY.m uY.e] ∧ Fr true w' uX.val (a + w1) ∧ Fr true w' uY.val (a + w1) := hp 5 (by decide)
  have pJ := HS
  replace HS := ae (HS.out.below hb)
  replace HS := ae (HS.out.az Ew)
  replace HS := ae (HS.out.az aim)
  replace HS := ae (HS.out.az EC)
  replace HS := ae (HS.out.az PE)
  simp only [aQ, aT, List.foldl_cons, List.foldl_nil, ag, e1, e5]
  have a14 := HS.out.p 3 _ _ rfl
  have a15 := HS.out.p 2 _ _ rfl
  have a16 := HS.out.p 1 _ _ rfl
  have a17 := HS.out.p 0 _ _ rfl
  go_simp
  go_wp2_with (go_at_call 9; (with_reducible refine (aag a (a + w1) _ _ _ (gB a14 a15) (gB a16 a17) HAW.out (aj SA.out (by omega)) (aj (lN SA.out SW.out) (by omega))).mono ?_); rintro e w9 ⟨v9, rfl, ⟨r_, su, rfl, hv9, hw9⟩, hb9⟩)
  exact hK.out _ _ (.agg #[.bool r_.b, .slice r_.a r_.n r_.c, .slice r_.d r_.m r_.e, .bool su.b, .slice su.a su.n su.c, .slice su.d su.m su.e]) (by simp only [aQ, aT, List.foldl_cons, List.foldl_nil, ag, e1, e5]) ⟨r_, su, rfl, hv9, hw9⟩ (fun h => absurd h (by decide)) hb9
 ·
  refine dI.of rfl (fun f w' hb hp K hK => ?_)
  have pJ := HS
  replace HS := ae (HS.out.below hb)
  simp only [aQ, aT, List.foldl_cons, List.foldl_nil, ag]
  go_simp
  exact hK.out _ _ (.pointer (some ⟨w'.heap.size, 0, none⟩)) (by simp only [aQ, aT, List.foldl_cons, List.foldl_nil, ag]) ⟨_, rfl, hb.size, aV _ _ _⟩ (fun _ => rfl) (gJ w' _)
 ·
  intro f wr2 hb hp hd
  obtain ⟨uU, uV, e1, Ew, aim⟩ : ∃ uU uV : R3, f 10 = .agg #[.bool uU.b, .slice uU.a uU.n uU.c, .slice uU.d uU.m uU.e, .bool uV.b, .slice uV.a uV.n uV.c, .slice uV.d uV.m uV.e] ∧ Fr true wr2 uU.val a ∧ Fr true wr2 uV.val a := hp 1 (by decide)
  obtain ⟨z7, e4, Ez⟩ : ∃ z7 : R3, f 13 = z7.val ∧ Fr true wr2 z7.val (a + w1) := hp 4 (by decide)
  obtain ⟨uX, uY, e5, EC, PE⟩ : ∃ uX uY : R3, f 14 = .agg #[.bool uX.b, .slice uX.a uX.n uX.c, .slice uX.d uX.m uX.e, .bool uY.b, .slice uY.a uY.n uY.c, .slice uY.d uY.m uY.e] ∧ Fr true wr2 uX.val (a + w1) ∧ Fr true wr2 uY.val (a + w1) := hp 5 (by decide)
  obtain ⟨r_, su, e6, wK, Jt⟩ : ∃ r_ su : R3, f 15 = .agg #[.bool r_.b, .slice r_.a r_.n r_.c, .slice r_.d r_.m r_.e, .bool su.b, .slice su.a su.n su.c, .slice su.d su.m su.e] ∧ Fr true wr2 r_.val a ∧ Fr true wr2 su.val (a + w1) := hp 6 (by decide)
  obtain ⟨u_, e7, g7, k7⟩ : ∃ u_ : Nat, f 8 = .pointer (some ⟨u_, 0, none⟩) ∧ W1.drew.heap.size ≤ u_ ∧ wr2.heap[u_]? = some (.cells #[.bool false, .slice none 0 0, .slice none 0 0, .bool false, .slice none 0 0, .slice none 0 0] 43 (0, 0)) := hp 7 (by decide)
  replace hh := Sx.below hh hb
  have hlt := HS.out.lt
  replace HS := ae (HS.out.below hb)
  replace HS := ae (HS.out.az Ew)
  replace HS := ae (HS.out.az aim)
  replace HS := ae (HS.out.az Ez)
  replace HS := ae (HS.out.az EC)
  replace HS := ae (HS.out.az PE)
  replace HS := ae (HS.out.az wK)
  replace HS := ae (HS.out.az Jt)
  have apX : w.heap.size ≤ u_ := Nat.le_trans BM.out g7
  have aqE : ∀ b, b ∈ ([(w.heap.size + 3, #[.bool false, .slice none 0 0, .slice none 0 0], 40), (w.heap.size + 2, #[.bool false, .slice none 0 0, .slice none 0 0, .bool false, .slice none 0 0, .slice none 0 0], 43), (w.heap.size + 1, x2.arr, 40), (w.heap.size, x1.arr, 40)] : List Bx) → b.1 ≠ u_ := by
   intro b hb
   simp only [List.mem_cons, List.not_mem_nil, or_false] at hb
   rcases hb with rfl | rfl | rfl | rfl
   · have := hlt _ (List.mem_iff_getElem?.2 ⟨0, rfl⟩); dsimp only at this ⊢; omega
   · have := hlt _ (List.mem_iff_getElem?.2 ⟨1, rfl⟩); dsimp only at this ⊢; omega
   · have := hlt _ (List.mem_iff_getElem?.2 ⟨2, rfl⟩); dsimp only at this ⊢; omega
   · have := hlt _ (List.mem_iff_getElem?.2 ⟨3, rfl⟩); dsimp only at this ⊢; omega
  replace HS := ae (HS.out.ku k7 apX (by rfl) aqE)
  simp only [aQ, aT, List.foldl_cons, List.foldl_nil, ag, e1, e4, e5, e6, e7]
  clear hp hd hb hlt e1 e4 e5 e6 e7
  refine rdA (i := 8) rfl (fun K hK => ?_)
  have um := (HS.out.at 0 _ _ _ rfl)
  have BP := af um 0 (.bool false) rfl
  have LH := af um 1 (.slice none 0 0) rfl
  have LJ := af um 2 (.slice none 0 0) rfl
  have Uc := af um 3 (.bool false) rfl
  have Ud := af um 4 (.slice none 0 0) rfl
  have Ue := af um 5 (.slice none 0 0) rfl
  have DN := ah um 0
  have OM := ah um 1
  have OO := ah um 2
  have Yg := ah um 3
  have Yh := ah um 4
  have Yi := ah um 5
  have Yj := ai um
  clear um
  go_simp
  refine hK.out _ _ ((((HS.out).gp 0 dQ dQ r_ su rfl)).erase 0) (fun hh => ?_)
  clear hK K BP LH LJ Uc Ud Ue DN OM OO Yg Yh Yi Yj
  try simp only [ag]
  generalize Za : ((((((wr2).setCell _ _).setCell _ _).setCell _ _).setCell _ _).setCell _ _).setCell _ _ = W18 at *
  replace HS := ae (((HS.out).gp 0 dQ dQ r_ su rfl).to Za (by (try simp only [ig, ik]); rfl))
  clear Za
  refine wpAnyH_done (by kernel_rfl) ?_ _
  go_wp2_with fail
  refine wp_region_held_drew (S := (fun w' => Sx w w' [(u_, aY r_ su, 43), (w.heap.size + 1, x2.arr, 40), (w.heap.size, x1.arr, 40)] [])) (by kernel_rfl) (((HS.out.drew).erase 2).erase 1) (fun hh => ?_)
  replace HS := ae HS.out.drew
  refine dF (i := 0) (v := ?aop) rfl ?UK ?an'
  case UK => intro u aH; (try dsimp only at aH); obtain ⟨Tq, Tt, Tu, Tv, Tz, TA, _⟩ := dO (x := r_) (y := su) (aH.at 0 _ _ _ rfl); clear aH; go_simp <;> with_reducible rfl
  try simp only [ag]
  refine dF (i := 1) (v := ?ar4) rfl ?ai1 ?ars
  case ai1 => intro u aH; (try dsimp only at aH); obtain ⟨kH, kJ, kK, _⟩ := eu (x := x1) (aH.at 2 _ _ _ rfl); clear aH; go_simp <;> with_reducible rfl
  try simp only [ag]
  refine dF (i := 2) (v := ?ar5) rfl ?ai2 ?art
  case ai2 => intro u aH; (try dsimp only at aH); obtain ⟨rC, rD, rE, _⟩ := eu (x := x2) (aH.at 1 _ _ _ rfl); clear aH; go_simp <;> with_reducible rfl
  try simp only [ag]
  refine dF (i := 3) (v := ?aoq) rfl ?ZF ?an_
  case ZF => intro u aH; go_simp <;> with_reducible rfl
  try simp only [ag]
  refine dF (i := 4) (v := ?aor) rfl ?ZG ?aoa
  case ZG => intro u aH; go_simp <;> with_reducible rfl
  try simp only [ag]
  refine dF (i := 5) (v := ?aos) rfl ?ZH ?aob
  case ZH => intro u aH; go_simp <;> with_reducible rfl
  try simp only [ag]
  refine rdA (i := 6) rfl (fun K hK => ?_)
  go_simp
  go_wp2_with (go_at_call 7; (with_reducible refine (j_ r 250 250 rfl _ (by omega) (by omega) (by omega)).mono ?_); rintro e w26 ⟨v26, rfl, ajv, aiG⟩; obtain ⟨z26, rfl⟩ := ajv.bn)
  refine hK.out _ _ (Sx.below hh aiG) (fun hh => ?_)
  clear hK K
  try simp only [ag]
  replace HS := ae (HS.out.below aiG)
  clear aiG
  replace HS := ae (HS.out.az ajv)
  clear ajv
  refine rdA (i := 7) rfl (fun K hK => ?_)
  go_simp
  have a28 := HS.out.p 8 _ _ rfl
  have a29 := HS.out.p 0 _ _ rfl
  go_wp2_with (go_at_call 34; (with_reducible refine (kQ w1 (nM r 250) _ _ _ a28 a29 (aj SW.out (by omega)) (aj SP.out (by omega))).mono ?_); rintro e KP ⟨v27, rfl, hv27, Cb⟩; obtain ⟨z27, rfl⟩ := hv27.bn)
  refine hK.out _ _ (Sx.below hh Cb) (fun hh => ?_)
  clear hK K
  try simp only [ag]
  replace HS := ae (HS.out.below Cb)
  clear Cb a28 a29
  replace HS := ae (HS.out.az hv27)
  clear hv27
  refine rdA (i := 8) rfl (fun K hK => ?_)
  go_simp
  have a31 := HS.out.p 10 _ _ rfl
  have a32 := HS.out.p 0 _ _ rfl
  go_wp2_with (go_at_call 33; (with_reducible refine (lS a (w1 * (nM r 250)) _ _ _ a31 a32 (aj SA.out (by omega)) (aj (gZ SW.out SP.out) (by omega))).mono ?_); rintro e w30 ⟨v30, rfl, ajw, aiH⟩; obtain ⟨z30, rfl⟩ := ajw.bn)
  refine hK.out _ _ (Sx.below hh aiH) (fun hh => ?_)
  clear hK K
  try simp only [ag]
  replace HS := ae (HS.out.below aiH)
  clear aiH a31 a32
  replace HS := ae (HS.out.az ajw)
  clear ajw
  refine rdA (i := 9) rfl (fun K hK => ?_)
  have jf := (HS.out.at 2 _ _ _ rfl)
  have jJ := af jf 0 (.bool false) rfl
  have lV := af jf 1 (.slice none 0 0) rfl
  have lW := af jf 2 (.slice none 0 0) rfl
  have qC := af jf 3 (.bool false) rfl
  have qE := af jf 4 (.slice none 0 0) rfl
  have qF := af jf 5 (.slice none 0 0) rfl
  have kP := ah jf 0
  have pz := ah jf 1
  have pF := ah jf 2
  have vM := ah jf 3
  have vN := ah jf 4
  have vO := ah jf 5
  have vS := ai jf
  clear jf
  go_simp
  refine hK.out _ _ ((((((HS.out).gp 2 dQ dQ r_ su rfl)).erase 2)).erase 1) (fun hh => ?_)
  clear hK K jJ lV lW qC qE qF kP pz pF vM vN vO vS
  try simp only [ag]
  generalize al4 : ((((((w30).setCell _ _).setCell _ _).setCell _ _).setCell _ _).setCell _ _).setCell _ _ = W33 at *
  replace HS := ae (((HS.out).gp 2 dQ dQ r_ su rfl).to al4 (by (try simp only [ig, ik]); rfl))
  clear al4
  refine rdA (i := 10) rfl (fun K hK => ?_)
  have mX := (HS.out.at 1 _ _ _ rfl)
  have rH := af mX 0 (.bool false) rfl
  have rJ := af mX 1 (.slice none 0 0) rfl
  have rM := af mX 2 (.slice none 0 0) rfl
  have ui := ah mX 0
  have uj := ah mX 1
  have uk := ah mX 2
  have Ji := ai mX
  clear mX
  go_simp
  refine hK.out _ _ ((((((HS.out).oz 1 dQ z30 rfl)).erase 2)).erase 1) (fun hh => ?_)
  clear hK K rH rJ rM ui uj uk Ji
  try simp only [ag]
  generalize al5 : (((W33).setCell _ _).setCell _ _).setCell _ _ = W34 at *
  replace HS := ae (((HS.out).oz 1 dQ z30 rfl).to al5 (by (try simp only [ig, ik]); rfl))
  clear al5
  refine wpAnyH_done (by kernel_rfl) ?_ _
  obtain ⟨jJ, lV, lW, qC, qE, qF, kP, pz, pF, vM, vN, vO⟩ := dO (x := r_) (y := su) (HS.out.at 2 _ _ _ rfl)
  have vS := ai (HS.out.at 2 _ _ _ rfl)
  obtain ⟨rH, rJ, rM, ui, uj, uk⟩ := eu (x := z30) (HS.out.at 1 _ _ _ rfl)
  have Ji := ai (HS.out.at 1 _ _ _ rfl)
  go_wp2_with fail
  clear jJ lV lW qC qE qF kP pz pF vM vN vO vS rH rJ rM ui uj uk Ji
  obtain ⟨jJ, lV, lW, qC, qE, qF, _⟩ := dO (x := r_) (y := su) (HS.out.at 2 _ _ _ rfl)
  obtain ⟨rH, rJ, rM, _⟩ := eu (x := z30) (HS.out.at 1 _ _ _ rfl)
  refine bodyPost_ret (v := .tuple #[.agg #[.bool r_.b, .slice r_.a r_.n r_.c, .slice r_.d r_.m r_.e, .bool su.b, .slice su.a su.n su.c, .slice su.d su.m su.e], z30.val]) (by simp [results, Tryz.results18, go_sem, jJ, lV, lW, qC, qE, qF, rH, rJ, rM]) rfl ⟨r_, su, z30, rfl, (HS.out.p 4 _ _ rfl), (HS.out.p 3 _ _ rfl), (HS.out.p 0 _ _ rfl), HS.out.bel⟩
theorem NK (a b y : Rat) (vx vy : Value) (w : World) (hx : cZ w vx a b) (hy : aA w vy y) (sa : bQ a 1000000) (sb : bQ b 1000000) (sy : bQ y 1000000) :
  Calls Tryz.prog 23 #[vx, vy] w (ja (hasB a b y) w) := by
 obtain ⟨x1, x2, rfl, h1, h2⟩ := hx
 obtain ⟨x3, rfl⟩ := hy.bn
 have HS := ae ((((Sx.init w).az h1).az h2).az hy)
 have Sa := ae sa
 have Sb := ae sb
 have Sy := ae sy
 clear h1 h2 hy sa sb sy
 go_enter Tryz.func23, Tryz.ntmps23
 go_wp2_with fail
 generalize hW1 : ((w).alloc (.cells _ _)).alloc (.cells _ _) = W1 at *
 replace HS := ae ((((HS.out).alloc (B := w.heap.size) rfl (by rfl)).alloc (B := w.heap.size + 1) (by simp) (by rfl)).to hW1 (by (try simp only [ig, ik]); rfl))
 clear hW1
 obtain ⟨c2, hc2⟩ : ∃ κ, κ = dN a y := ⟨_, rfl⟩
 have HC2 := ae hc2
 clear hc2
 refine (iM a y _ _ _ (HS.out.p 2 _ _ rfl) (HS.out.p 0 _ _ rfl) (aj Sa.out (by omega)) (aj Sy.out (by omega))).mono ?_
 rw [← HC2.out]
 rintro e w2 ⟨rfl, hb2⟩
 replace HS := ae (HS.out.below hb2)
 clear hb2
 by_cases Vp : c2 ≤ 0
 ·
  have t3 : decide (c2 ≤ 0) = true := decide_eq_true Vp
  have T3 := ae Vp
  clear Vp
  obtain ⟨kC, kD, qB, lT, lU, vK⟩ := eu (x := x3) (HS.out.at 0 _ _ _ rfl)
  have yO := ai (HS.out.at 0 _ _ _ rfl)
  obtain ⟨iy, iL, jD, pg, qo, qp, jI, jU, kz, qx, qy, qA⟩ := dO (x := x1) (y := x2) (HS.out.at 1 _ _ _ rfl)
  have rG := ai (HS.out.at 1 _ _ _ rfl)
  go_wp2_with fail
  clear kC kD qB lT lU vK yO iy iL jD pg qo qp jI jU kz qx qy qA rG
  obtain ⟨c4, hc4⟩ : ∃ κ, κ = dN y b := ⟨_, rfl⟩
  have HC4 := ae hc4
  clear hc4
  refine (iM y b _ _ _ (HS.out.p 0 _ _ rfl) (HS.out.p 1 _ _ rfl) (aj Sy.out (by omega)) (aj Sb.out (by omega))).mono ?_
  rw [← HC4.out]
  rintro e w4 ⟨rfl, hb4⟩
  replace HS := ae (HS.out.below hb4)
  clear hb4
  go_wp2_with fail
  have HR : Hid (hasB a b y = decide (c4 ≤ 0)) := by
   show _ = _
   unfold hasB
   first | (simp only [← HC2.out, ← HC4.out, t3, Bool.and_true, Bool.true_and, Bool.and_false, Bool.false_and, Bool.or_true, Bool.true_or, Bool.or_false, Bool.false_or, Bool.not_true, Bool.not_false, cond_true, cond_false]; done) | (rw [← HC2.out, ← HC4.out]; rfl) | (simp [← HC2.out, ← HC4.out, t3])
  go_ret
  exact ⟨by rw [HR.out] <;> rfl, HS.out.bel⟩
 ·
  have t3 : decide (c2 ≤ 0) = false := decide_eq_false Vp
  have T3 := ae Vp
  clear Vp
  go_wp2_with fail
  have HR : Hid (hasB a b y = false) := by
   show _ = _
   unfold hasB
   first | (simp only [← HC2.out, t3, Bool.and_true, Bool.true_and, Bool.and_false, Bool.false_and, Bool.or_true, Bool.true_or, Bool.or_false, Bool.false_or, Bool.not_true, Bool.not_false, cond_true, cond_false]; done) | (rw [← HC2.out]; rfl) | (simp [← HC2.out, t3])
  go_ret
  exact ⟨by rw [HR.out] <;> rfl, HS.out.bel⟩
theorem dL.af2 {w : World} {base : Nat} {e : TypeId} {size : Nat} {v : Value} {n : Nat} {xs : List Value} (h : dL w base e size v n xs) : ∃ ao cap, v = .slice ao n cap ∧ n ≤ cap ∧ cap ≤ maxLen := by
 rcases h.1.2 with ⟨rfl, rfl⟩ | ⟨g, cap, cur, rfl, _, _, h1, h2, _⟩
 · exact ⟨none, 0, rfl, Nat.le_refl _, by unfold maxLen; omega⟩
 · exact ⟨_, _, rfl, h1, h2⟩
theorem dL.lit {w : World} {base : Nat} {e : TypeId} {size : Nat} (hb : base ≤ w.heap.size) (cs : Array Value) (n : Nat) (hm : n ≤ maxLen) (hs : cs.size = n * size) (hd : ∀ u ∈ cs.toList, jh u) :
  dL (w.alloc (.cells cs e)) base e size (.slice (some ⟨w.heap.size, 0, none⟩) n n) n cs.toList := by
 refine ⟨⟨by simpa using hs, .inr ⟨w.heap.size, n, cs, rfl, hb, heap_alloc_new w _, Nat.le_refl _, hm, hs, List.take_of_length_le (by rw [Array.length_toList, hs]; exact Nat.le_refl _)⟩⟩, fun g hg => ?_⟩
 obtain rfl : w.heap.size = g := by simpa [Value.ownBlock] using hg
 exact mZ.of_block (heap_alloc_new w _) hd
theorem dL.src {w : World} {base e size n : Nat} {v : Value} {xs : List Value} (h : dL w base e size v n xs) : ∃ ao c, v = .slice ao n c ∧ (0 < n → ∃ ad, ao = some ad ∧ ∀ j u, xs[j]? = some u → w.cell? (ad.add j) = some u) := by
 rcases Nat.eq_zero_or_pos n with h0 | hp
 ·
  obtain ⟨ao, cap, e1, _⟩ := h.af2
  exact ⟨ao, cap, e1, fun hn => absurd hn (by omega)⟩
 ·
  obtain ⟨g, cap, rfl⟩ := ownsRow_some h.1 hp
  exact ⟨_, _, rfl, fun _ => ⟨_, rfl, h.1.cells (g := g) rfl⟩⟩
theorem RowOf.plain {p : Bool} {k : Nat} {w : World} {xs : List Value} {qs : List (List Rat)} (h : RowOf p k w xs qs) : ∀ u ∈ xs, u.oneCell' = true ∧ jh u := by
 intro u hu
 obtain ⟨m, hm⟩ := List.mem_iff_getElem?.1 hu
 have hml : m < qs.length * (3 * k) := by rw [← h.1]; exact (List.getElem?_eq_some_iff.1 hm).1
 have hk : 0 < 3 * k := by
  rcases Nat.eq_zero_or_pos (3 * k) with h0 | h0
  · rw [h0] at hml; omega
  · exact h0
 have hi : m / (3 * k) < qs.length := Nat.div_lt_of_lt_mul (by rw [Nat.mul_comm]; exact hml)
 have hr : m % (3 * k) < 3 * k := Nat.mod_lt _ hk
 have hj : m % (3 * k) / 3 < k := by omega
 have em : m = m / (3 * k) * (3 * k) + (m % (3 * k) / 3 * 3 + m % (3 * k) % 3) := by
  have e1 := Nat.div_add_mod m (3 * k)
  have e2 := Nat.div_add_mod (m % (3 * k)) 3
  have e3 : 3 * k * (m / (3 * k)) = m / (3 * k) * (3 * k) := Nat.mul_comm _ _
  omega
 obtain ⟨x, h0, h1, h2, _⟩ := h.2 _ hi _ hj
 generalize m / (3 * k) * (3 * k) = A at *
 generalize m % (3 * k) / 3 * 3 = C at *
 have h3 : m % (3 * k) % 3 = 0 ∨ m % (3 * k) % 3 = 1 ∨ m % (3 * k) % 3 = 2 := by omega
 rcases h3 with h3 | h3 | h3
 · rw [em, h3, show A + (C + 0) = A + C by omega, h0] at hm; cases hm; exact ⟨by simp [Value.oneCell'], fA _⟩
 · rw [em, h3, show A + (C + 1) = A + C + 1 by omega, h1] at hm; cases hm; exact ⟨by simp [Value.oneCell'], dH _ _ _⟩
 · rw [em, h3, show A + (C + 2) = A + C + 2 by omega, h2] at hm; cases hm; exact ⟨by simp [Value.oneCell'], dH _ _ _⟩
theorem RowOf.cons {p : Bool} {k : Nat} {w : World} {xs : List Value} {qs : List (List Rat)} (h : RowOf p k w xs qs) (l : List R3) (rs : List Rat) (hl : l.length = k) (hr : ∀ j x, l[j]? = some x → Fr p w x.val (rs.getD j 0)) : RowOf p k w (eX l ++ xs) ([rs] ++ qs) := by
 have h0 : RowOf p k w (eX l) [rs] := by
  have := (RowOf.nil p k w).snoc l rs hl hr
  simpa using this
 have hc : (eX l).length = 3 * k := by have := h0.1; simpa using this
 refine ⟨by rw [List.length_append, List.length_append, hc, h.1]; simp [Nat.add_mul], fun i hi j hj => ?_⟩
 rcases Nat.eq_zero_or_pos i with rfl | hp
 ·
  obtain ⟨x, h1, h2, h3, h4⟩ := h0.2 0 (by simp) j hj
  have g : ∀ o u, (eX l)[o]? = some u → (eX l ++ xs)[o]? = some u := fun o u ho => by rw [List.getElem?_append_left (List.getElem?_eq_some_iff.1 ho).1]; exact ho
  exact ⟨x, g _ _ h1, g _ _ h2, g _ _ h3, h4⟩
 ·
  obtain ⟨i, rfl⟩ : ∃ i', i = i' + 1 := ⟨i - 1, by omega⟩
  have hi' : i < qs.length := by simp at hi; omega
  obtain ⟨x, h1, h2, h3, h4⟩ := h.2 i hi' j hj
  have g : ∀ o u, xs[o]? = some u → (eX l ++ xs)[3 * k + o]? = some u := fun o u ho => by
   rw [List.getElem?_append_right (by rw [hc]; omega), hc, Nat.add_sub_cancel_left]; exact ho
  have e : (i + 1) * (3 * k) = 3 * k + i * (3 * k) := by rw [Nat.add_mul, Nat.one_mul]; omega
  refine ⟨x, ?_, ?_, ?_, ?_⟩
  · rw [e, Nat.add_assoc]; exact g _ _ h1
  · rw [e, Nat.add_assoc, Nat.add_assoc, ← Nat.add_assoc (i * (3 * k))]; exact g _ _ h2
  · rw [e, Nat.add_assoc, Nat.add_assoc, ← Nat.add_assoc (i * (3 * k))]; exact g _ _ h3
  ·
   have eg : ([rs] ++ qs).getD (i + 1) [] = qs.getD i [] := rfl
   rw [eg]; exact h4
theorem Kv {w0 w : World} {bs : List Bx} {fs : List Fx} (h : Sx w0 w bs fs) (i : Nat) {B T : Nat} {cs : Array Value} (hi : bs[i]? = some (B, cs, T)) : ∀ b, b ∈ bs.eraseIdx i → b ∈ bs ∧ b.1 ≠ B := by
 intro b hb
 obtain ⟨k, hk⟩ := List.mem_iff_getElem?.1 hb
 rw [List.getElem?_eraseIdx] at hk
 split at hk
 · exact ⟨List.mem_iff_getElem?.2 ⟨k, hk⟩, h.ne k i hk hi (by omega)⟩
 · exact ⟨List.mem_iff_getElem?.2 ⟨k + 1, hk⟩, h.ne (k + 1) i hk hi (by omega)⟩
theorem Sx.turn {w0 w w' : World} {bs : List Bx} {fs : List Fx} {gs : List yz} (h : Sx w0 w bs fs) (hg : jF w0 w bs gs) (i : Nat) {B T : Nat} {cs : Array Value} (hi : bs[i]? = some (B, cs, T)) (hd : ∀ u ∈ cs.toList, jh u) (j : Nat) {g : yz} (hj : gs[j]? = some g) (l : List R3) (rs : List Rat) {v' : Value}
  (hl : l.length = g.k) (hr : ∀ n x, l[n]? = some x → Fr g.p w x.val (rs.getD n 0)) (hL : dL w' w0.heap.size g.e (3 * g.k) v' (1 + g.qs.length) (eX l ++ g.xs)) (hgr : w.grownBy w' (some B)) (hat : ∀ c, v'.ownBlock = some c → some B = some c ∨ c = w.heap.size) :
  Sx w0 w' (bs.eraseIdx i) fs ∧ jF w0 w' (bs.eraseIdx i) (gs.set j ⟨g.e, g.p, g.k, v', eX l ++ g.xs, [rs] ++ g.qs⟩) := by
 obtain ⟨hB, hB0, _⟩ := h.box i _ hi
 have hnd : mZ w B := mZ.of_block hB hd
 have hfr : ∀ p v q, Fr p w v q → Fr p w' v q := fun p v q hf => hf.grown hgr fun c e => by cases e; exact hnd
 have hm := Kv h i hi
 have hblt : ∀ b, b ∈ bs → b.1 < w.heap.size := fun b hb => by
  obtain ⟨n, hn⟩ := List.mem_iff_getElem?.1 hb
  exact ai (h.box n b hn).1
 have hE := h.erase i
 have hbm : (B, cs, T) ∈ bs := List.mem_iff_getElem?.2 ⟨i, hi⟩
 refine ⟨⟨h.bel.grown hgr h.bel.size (fun k e => by cases e; exact hB0), fun n b hn => ?_, hE.Qm, fun n f hf => hfr _ _ _ (h.B_ n f hf)⟩, fun n g' hn => ?_, fun n g' hn => ?_, fun b hb g' hg' => ?_, fun n k g1 g2 hn hk hnk c hc => ?_⟩
 ·
  obtain ⟨h1, h2⟩ := hE.box n b hn
  exact ⟨(hgr.block b.1 (ai h1) (fun e => by injection e with e; exact (hm b (List.mem_iff_getElem?.2 ⟨n, hn⟩)).2 (by omega))).trans h1, h2⟩
 ·
  rw [List.getElem?_set] at hn
  by_cases hjn : j = n
  ·
   subst hjn
   rw [if_pos rfl] at hn
   split at hn
   ·
    injection hn with hn
    subst hn
    show dL w' w0.heap.size g.e (3 * g.k) v' ([rs] ++ g.qs).length (eX l ++ g.xs)
    rw [List.length_append]
    exact hL
   · exact absurd hn (by simp)
  ·
   rw [if_neg hjn] at hn
   exact (hg.row n g' hn).grown hgr fun c hc e => hg.sep _ hbm g' (List.mem_iff_getElem?.2 ⟨n, hn⟩) (by rw [hc, e])
 ·
  rw [List.getElem?_set] at hn
  by_cases hjn : j = n
  ·
   subst hjn
   rw [if_pos rfl] at hn
   split at hn
   ·
    injection hn with hn
    subst hn
    exact ((hg.mean j g hj).mono fun _ _ hf => hfr _ _ _ hf).cons l rs hl (fun n x hx => hfr _ _ _ (hr n x hx))
   · exact absurd hn (by simp)
  ·
   rw [if_neg hjn] at hn
   exact (hg.mean n g' hn).mono fun _ _ hf => hfr _ _ _ hf
 ·
  rcases List.mem_or_eq_of_mem_set hg' with hg' | rfl
  · exact hg.sep b (hm b hb).1 g' hg'
  ·
   intro hc
   rcases hat _ hc with h1 | h1
   · injection h1 with h1; exact (hm b hb).2 h1.symm
   · have := hblt b (hm b hb).1; omega
 ·
  have hlt : ∀ (n : Nat) (g' : yz), gs[n]? = some g' → ∀ c, g'.v.ownBlock = some c → c < w.heap.size := fun n g' hn c hc => ((hg.row n g' hn).lt hc).1
  have hnew : ∀ (n : Nat) (g' : yz), gs[n]? = some g' → ∀ c, g'.v.ownBlock = some c → v'.ownBlock ≠ some c := fun n g' hn c hc e => by
   rcases hat _ e with h1 | h1
   · exact hg.sep _ hbm g' (List.mem_iff_getElem?.2 ⟨n, hn⟩) (by rw [hc, h1])
   · have := hlt n g' hn c hc; omega
  rw [List.getElem?_set] at hn hk
  by_cases hjn : j = n
  ·
   subst hjn
   rw [if_pos rfl] at hn
   rw [if_neg hnk] at hk
   split at hn
   ·
    injection hn with hn
    subst hn
    intro hc2
    exact hnew k g2 hk c hc2 hc
   · exact absurd hn (by simp)
  ·
   rw [if_neg hjn] at hn
   by_cases hjk : j = k
   ·
    subst hjk
    rw [if_pos rfl] at hk
    split at hk
    ·
     injection hk with hk
     subst hk
     exact hnew n g1 hn c hc
    · exact absurd hk (by simp)
   ·
    rw [if_neg hjk] at hk
    exact hg.apart n k g1 g2 hn hk hnk c hc
structure CB where
 e : TypeId
 size : Nat
 v : Value
 n : Nat
 xs : List Value
 fr : List Fx
structure pO (w0 w : World) (bs : List Bx) (gs : List CB) : Prop where
 row : ∀ (i : Nat) (g : CB), gs[i]? = some g → dL w w0.heap.size g.e g.size g.v g.n g.xs
 B_ : ∀ (i : Nat) (g : CB), gs[i]? = some g → ∀ f, f ∈ g.fr → Fr f.1 w f.2.1 f.2.2
 sep : ∀ b, b ∈ bs → ∀ g, g ∈ gs → g.v.ownBlock ≠ some b.1
 apart : ∀ (i j : Nat) (g h : CB), gs[i]? = some g → gs[j]? = some h → i ≠ j → ∀ c, g.v.ownBlock = some c → h.v.ownBlock ≠ some c
theorem pO.nil (w0 w : World) (bs : List Bx) : pO w0 w bs [] := ⟨fun i g h => by simp at h, fun i g h => by simp at h, fun b hb g hg => by simp at hg, fun i j g h hi => by simp at hi⟩
theorem pO.lt {w0 w : World} {bs : List Bx} {gs : List CB} (h : pO w0 w bs gs) : ∀ g, g ∈ gs → ∀ c, g.v.ownBlock = some c → c < w.heap.size := fun g hg c hc => by
 obtain ⟨i, hi⟩ := List.mem_iff_getElem?.1 hg
 exact ((h.row i g hi).lt hc).1
theorem dL.weaken {w : World} {b b' e size n : Nat} {v : Value} {xs : List Value} (h : dL w b e size v n xs) (hb : b' ≤ b) : dL w b' e size v n xs := by
 refine ⟨⟨h.1.1, ?_⟩, h.2⟩
 rcases h.1.2 with ⟨h1, h2⟩ | ⟨g, cap, cur, h1, h2, h3⟩
 · exact .inl ⟨h1, h2⟩
 · exact .inr ⟨g, cap, cur, h1, Nat.le_trans hb h2, h3⟩
theorem pO.addRow {w0 w : World} {bs : List Bx} {gs : List CB} (h : pO w0 w bs gs) {n : Nat} {r : CB} (hL : dL w n r.e r.size r.v r.n r.xs) (hn : w0.heap.size ≤ n) (hf : ∀ f, f ∈ r.fr → Fr f.1 w f.2.1 f.2.2) (hs : ∀ b, b ∈ bs → b.1 < n) (hg : ∀ g, g ∈ gs → ∀ c, g.v.ownBlock = some c → c < n) : pO w0 w bs (r :: gs) := by
 refine ⟨fun i g hi => ?_, fun i g hi => ?_, fun b hb g hg' => ?_, fun i j g g' hi hj hij c hc => ?_⟩
 ·
  match i, hi with
  | 0, hi => simp at hi; subst hi; exact hL.weaken hn
  | i + 1, hi => exact h.row i g (by simpa using hi)
 ·
  match i, hi with
  | 0, hi => simp at hi; subst hi; exact hf
  | i + 1, hi => exact h.B_ i g (by simpa using hi)
 ·
  rcases List.mem_cons.1 hg' with rfl | hg'
  · exact fun hc => by have := (hL.lt hc).2; have := hs b hb; omega
  · exact h.sep b hb g hg'
 ·
  match i, j, hi, hj with
  | 0, 0, _, _ => exact absurd rfl hij
  | 0, j + 1, hi, hj =>
   simp at hi; subst hi
   exact fun hc2 => by have := (hL.lt hc).2; have := hg g' (List.mem_iff_getElem?.2 ⟨j, by simpa using hj⟩) c hc2; omega
  | i + 1, 0, hi, hj =>
   simp at hj; subst hj
   exact fun hc2 => by have := (hL.lt hc2).2; have := hg g (List.mem_iff_getElem?.2 ⟨i, by simpa using hi⟩) c hc; omega
  | i + 1, j + 1, hi, hj => exact h.apart i j g g' (by simpa using hi) (by simpa using hj) (by omega) c hc
theorem pO.add {w0 w : World} {bs : List Bx} {gs : List CB} (h : pO w0 w bs gs) (hw : w0.heap.size ≤ w.heap.size) (hs : ∀ b, b ∈ bs → b.1 < w.heap.size) (e : TypeId) (size : Nat) : pO w0 w bs (⟨e, size, .slice none 0 0, 0, [], []⟩ :: gs) :=
 h.addRow (n := w.heap.size) (dL.nil _ _ _ _) hw (fun f hf => by cases hf) hs h.lt
theorem pO.below {w0 w w' : World} {bs : List Bx} {gs : List CB} (h : pO w0 w bs gs) (hb : Below w.heap.size w w') : pO w0 w' bs gs :=
 ⟨fun i g hi => (h.row i g hi).below hb, fun i g hi f hf => (h.B_ i g hi f hf).below hb, h.sep, h.apart⟩
theorem pO.alloc {w0 w : World} {bs : List Bx} {gs : List CB} (h : pO w0 w bs gs) {B T : Nat} {cs : Array Value} (hB : w.heap.size = B) : pO w0 (w.alloc (.cells cs T)) ((B, cs, T) :: bs) gs := by
 have h' := h.below ((Below.refl w.heap.size w).alloc (Nat.le_refl _) (.cells cs T))
 refine ⟨h'.row, h'.B_, fun b hb g hg => ?_, h'.apart⟩
 rcases List.mem_cons.1 hb with rfl | hb
 ·
  intro hc
  have := h.lt g hg _ hc
  dsimp only at this
  omega
 · exact h.sep b hb g hg
theorem pO.box {w0 w : World} {bs : List Bx} {gs : List CB} (h : pO w0 w bs gs) {B T : Nat} {cs : Array Value} (hne : ∀ g, g ∈ gs → g.v.ownBlock ≠ some B) : pO w0 w ((B, cs, T) :: bs) gs :=
 ⟨h.row, h.B_, fun b hb g hg => by rcases List.mem_cons.1 hb with rfl | hb; exact hne g hg; exact h.sep b hb g hg, h.apart⟩
theorem pO.mono {w0 w : World} {bs bs' : List Bx} {gs : List CB} (h : pO w0 w bs gs) (hm : ∀ b, b ∈ bs' → ∃ b2, b2 ∈ bs ∧ b2.1 = b.1) : pO w0 w bs' gs :=
 ⟨h.row, h.B_, fun b hb g hg => by obtain ⟨b2, h1, h2⟩ := hm b hb; rw [← h2]; exact h.sep b2 h1 g hg, h.apart⟩
theorem pO.set {w0 w : World} {bs : List Bx} {gs : List CB} {fs : List Fx} (h : pO w0 w bs gs) (hs : Sx w0 w bs fs) (i : Nat) {B T : Nat} {cs : Array Value} (hi : bs[i]? = some (B, cs, T)) (j : Nat) (v : Value) : pO w0 (w.setCell ⟨B, j, none⟩ v) bs gs := by
 obtain ⟨h1, h2, h3⟩ := hs.box i _ hi
 have hm : (B, cs, T) ∈ bs := List.mem_iff_getElem?.2 ⟨i, hi⟩
 exact ⟨fun k g hg => (h.row k g hg).keep fun c hc => heap_setCell_other w ⟨B, j, none⟩ c v (fun e => h.sep _ hm g (List.mem_iff_getElem?.2 ⟨k, hg⟩) (by rw [hc, e])), fun k g hg f hf => (h.B_ k g hg f hf).set h1 h3 j v, h.sep, h.apart⟩
theorem pO.set2 {w0 w : World} {bs : List Bx} {gs : List CB} {fs : List Fx} (h : pO w0 w bs gs) (hs : Sx w0 w bs fs) (i : Nat) {B T : Nat} {cs : Array Value} (hi : bs[i]? = some (B, cs, T)) (j : Nat) (v : Value) : pO w0 (w.setCell ⟨B, j, none⟩ v) (bs.set i (B, cs.setIfInBounds j v, T)) gs :=
 (h.set hs i hi j v).mono fun b hb => by
  rcases List.mem_or_eq_of_mem_set hb with hb | rfl
  · exact ⟨b, hb, rfl⟩
  · exact ⟨(B, cs, T), List.mem_iff_getElem?.2 ⟨i, hi⟩, rfl⟩
theorem pO.to {w0 w w' : World} {bs bs' : List Bx} {gs : List CB} (h : pO w0 w bs gs) (hw : w = w') (hb : bs = bs') : pO w0 w' bs' gs := by subst hw; subst hb; exact h
theorem Sx.RQ {w0 w w' : World} {bs : List Bx} {fs : List Fx} {gs : List CB} (h : Sx w0 w bs fs) (hg : pO w0 w bs gs) (i : Nat) {g : CB} (hi : gs[i]? = some g) (m : Nat) (news : List Value) (frs : List Fx) {v' : Value} (hr : ∀ f, f ∈ frs → Fr f.1 w f.2.1 f.2.2)
  (hL : dL w' w0.heap.size g.e g.size v' (g.n + m) (g.xs ++ news)) (hgr : w.grownBy w' g.v.ownBlock) (hat : ∀ c, v'.ownBlock = some c → g.v.ownBlock = some c ∨ c = w.heap.size) :
  Sx w0 w' bs fs ∧ pO w0 w' bs (gs.set i ⟨g.e, g.size, v', g.n + m, g.xs ++ news, g.fr ++ frs⟩) := by
 have hm : g ∈ gs := List.mem_iff_getElem?.2 ⟨i, hi⟩
 have hnd : ∀ c, g.v.ownBlock = some c → mZ w c := (hg.row i g hi).2
 have hfr : ∀ p v q, Fr p w v q → Fr p w' v q := fun p v q hf => hf.grown hgr hnd
 have hblt : ∀ b, b ∈ bs → b.1 < w.heap.size := fun b hb => by
  obtain ⟨j, hj⟩ := List.mem_iff_getElem?.1 hb
  exact ai (h.box j b hj).1
 refine ⟨⟨h.bel.grown hgr h.bel.size (xg (hg.row i g hi).1), fun j b hj => ?_, h.Qm, fun j f hf => hfr _ _ _ (h.B_ j f hf)⟩, fun j g' hj => ?_, fun j g' hj => ?_, fun b hb g' hg' => ?_, fun j k g1 g2 hj hk hjk c hc => ?_⟩
 ·
  obtain ⟨h1, h2⟩ := h.box j b hj
  exact ⟨(hgr.block b.1 (ai h1) (fun e => hg.sep b (List.mem_iff_getElem?.2 ⟨j, hj⟩) g hm e.symm)).trans h1, h2⟩
 ·
  rw [List.getElem?_set] at hj
  by_cases hij : i = j
  ·
   subst hij
   rw [if_pos rfl] at hj
   split at hj
   ·
    injection hj with hj
    subst hj
    exact hL
   · exact absurd hj (by simp)
  ·
   rw [if_neg hij] at hj
   exact (hg.row j g' hj).grown hgr fun c hc e => hg.apart j i g' g hj hi (fun e => hij e.symm) c hc e.symm
 ·
  rw [List.getElem?_set] at hj
  by_cases hij : i = j
  ·
   subst hij
   rw [if_pos rfl] at hj
   split at hj
   ·
    injection hj with hj
    subst hj
    intro f hf
    rcases List.mem_append.1 hf with hf | hf
    · exact hfr _ _ _ (hg.B_ i g hi f hf)
    · exact hfr _ _ _ (hr f hf)
   · exact absurd hj (by simp)
  ·
   rw [if_neg hij] at hj
   exact fun f hf => hfr _ _ _ (hg.B_ j g' hj f hf)
 ·
  rcases List.mem_or_eq_of_mem_set hg' with hg' | rfl
  · exact hg.sep b hb g' hg'
  ·
   intro hc
   rcases hat _ hc with h1 | h1
   · exact hg.sep b hb g hm h1
   · have := hblt b hb; omega
 ·
  have hlt : ∀ (n : Nat) (g' : CB), gs[n]? = some g' → ∀ c, g'.v.ownBlock = some c → c < w.heap.size := fun n g' hn c hc => ((hg.row n g' hn).lt hc).1
  have hnew : ∀ (n : Nat) (g' : CB), gs[n]? = some g' → n ≠ i → ∀ c, g'.v.ownBlock = some c → v'.ownBlock ≠ some c := fun n g' hn hni c hc e => by
   rcases hat _ e with h1 | h1
   · exact hg.apart i n g g' hi hn (fun e => hni e.symm) c h1 hc
   · have := hlt n g' hn c hc; omega
  rw [List.getElem?_set] at hj hk
  by_cases hij : i = j
  ·
   subst hij
   rw [if_pos rfl] at hj
   rw [if_neg hjk] at hk
   split at hj
   ·
    injection hj with hj
    subst hj
    exact fun hc2 => hnew k g2 hk (fun e => hjk e.symm) c hc2 hc
   · exact absurd hj (by simp)
  ·
   rw [if_neg hij] at hj
   by_cases hik : i = k
   ·
    subst hik
    rw [if_pos rfl] at hk
    split at hk
    ·
     injection hk with hk
     subst hk
     exact hnew j g1 hj (fun e => hij e.symm) c hc
    · exact absurd hk (by simp)
   ·
    rw [if_neg hik] at hk
    exact hg.apart j k g1 g2 hj hk hjk c hc
theorem pO.pick {w0 w : World} {bs : List Bx} {gs : List CB} (h : pO w0 w bs gs) (i : Nat) {g : CB} (hi : gs[i]? = some g) : pO w0 w bs [g] := by
 have hm : g ∈ gs := List.mem_iff_getElem?.2 ⟨i, hi⟩
 refine ⟨fun j g' hj => ?_, fun j g' hj => ?_, fun b hb g' hg' => ?_, fun j k g1 g2 hj hk hjk => ?_⟩
 ·
  match j, hj with
  | 0, hj => simp at hj; subst hj; exact h.row i _ hi
  | j + 1, hj => simp at hj
 ·
  match j, hj with
  | 0, hj => simp at hj; subst hj; exact h.B_ i _ hi
  | j + 1, hj => simp at hj
 · simp only [List.mem_singleton] at hg'; subst hg'; exact h.sep b hb _ hm
 ·
  match j, k, hj, hk with
  | 0, 0, _, _ => exact absurd rfl hjk
  | 0, k + 1, _, hk => simp at hk
  | j + 1, _, hj, _ => simp at hj
theorem Si (l : List (List Rat)) (m j : Nat) (q : Rat) (hm : m < l.length) (hj : j < (l.getD m []).length) (i k : Nat) :
  aS (l.set m ((l.getD m []).set j q)) i k = if i = m ∧ k = j then q else aS l i k := by
 unfold aS
 by_cases hi : i = m
 ·
  subst hi
  have e : (l.set i ((l.getD i []).set j q)).getD i [] = (l.getD i []).set j q := by simp [List.getD, hm]
  rw [e]
  by_cases hk : k = j
  ·
   subst hk
   rw [if_pos ⟨rfl, rfl⟩]
   simp [List.getD, hj]
   have hj' : k < (l[i]?.getD []).length := by simpa [List.getD] using hj
   simp [hj']
  ·
   rw [if_neg (fun h => hk h.2)]
   simp [List.getD, List.getElem?_set_ne (Ne.symm hk)]
 ·
  rw [if_neg (fun h => hi h.1)]
  simp [List.getD, List.getElem?_set_ne (Ne.symm hi)]
theorem Dk (l : List (List Rat)) (m j : Nat) (q : Rat) (n : Nat) (hl : ∀ i, i < l.length → (l.getD i []).length = n) : ∀ i, i < (l.set m ((l.getD m []).set j q)).length → ((l.set m ((l.getD m []).set j q)).getD i []).length = n := fun i hi => by
 rw [List.length_set] at hi
 by_cases h : i = m
 ·
  subst h
  have e : (l.set i ((l.getD i []).set j q)).getD i [] = (l.getD i []).set j q := by simp [List.getD, hi]
  rw [e, List.length_set]
  exact hl i hi
 ·
  have e : (l.set m ((l.getD m []).set j q)).getD i [] = l.getD i [] := by simp [List.getD, List.getElem?_set_ne (Ne.symm h)]
  rw [e]
  exact hl i hi
def zdS (l : List (List Rat)) (m : Nat) : List (List Rat) := (l.set m ((l.getD m []).set 1 0)).set m (((l.set m ((l.getD m []).set 1 0)).getD m []).set 2 0)
def xJ (l : List (List Rat)) : Nat → List (List Rat)
 | 0 => l
 | i + 1 => zdS (xJ l i) i
theorem lC (l : List (List Rat)) : ∀ n, (xJ l n).length = l.length
 | 0 => rfl
 | n + 1 => by
  show (zdS (xJ l n) n).length = _
  unfold zdS
  rw [List.length_set, List.length_set, lC l n]
theorem z_ {l : List (List Rat)} (hl : ∀ i, i < l.length → (l.getD i []).length = 7) : ∀ n i, i < (xJ l n).length → ((xJ l n).getD i []).length = 7
 | 0, i, hi => hl i hi
 | n + 1, i, hi => Dk _ n 2 0 7 (Dk _ n 1 0 7 (z_ hl n)) i hi
theorem oD {l : List (List Rat)} (hl : ∀ i, i < l.length → (l.getD i []).length = 7) : ∀ n, n ≤ l.length → ∀ i j, aS (xJ l n) i j = if i < n ∧ (j = 1 ∨ j = 2) then 0 else aS l i j
 | 0, _, i, j => by rw [if_neg (by omega)]; rfl
 | n + 1, hn, i, j => by
  have ih := oD hl n (by omega) i j
  have h1 : n < (xJ l n).length := by rw [lC]; omega
  have h2 := z_ hl n n h1
  have h3 : n < ((xJ l n).set n (((xJ l n).getD n []).set 1 0)).length := by rw [List.length_set]; exact h1
  have h4 := Dk (xJ l n) n 1 0 7 (z_ hl n) n h3
  show aS (zdS (xJ l n) n) i j = _
  unfold zdS
  rw [Si _ _ _ _ h3 (by rw [h4]; omega), Si _ _ _ _ h1 (by rw [h2]; omega), ih]
  by_cases e : i = n
  ·
   subst e
   by_cases a : j = 2
   · rw [if_pos ⟨rfl, a⟩, if_pos ⟨by omega, .inr a⟩]
   ·
    rw [if_neg (fun h => a h.2)]
    by_cases b : j = 1
    · rw [if_pos ⟨rfl, b⟩, if_pos ⟨by omega, .inl b⟩]
    · rw [if_neg (fun h => b h.2), if_neg (by omega), if_neg (by omega)]
  ·
   rw [if_neg (fun h => e h.1), if_neg (fun h => e h.1)]
   by_cases a : i < n ∧ (j = 1 ∨ j = 2)
   · rw [if_pos a, if_pos ⟨by omega, a.2⟩]
   · rw [if_neg a, if_neg (fun h => a ⟨by omega, h.2⟩)]
def nU (a : Rat) (l : List (List Rat)) : Nat → Rat
 | 0 => a
 | i + 1 => rW (nU a l i) (aS l i 3)
def nT (a : Rat) (l : List (List Rat)) : Nat → Rat
 | 0 => a
 | i + 1 => qU (nT a l i) (aS l i 4)
theorem zB (a : Rat) (l : List (List Rat)) : ∀ n, nU a l n ≤ a
 | 0 => Rat.le_refl
 | n + 1 => Rat.le_trans (Dc _ _) (zB a l n)
theorem zy (a : Rat) (l : List (List Rat)) : ∀ n, a ≤ nT a l n
 | 0 => Rat.le_refl
 | n + 1 => Rat.le_trans (zy a l n) (CV _ _)
theorem CJ (a : Rat) (l : List (List Rat)) : ∀ n i, i < n → nU a l n ≤ aS l i 3
 | n + 1, i, hi => by
  by_cases h : i = n
  · subst h; exact aeB _ _
  · exact Rat.le_trans (Dc _ _) (CJ a l n i (by omega))
theorem CG (a : Rat) (l : List (List Rat)) : ∀ n i, i < n → aS l i 4 ≤ nT a l n
 | n + 1, i, hi => by
  by_cases h : i = n
  · subst h; exact ael _ _
  · exact Rat.le_trans (CG a l n i (by omega)) (CV _ _)
structure yK (l : List (List Rat)) (ed : Rat) : Prop where
 pass : ∀ i, i < l.length → 0 ≤ aS l i 0 ∧ aS l i 0 + aS l i 0 ≤ 1
 edge : 0 ≤ ed ∧ ed + ed ≤ 1
 cold : ∀ i, i < l.length → aS l i 1 = 0 ∧ aS l i 2 = 0
 temp : ∀ i, i < l.length → aS l i 3 ≤ aS l i 4
theorem ad1 {l : List (List Rat)} {es : List lD} {dX ed : Rat} (h : yK l ed) {i : Nat} (hi : i < l.length) (k : Nat) :
  gK (nU dX l l.length) k ≤ aS (nK l es dX ed k l.length) i 3 ∧ aS (nK l es dX ed k l.length) i 4 ≤ yu (nT dX l l.length) k := by
 have hv : 0 ≤ sV l ed i ∧ sV l ed i + sV l ed i ≤ 1 := by
  unfold sV; split
  · exact h.pass _ (by omega)
  · exact h.edge
 have hw : 0 ≤ sW l ed i ∧ sW l ed i + sW l ed i ≤ 1 := by
  unfold sW; split
  · exact h.pass _ hi
  · exact h.edge
 have hL : nU dX l l.length ≤ sL l dX i 3 ∧ sL l dX i 3 ≤ sL l dX i 4 ∧ sL l dX i 4 ≤ nT dX l l.length := by
  unfold sL
  by_cases g : 0 < i
  · rw [if_pos g, if_pos g]; exact ⟨CJ _ _ _ _ (by omega), h.temp _ (by omega), CG _ _ _ _ (by omega)⟩
  · rw [if_neg g, if_neg g]; exact ⟨zB _ _ _, Rat.le_refl, zy _ _ _⟩
 have hM : nU dX l l.length ≤ sM l dX i 3 ∧ sM l dX i 3 ≤ sM l dX i 4 ∧ sM l dX i 4 ≤ nT dX l l.length := by
  unfold sM
  by_cases g : i + 1 < l.length
  · rw [if_pos g, if_pos g]; exact ⟨CJ _ _ _ _ g, h.temp _ g, CG _ _ _ _ g⟩
  · rw [if_neg g, if_neg g]; exact ⟨zB _ _ _, Rat.le_refl, zy _ _ _⟩
 have hc := h.cold i hi
 have e3 : aS (nK l es dX ed k l.length) i 3 = (qG l es dX ed k i).getD 3 0 := by unfold aS; rw [zQ _ _ _ _ _ hi]
 have e4 : aS (nK l es dX ed k l.length) i 4 = (qG l es dX ed k i).getD 4 0 := by unfold aS; rw [zQ _ _ _ _ _ hi]
 rw [e3, e4]
 unfold qG
 rw [hc.1, hc.2]
 exact ⟨Ih (UG hv.1 hw.1 (by grind) (h.temp i hi) hL.2.1 hM.2.1 (CJ _ _ _ _ hi) hL.1 hM.1) k, afH (UE hv.1 hw.1 (by grind) (h.temp i hi) hL.2.1 hM.2.1 (CG _ _ _ _ hi) hL.2.2 hM.2.2) k⟩
theorem dL.place {w : World} {base : Nat} {e : TypeId} {size : Nat} {v : Value} {n : Nat} {xs : List Value} (h : dL w base e size v n xs) (hn : 0 < n) : ∃ g cap, v = .slice (some ⟨g, 0, none⟩) n cap := by
 obtain ⟨g, cap, rfl⟩ := ownsRow_some h.1 hn
 exact ⟨g, cap, rfl⟩
end Go.Proofs.YtkblihocfapklaaGreat
