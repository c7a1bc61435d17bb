/- Part g of the lemmas and walks. -/
import Derived.Test.YthhnkobkdhjfgaaGreatEf

namespace Go.Proofs.YthhnkobkdhjfgaaGreat
open Go.RowKit

theorem LRow.ofBlock {w : World} {base e size B n : Nat} {cs : Array Value} (hB : w.heap[B]? = some (.cells cs e (0, 0))) (hb : base ≤ B) (hm : n ≤ maxLen) (hs : cs.size = n * size) (hd : ∀ u ∈ cs.toList, noDig u) : LRow w base e size (.slice (some ⟨B, 0, none⟩) n n) n cs.toList := by
 refine ⟨⟨by simpa using hs, .inr ⟨B, n, cs, rfl, hb, hB, Nat.le_refl _, hm, hs, List.take_of_length_le (by rw [Array.length_toList, hs]; exact Nat.le_refl _)⟩⟩, fun g hg => ?_⟩
 obtain rfl : B = g := by simpa [Value.ownBlock] using hg
 exact NoDig.of_block hB hd
theorem wp_append_lrow0 {P : Program} (w : World) {o : Oper} {a : Act} {K : Act → World → Prop} {Q : Exit → Act → World → Prop} (s x : Operand) (t : TypeId)
  (ho : o.op = .call { callee := .builtin .append, args := #[s, x], argTypes := #[t, t] })
  (base : Nat) (e : TypeId) (i : TypeInfo) (z : Value) (size bytes : Nat) (ht : P.underlying t = some (.slice e)) (hi : P.info? e = some i) (hz : i.zero = some z)
  (hsize : i.size = size) (hby : i.bytes = bytes) (hzs : z.cells.size = size) (hsz : 0 < size) (hzd : ∀ u ∈ z.cells.toList, noDig u)
  (v : Value) (n : Nat) (xs : List Value) (hs : a.eval s = v) (hown : LRow w base e size v n xs)
  (ao : Option Addr) (m c : Nat) (news : List Value) (hx : a.eval x = .slice ao m c) (hl : news.length = m * size) (hnews : 0 < m → ∃ ad, ao = some ad ∧ ∀ j u, news[j]? = some u → w.cell? (ad.add j) = some u) (h1 : ∀ u ∈ news, u.oneCell' = true) (hnd : ∀ u ∈ news, noDig u)
  (h63 : n + m ≤ maxLen) (hbytes : (n + m) * bytes ≤ 140737488355328) (hbase : base ≤ w.heap.size)
  (h : ∀ v' w', LRow w' base e size v' (n + m) (xs ++ news) → w.grownBy w' v.ownBlock → (∀ g, v'.ownBlock = some g → v.ownBlock = some g ∨ g = w.heap.size) → K (a.put o.dst v') w') : o.wp P a w K Q := by
 obtain ⟨v', w', hr, h2, h3, h4⟩ := run_append_lrow0 (P := P) w t o.type base e i z size bytes ht hi hz hsize hby hzs hsz hzd v n xs hown ao m c news hl hnews h1 hnd h63 hbytes hbase
 unfold Oper.wp execOp
 simp only [ho, resolve, invoke, builtin, Sem.run_bind, Sem.run_pure, Result.andThen_ok, List.map_toArray, List.map_cons, List.map_nil, hs, hx, hr]
 exact h v' w' h2 h3 h4
theorem step_append_lrow0 {P : Program} (w : World) {ops : Array Oper} {o : Oper} {a : Act} {K : Act → World → Prop} {Q : Exit → Act → World → Prop} {E : Prop} (hgd : o.guard = none) (s x : Operand) (t : TypeId)
  (ho : o.op = .call { callee := .builtin .append, args := #[s, x], argTypes := #[t, t] })
  (base : Nat) (e : TypeId) (i : TypeInfo) (z : Value) (size bytes : Nat) (ht : P.underlying t = some (.slice e)) (hi : P.info? e = some i) (hz : i.zero = some z)
  (hsize : i.size = size) (hby : i.bytes = bytes) (hzs : z.cells.size = size) (hsz : 0 < size) (hzd : ∀ u ∈ z.cells.toList, noDig u)
  (v : Value) (n : Nat) (xs : List Value) (hs : a.eval s = v) (hown : LRow w base e size v n xs)
  (ao : Option Addr) (m c : Nat) (news : List Value) (hx : a.eval x = .slice ao m c) (hl : news.length = m * size) (hnews : 0 < m → ∃ ad, ao = some ad ∧ ∀ j u, news[j]? = some u → w.cell? (ad.add j) = some u) (h1 : ∀ u ∈ news, u.oneCell' = true) (hnd : ∀ u ∈ news, noDig u)
  (h63 : n + m ≤ maxLen) (hbytes : (n + m) * bytes ≤ 140737488355328) (hbase : base ≤ w.heap.size)
  (h : ∀ v' w', LRow w' base e size v' (n + m) (xs ++ news) → w.grownBy w' v.ownBlock → (∀ g, v'.ownBlock = some g → v.ownBlock = some g ∨ g = w.heap.size) → K (a.put o.dst v') w') :
  if Region.wanted o (yielded ops a.tmps) = true then Oper.wp P o a w K Q else E := by
 have hw : Region.wanted o (yielded ops a.tmps) = true := by simp [Region.wanted, hgd]
 rw [if_pos hw]
 exact wp_append_lrow0 w s x t ho base e i z size bytes ht hi hz hsize hby hzs hsz hzd v n xs hs hown ao m c news hx hl hnews h1 hnd h63 hbytes hbase h
theorem LRow.src {w : World} {base e size n : Nat} {v : Value} {xs : List Value} (h : LRow w base e size v n xs) : ∃ ao c, v = .slice ao n c ∧ (0 < n → ∃ ad, ao = some ad ∧ ∀ j u, xs[j]? = some u → w.cell? (ad.add j) = some u) := by
 rcases Nat.eq_zero_or_pos n with h0 | hp
 ·
  obtain ⟨ao, cap, e1, _⟩ := h.capOk
  exact ⟨ao, cap, e1, fun hn => absurd hn (by omega)⟩
 ·
  obtain ⟨g, cap, rfl⟩ := ownsRow_some h.1 hp
  exact ⟨_, _, rfl, fun _ => ⟨_, rfl, h.1.cells (g := g) rfl⟩⟩
theorem RowOf.plain {p : Bool} {k : Nat} {w : World} {xs : List Value} {qs : List (List Rat)} (h : RowOf p k w xs qs) : ∀ u ∈ xs, u.oneCell' = true ∧ noDig u := by
 intro u hu
 obtain ⟨m, hm⟩ := List.mem_iff_getElem?.1 hu
 have hml : m < qs.length * (3 * k) := by rw [← h.1]; exact (List.getElem?_eq_some_iff.1 hm).1
 have hk : 0 < 3 * k := by
  rcases Nat.eq_zero_or_pos (3 * k) with h0 | h0
  ·
   rw [h0] at hml; omega
  ·
   exact h0
 have hi : m / (3 * k) < qs.length := Nat.div_lt_of_lt_mul (by rw [Nat.mul_comm]; exact hml)
 have hr : m % (3 * k) < 3 * k := Nat.mod_lt _ hk
 have hj : m % (3 * k) / 3 < k := by omega
 have em : m = m / (3 * k) * (3 * k) + (m % (3 * k) / 3 * 3 + m % (3 * k) % 3) := by
  have e1 := Nat.div_add_mod m (3 * k)
  have e2 := Nat.div_add_mod (m % (3 * k)) 3
  have e3 : 3 * k * (m / (3 * k)) = m / (3 * k) * (3 * k) := Nat.mul_comm _ _
  omega
 obtain ⟨x, h0, h1, h2, _⟩ := h.2 _ hi _ hj
 generalize m / (3 * k) * (3 * k) = A at *
 generalize m % (3 * k) / 3 * 3 = C at *
 have h3 : m % (3 * k) % 3 = 0 ∨ m % (3 * k) % 3 = 1 ∨ m % (3 * k) % 3 = 2 := by omega
 rcases h3 with h3 | h3 | h3
 ·
  rw [em, h3, show A + (C + 0) = A + C by omega, h0] at hm; cases hm; exact ⟨by simp [Value.oneCell'], noDig_bool _⟩
 ·
  rw [em, h3, show A + (C + 1) = A + C + 1 by omega, h1] at hm; cases hm; exact ⟨by simp [Value.oneCell'], noDig_slice _ _ _⟩
 ·
  rw [em, h3, show A + (C + 2) = A + C + 2 by omega, h2] at hm; cases hm; exact ⟨by simp [Value.oneCell'], noDig_slice _ _ _⟩
theorem RowOf.cons {p : Bool} {k : Nat} {w : World} {xs : List Value} {qs : List (List Rat)} (h : RowOf p k w xs qs) (l : List R3) (rs : List Rat) (hl : l.length = k) (hr : ∀ j x, l[j]? = some x → Fr p w x.val (rs.getD j 0)) : RowOf p k w (cellsR l ++ xs) ([rs] ++ qs) := by
 have h0 : RowOf p k w (cellsR l) [rs] := by
  have := (RowOf.nil p k w).snoc l rs hl hr
  simpa using this
 have hc : (cellsR l).length = 3 * k := by have := h0.1; simpa using this
 refine ⟨by rw [List.length_append, List.length_append, hc, h.1]; simp [Nat.add_mul], fun i hi j hj => ?_⟩
 rcases Nat.eq_zero_or_pos i with rfl | hp
 ·
  obtain ⟨x, h1, h2, h3, h4⟩ := h0.2 0 (by simp) j hj
  have g : ∀ o u, (cellsR l)[o]? = some u → (cellsR l ++ xs)[o]? = some u := fun o u ho => by rw [List.getElem?_append_left (List.getElem?_eq_some_iff.1 ho).1]; exact ho
  exact ⟨x, g _ _ h1, g _ _ h2, g _ _ h3, h4⟩
 ·
  obtain ⟨i, rfl⟩ : ∃ i', i = i' + 1 := ⟨i - 1, by omega⟩
  have hi' : i < qs.length := by simp at hi; omega
  obtain ⟨x, h1, h2, h3, h4⟩ := h.2 i hi' j hj
  have g : ∀ o u, xs[o]? = some u → (cellsR l ++ xs)[3 * k + o]? = some u := fun o u ho => by
   rw [List.getElem?_append_right (by rw [hc]; omega), hc, Nat.add_sub_cancel_left]; exact ho
  have e : (i + 1) * (3 * k) = 3 * k + i * (3 * k) := by rw [Nat.add_mul, Nat.one_mul]; omega
  refine ⟨x, ?_, ?_, ?_, ?_⟩
  ·
   rw [e, Nat.add_assoc]; exact g _ _ h1
  ·
   rw [e, Nat.add_assoc, Nat.add_assoc, ← Nat.add_assoc (i * (3 * k))]; exact g _ _ h2
  ·
   rw [e, Nat.add_assoc, Nat.add_assoc, ← Nat.add_assoc (i * (3 * k))]; exact g _ _ h3
  ·
   have eg : ([rs] ++ qs).getD (i + 1) [] = qs.getD i [] := rfl
   rw [eg]; exact h4
theorem mem_eraseIdx {w0 w : World} {bs : List Bx} {fs : List Fx} (h : Sx w0 w bs fs) (i : Nat) {B T : Nat} {cs : Array Value} (hi : bs[i]? = some (B, cs, T)) : ∀ b, b ∈ bs.eraseIdx i → b ∈ bs ∧ b.1 ≠ B := by
 intro b hb
 obtain ⟨k, hk⟩ := List.mem_iff_getElem?.1 hb
 rw [List.getElem?_eraseIdx] at hk
 split at hk
 ·
  exact ⟨List.mem_iff_getElem?.2 ⟨k, hk⟩, h.ne k i hk hi (by omega)⟩
 ·
  exact ⟨List.mem_iff_getElem?.2 ⟨k + 1, hk⟩, h.ne (k + 1) i hk hi (by omega)⟩
theorem Sx.turn {w0 w w' : World} {bs : List Bx} {fs : List Fx} {gs : List GrR} (h : Sx w0 w bs fs) (hg : GsR w0 w bs gs) (i : Nat) {B T : Nat} {cs : Array Value} (hi : bs[i]? = some (B, cs, T)) (hd : ∀ u ∈ cs.toList, noDig u) (j : Nat) {g : GrR} (hj : gs[j]? = some g) (l : List R3) (rs : List Rat) {v' : Value}
  (hl : l.length = g.k) (hr : ∀ n x, l[n]? = some x → Fr g.p w x.val (rs.getD n 0)) (hL : LRow w' w0.heap.size g.e (3 * g.k) v' (1 + g.qs.length) (cellsR l ++ g.xs)) (hgr : w.grownBy w' (some B)) (hat : ∀ c, v'.ownBlock = some c → some B = some c ∨ c = w.heap.size) :
  Sx w0 w' (bs.eraseIdx i) fs ∧ GsR w0 w' (bs.eraseIdx i) (gs.set j ⟨g.e, g.p, g.k, v', cellsR l ++ g.xs, [rs] ++ g.qs⟩) := by
 obtain ⟨hB, hB0, _⟩ := h.box i _ hi
 have hnd : NoDig w B := NoDig.of_block hB hd
 have hfr : ∀ p v q, Fr p w v q → Fr p w' v q := fun p v q hf => hf.grown hgr fun c e => by cases e; exact hnd
 have hm := mem_eraseIdx h i hi
 have hblt : ∀ b, b ∈ bs → b.1 < w.heap.size := fun b hb => by
  obtain ⟨n, hn⟩ := List.mem_iff_getElem?.1 hb
  exact blk_lt (h.box n b hn).1
 have hE := h.erase i
 have hbm : (B, cs, T) ∈ bs := List.mem_iff_getElem?.2 ⟨i, hi⟩
 refine ⟨⟨h.bel.grown hgr h.bel.size (fun k e => by cases e; exact hB0), fun n b hn => ?_, hE.nod, fun n f hf => hfr _ _ _ (h.fra n f hf)⟩, fun n g' hn => ?_, fun n g' hn => ?_, fun b hb g' hg' => ?_, fun n k g1 g2 hn hk hnk c hc => ?_⟩
 ·
  obtain ⟨h1, h2⟩ := hE.box n b hn
  exact ⟨(hgr.block b.1 (blk_lt h1) (fun e => by injection e with e; exact (hm b (List.mem_iff_getElem?.2 ⟨n, hn⟩)).2 (by omega))).trans h1, h2⟩
 ·
  rw [List.getElem?_set] at hn
  by_cases hjn : j = n
  ·
   subst hjn
   rw [if_pos rfl] at hn
   split at hn
   ·
    injection hn with hn
    subst hn
    show LRow w' w0.heap.size g.e (3 * g.k) v' ([rs] ++ g.qs).length (cellsR l ++ g.xs)
    rw [List.length_append]
    exact hL
   ·
    exact absurd hn (by simp)
  ·
   rw [if_neg hjn] at hn
   exact (hg.row n g' hn).grown hgr fun c hc e => hg.sep _ hbm g' (List.mem_iff_getElem?.2 ⟨n, hn⟩) (by rw [hc, e])
 ·
  rw [List.getElem?_set] at hn
  by_cases hjn : j = n
  ·
   subst hjn
   rw [if_pos rfl] at hn
   split at hn
   ·
    injection hn with hn
    subst hn
    exact ((hg.mean j g hj).mono fun _ _ hf => hfr _ _ _ hf).cons l rs hl (fun n x hx => hfr _ _ _ (hr n x hx))
   ·
    exact absurd hn (by simp)
  ·
   rw [if_neg hjn] at hn
   exact (hg.mean n g' hn).mono fun _ _ hf => hfr _ _ _ hf
 ·
  rcases List.mem_or_eq_of_mem_set hg' with hg' | rfl
  ·
   exact hg.sep b (hm b hb).1 g' hg'
  ·
   intro hc
   rcases hat _ hc with h1 | h1
   ·
    injection h1 with h1; exact (hm b hb).2 h1.symm
   ·
    have := hblt b (hm b hb).1; omega
 ·
  have hlt : ∀ (n : Nat) (g' : GrR), gs[n]? = some g' → ∀ c, g'.v.ownBlock = some c → c < w.heap.size := fun n g' hn c hc => ((hg.row n g' hn).lt hc).1
  have hnew : ∀ (n : Nat) (g' : GrR), gs[n]? = some g' → ∀ c, g'.v.ownBlock = some c → v'.ownBlock ≠ some c := fun n g' hn c hc e => by
   rcases hat _ e with h1 | h1
   ·
    exact hg.sep _ hbm g' (List.mem_iff_getElem?.2 ⟨n, hn⟩) (by rw [hc, h1])
   ·
    have := hlt n g' hn c hc; omega
  rw [List.getElem?_set] at hn hk
  by_cases hjn : j = n
  ·
   subst hjn
   rw [if_pos rfl] at hn
   rw [if_neg hnk] at hk
   split at hn
   ·
    injection hn with hn
    subst hn
    intro hc2
    exact hnew k g2 hk c hc2 hc
   ·
    exact absurd hn (by simp)
  ·
   rw [if_neg hjn] at hn
   by_cases hjk : j = k
   ·
    subst hjk
    rw [if_pos rfl] at hk
    split at hk
    ·
     injection hk with hk
     subst hk
     exact hnew n g1 hn c hc
    ·
     exact absurd hk (by simp)
   ·
    rw [if_neg hjk] at hk
    exact hg.apart n k g1 g2 hn hk hnk c hc

def uRow (aq : List Rat) (n : Nat) : List (List Rat) := (List.range n).map fun i => [aq.getD i 0]
theorem uRow_succ (aq : List Rat) (n : Nat) : uRow aq (n + 1) = uRow aq n ++ [[aq.getD n 0]] := by
 unfold uRow
 rw [List.range_succ, List.map_append]
 rfl
theorem uRow_len (aq : List Rat) (n : Nat) : (uRow aq n).length = n := by simp [uRow]
theorem uRow_at (aq : List Rat) {n i : Nat} (h : i < n) : (uRow aq n).getD i [] = [aq.getD i 0] := by
 unfold uRow
 simp [List.getD, h]
theorem frcs_row {w : World} {v : Value} {aq : List Rat} (h : RecsOf true 1 w v (uRow aq aq.length)) : FrcsOf IsRat w v aq := by
 obtain ⟨ao, cap, rfl, h⟩ := h
 rw [uRow_len] at h ⊢
 refine ⟨ao, cap, rfl, fun hp => ?_⟩
 obtain ⟨b, off, rfl, hlt, h⟩ := h hp
 refine ⟨b, off, rfl, hlt, fun i hi => ?_⟩
 obtain ⟨x, h0, h1, h2, h3⟩ := h i hi 0 (by omega)
 rw [uRow_at aq hi] at h3
 exact ⟨_, _, _, h0, h1, h2, h3⟩
def BytesOf (w : World) (v : Value) (al : List Nat) : Prop :=
 ∃ ao cap, v = .slice ao al.length cap ∧ (0 < al.length → ∃ b off, ao = some ⟨b, off, none⟩ ∧ b < w.heap.size ∧ ∀ i, i < al.length → w.cell? ⟨b, off + i, none⟩ = some (.int .u8 ((al.getD i 0 : Nat) : Int)))
def Pair8 (w : World) (v : Value) (ls : List (Nat × Nat)) : Prop :=
 ∃ ao cap, v = .slice ao ls.length cap ∧ (0 < ls.length → ∃ b off, ao = some ⟨b, off, none⟩ ∧ b < w.heap.size ∧ ∀ i, i < ls.length → w.cell? ⟨b, off + i * 2, none⟩ = some (.int .u8 (((ls.getD i (0, 0)).1 : Nat) : Int)) ∧ w.cell? ⟨b, off + i * 2 + 1, none⟩ = some (.int .u8 (((ls.getD i (0, 0)).2 : Nat) : Int)))
end Go.Proofs.YthhnkobkdhjfgaaGreat

namespace Go.Proofs.YthhnkobkdhjfgaaGreat
open Go.RowKit

def lgA (lg : List (Nat × Nat)) (i : Nat) : Rat := ptQ ((lg.getD i (0, 0)).1 % 101) 100
def lgW (lg : List (Nat × Nat)) (i : Nat) : Rat := ptQ ((lg.getD i (0, 0)).2 % (101 - (lg.getD i (0, 0)).1 % 101)) 100
def lgB (lg : List (Nat × Nat)) (i : Nat) : Rat := lgA lg i + lgW lg i
def lgX (lg : List (Nat × Nat)) (r i : Nat) : Rat := lgA lg i + lgW lg i * ptQ r 250
theorem lg_ok (lg : List (Nat × Nat)) {r : Nat} (hr : r ≤ 250) (i : Nat) : 0 ≤ lgA lg i ∧ lgA lg i ≤ lgX lg r i ∧ lgX lg r i ≤ lgB lg i ∧ lgB lg i ≤ 1 ∧ 0 ≤ lgW lg i := by
 have h0 : 0 ≤ lgA lg i := ptQ_pos _ _ (by omega)
 have h1 : 0 ≤ lgW lg i := ptQ_pos _ _ (by omega)
 have h2 : 0 ≤ ptQ r 250 := ptQ_pos _ _ (by omega)
 have h3 : ptQ r 250 ≤ 1 := ptQ_le hr (by omega)
 have h4 : lgB lg i ≤ 1 := by
  unfold lgB lgA lgW
  rw [ptQ_add]
  refine ptQ_le ?_ (by omega)
  have := Nat.mod_lt (lg.getD i (0, 0)).1 (show 101 > 0 by omega)
  have := Nat.mod_lt (lg.getD i (0, 0)).2 (show 101 - (lg.getD i (0, 0)).1 % 101 > 0 by omega)
  omega
 have g1 := Rat.mul_nonneg h1 h2
 have g2 := Rat.mul_nonneg (a := lgW lg i) (b := 1 - ptQ r 250) h1 (by grind)
 unfold lgX
 refine ⟨h0, by grind, ?_, h4, h1⟩
 unfold lgB
 grind
theorem lgA_sz (lg : List (Nat × Nat)) (i : Nat) : szR (lgA lg i) 100 := ptQ_sz (by omega) (by omega) (by omega)
theorem lgW_sz (lg : List (Nat × Nat)) (i : Nat) (h : (lg.getD i (0, 0)).2 ≤ 255) : szR (lgW lg i) 100 := ptQ_sz (by have := Nat.mod_le (lg.getD i (0, 0)).2 (101 - (lg.getD i (0, 0)).1 % 101); omega) (by omega) (by omega)
theorem lgB_sz (lg : List (Nat × Nat)) (i : Nat) (h : (lg.getD i (0, 0)).2 ≤ 255) : szR (lgB lg i) 1000 := szR_mono (szR_add (lgA_sz lg i) (lgW_sz lg i h)) (by omega)
theorem lgX_sz (lg : List (Nat × Nat)) {r : Nat} (hr : r ≤ 250) (i : Nat) (h : (lg.getD i (0, 0)).2 ≤ 255) : szR (lgX lg r i) 1000 := szR_mono (szR_add (lgA_sz lg i) (szR_mul (lgW_sz lg i h) (ptQ_sz (n := r) (d := 250) (by omega) (by omega) (by omega)))) (by omega)
theorem bd300_zero : bdQ 300 0 := by
 have h : (0 : Rat) ≤ (((300 : Nat) : Int) : Rat) := Rat.intCast_le_intCast.2 (by omega : (0 : Int) ≤ ((300 : Nat) : Int))
 exact ⟨by grind, h⟩
def airQ (al : List Nat) : List Rat := al.map fun a => ptQ a 1
theorem airQ_len (al : List Nat) : (airQ al).length = al.length := by simp [airQ]
theorem airQ_at {al : List Nat} {i : Nat} (h : i < al.length) : (airQ al).getD i 0 = ptQ (al.getD i 0) 1 := by
 unfold airQ
 simp [List.getD, h]
theorem ptQ_one (n : Nat) : ptQ n 1 = ((n : Int) : Rat) := by
 unfold ptQ
 have e : (((1 : Nat) : Int) : Rat) = 1 := rfl
 rw [e]
 grind
theorem airQ_ok {al : List Nat} (h : ∀ i, i < al.length → al.getD i 0 ≤ 255) (i : Nat) : bdQ 300 ((airQ al).getD i 0) ∧ szR ((airQ al).getD i 0) 100 := by
 by_cases hi : i < al.length
 ·
  rw [airQ_at hi]
  have g := h i hi
  refine ⟨?_, ptQ_sz (by omega) (by omega) (by omega)⟩
  rw [ptQ_one]
  refine ⟨?_, Rat.intCast_le_intCast.2 (by omega)⟩
  rw [← Rat.intCast_neg]
  exact Rat.intCast_le_intCast.2 (by omega)
 ·
  have e : (airQ al).getD i 0 = 0 := by
   rw [List.getD_eq_getElem?_getD, List.getElem?_eq_none (by rw [airQ_len]; omega)]
   rfl
  rw [e]
  exact ⟨bd300_zero, szR_zero _ (by omega)⟩
theorem fl_sz0 {l0 l1 : Rat} {k : Nat} {aq : List Rat} (hk : k ≤ 256) (h0 : 0 ≤ l0) (h01 : l0 ≤ l1) (h1 : l1 ≤ 1) (ha : ∀ i, bdQ 300 (aq.getD i 0)) (i : Nat) : szR (flUp 0 l0 l1 k aq i).1 1000 ∧ szR (flUp 0 l0 l1 k aq i).2 1000 := by
 have g := (fl_ok hk (B := 300) (by omega) bd300_zero (szR_zero _ (by omega)) h0 (Rat.le_trans h01 h1) (Rat.le_trans h0 h01) h1 ha i).2.2
 exact ⟨szR_mono g.1 (by omega), szR_mono g.2 (by omega)⟩
theorem flR_sz0 {l0 l1 : Rat} {k : Nat} {aq : List Rat} (hk : k ≤ 256) (h0 : 0 ≤ l0) (h01 : l0 ≤ l1) (h1 : l1 ≤ 1) (ha : ∀ i, bdQ 300 (aq.getD i 0)) (c i j : Nat) : szR (((flR 0 l0 l1 k aq c).getD i []).getD j 0) 1000 := by
 by_cases hi : i < c
 ·
  rw [flR_at _ _ _ _ _ hi]
  obtain ⟨g1, g2⟩ := fl_sz0 hk h0 h01 h1 ha (i + 1)
  match j with
  | 0 => exact g1
  | 1 => exact g2
  | j + 2 => exact szR_zero _ (by omega)
 ·
  have e : (flR 0 l0 l1 k aq c).getD i [] = [] := by
   rw [List.getD_eq_getElem?_getD, List.getElem?_eq_none (by rw [flR_len]; omega)]
   rfl
  rw [e]
  exact szR_zero _ (by omega)
structure LagE (aq : List Rat) (le mo ri : Rat) (m : Int) : Prop where
 n8 : aq.length ≤ 8
 bd : ∀ i, bdQ 300 (aq.getD i 0)
 sa : ∀ i, szR (aq.getD i 0) 1000
 s1 : szR le 1000
 s2 : szR mo 1000
 s3 : szR ri 1000
 nd : ndErr le mo ri m = 0
theorem flErr_0 {l0 l1 : Rat} {n : Nat} (h0 : 0 ≤ l0) (h1 : l1 ≤ 1) (hn : n ≤ 8) : flErr l0 l1 n = 0 := by
 unfold flErr
 rw [if_neg (by rw [partB_iff.2 ⟨h0, h1⟩]; simp), if_neg (by omega)]
theorem ndErr_0 {n0 n1 n2 q : Nat} (hq : q < 4) : ndErr (ptQ n0 2) (ptQ (n0 + 2 * n1) 2) (ptQ n2 1) ((1 + q : Nat) : Int) = 0 := by
 unfold ndErr
 rw [if_neg]
 have h1 : decide (0 ≤ sgnI (decide ((ptQ n2 1).num < 0)) (ptQ n2 1).num.natAbs) = true := by rw [sgn_ge]; exact decide_eq_true (ptQ_pos _ _ (by omega))
 have h2 := of_decide_eq_true h1
 have h3 : cmpR (ptQ n0 2) (ptQ (n0 + 2 * n1) 2) ≤ 0 := by
  rw [cmp_le0, ← ptQ_add]
  have := ptQ_pos (2 * n1) 2 (by omega)
  grind
 omega
theorem flT0 (q : List (List Rat)) : flT q 0 = q := by unfold flT; rw [if_pos rfl]
theorem follow0 {aq : List Rat} {le mo ri : Rat} {m : Int} (E : LagE aq le mo ri m) {l0 l1 : Rat} (h0 : 0 ≤ l0) (h01 : l0 ≤ l1) (h1 : l1 ≤ 1) (s0 : szR l0 1000) (s1 : szR l1 1000) (vx vS va : Value) (w : World) (hx : IsRng w vx l0 l1) (hS : IsRat w vS 0) (ha : FrcsOf IsRat w va aq) :
  Calls Tryz.prog 29 #[vx, vS, va, .int .i64 12] w (RetRecsE true 2 (flR 0 l0 l1 12 aq aq.length) 0 w) := by
 have g := pfollow_any l0 l1 0 aq 12 (by omega) 12 (by omega) vx vS va w hx hS ha (by have := E.n8; omega) s0 s1 (szR_zero _ (by omega)) E.sa (fun _ => fl_sz0 (by omega) h0 h01 h1 E.bd)
 rw [flErr_0 h0 h1 E.n8, flT0] at g
 exact g
theorem meets0 {aq : List Rat} {le mo ri : Rat} {m : Int} (E : LagE aq le mo ri m) {l0 l1 : Rat} (h0 : 0 ≤ l0) (h01 : l0 ≤ l1) (h1 : l1 ≤ 1) (s0 : szR l0 1000) (s1 : szR l1 1000) {k : Nat} (hk : k ≤ 256) (z : Int) (hz : (k : Int) = z) (y1 y2 y3 : R3) (vx vS va : Value) (w : World) (hx : IsRng w vx l0 l1) (hS : IsRat w vS 0) (ha : FrcsOf IsRat w va aq) (g1 : IsRat w y1.val le) (g2 : IsRat w y2.val mo) (g3 : IsRat w y3.val ri) :
  Calls Tryz.prog 31 #[vx, vS, va, .agg #[.bool y1.b, .slice y1.a y1.n y1.c, .slice y1.d y1.m y1.e, .bool y2.b, .slice y2.a y2.n y2.c, .slice y2.d y2.m y2.e, .bool y3.b, .slice y3.a y3.n y3.c, .slice y3.d y3.m y3.e, .int .i64 m], .int .i64 z] w (RetBE (mtOf 0 le mo ri m (flR 0 l0 l1 k aq aq.length)) 0 w) := by
 have g := pmeets_any l0 l1 0 le mo ri m aq k hk z (by omega) y1 y2 y3 vx vS va w hx hS ha g1 g2 g3 (by have := E.n8; omega) s0 s1 (szR_zero _ (by omega)) E.sa E.s1 E.s2 E.s3 (fun _ => fl_sz0 hk h0 h01 h1 E.bd) (fun _ => flR_sz0 hk h0 h01 h1 E.bd _)
 have e : meErr l0 l1 aq.length le mo ri m = 0 := by unfold meErr; rw [if_neg (by rw [flErr_0 h0 h1 E.n8]; simp), E.nd]
 rw [e, show ∀ ts, meOf 0 le mo ri m ts 0 = mtOf 0 le mo ri m ts from fun ts => by unfold meOf; rw [if_pos rfl]] at g
 exact g
theorem admit0 {aq : List Rat} {le mo ri : Rat} {m : Int} (E : LagE aq le mo ri m) {ls : List (List Rat)} (n0 : ¬ ls.length < 1) (n64 : ¬ 64 < ls.length) (hl : ∀ i, i < ls.length → (0 ≤ (ls.getD i []).getD 0 0 ∧ (ls.getD i []).getD 0 0 ≤ (ls.getD i []).getD 1 0) ∧ (ls.getD i []).getD 1 0 ≤ 1) (sl : ∀ i j, szR ((ls.getD i []).getD j 0) 1000)
  (y1 y2 y3 : R3) (vl vS va : Value) (w : World) (h : RecsOf true 2 w vl ls) (hS : IsRat w vS 0) (ha : FrcsOf IsRat w va aq) (g1 : IsRat w y1.val le) (g2 : IsRat w y2.val mo) (g3 : IsRat w y3.val ri) :
  Calls Tryz.prog 36 #[vl, vS, va, .agg #[.bool y1.b, .slice y1.a y1.n y1.c, .slice y1.d y1.m y1.e, .bool y2.b, .slice y2.a y2.n y2.c, .slice y2.d y2.m y2.e, .bool y3.b, .slice y3.a y3.n y3.c, .slice y3.d y3.m y3.e, .int .i64 m], .int .i64 12] w (RetII (firstUp (adBad 0 le mo ri m 12 aq ls) ls.length) 0 w) := by
 have hz : ∀ i, ¬ i < ls.length → ∀ j, (ls.getD i []).getD j 0 = 0 := fun i hi j => by
  have e : ls.getD i [] = [] := by
   rw [List.getD_eq_getElem?_getD, List.getElem?_eq_none (by omega)]
   rfl
  rw [e]; rfl
 have hl' : ∀ i, (0 ≤ (ls.getD i []).getD 0 0 ∧ (ls.getD i []).getD 0 0 ≤ (ls.getD i []).getD 1 0) ∧ (ls.getD i []).getD 1 0 ≤ 1 := fun i => by
  by_cases hi : i < ls.length
  ·
   exact hl i hi
  ·
   rw [hz i hi, hz i hi]; exact ⟨⟨Rat.le_refl, Rat.le_refl⟩, by decide⟩
 have g := padmit_any 0 le mo ri m aq ls 12 (by omega) 12 (by omega) y1 y2 y3 vl vS va w h hS ha g1 g2 g3 (by have := E.n8; omega) sl (szR_zero _ (by omega)) E.sa E.s1 E.s2 E.s3 (fun j _ => fl_sz0 (by omega) (hl' j).1.1 (hl' j).1.2 (hl' j).2 E.bd) (fun j _ => flR_sz0 (by omega) (hl' j).1.1 (hl' j).1.2 (hl' j).2 E.bd _)
 have e : adErr aq.length le mo ri m ls = 0 := ad_noerr n0 n64 fun i hi => by unfold meErr; rw [if_neg (by rw [flErr_0 (hl' i).1.1 (hl' i).2 E.n8]; simp), E.nd]
 rw [e, show ∀ er : Int, er = 0 → adIx 0 le mo ri m 12 aq ls er = firstUp (adBad 0 le mo ri m 12 aq ls) ls.length from fun er h => by unfold adIx; rw [if_pos h]] at g
 ·
  exact g
 ·
  rfl
theorem int0_any (w : World) : Calls Tryz.prog 30 #[.int .i64 0] w (RetRat 0 w) := by
 have := int_any 0 w (by omega) (by omega)
 exact this
theorem nowQ_sz {x : Rat} {aq : List Rat} (sx : szR x 1000) (sa : ∀ i, szR (aq.getD i 0) 1000) : ∀ n, szR (nowQ x aq n) (3000 * 2 ^ n - 2500)
 | 0 => szR_zero _ (by simp)
 | n + 1 => by
  have ih := nowQ_sz sx sa n
  have hp : 0 < 2 ^ n := Nat.pow_pos (by omega)
  have e : 2 ^ (n + 1) = 2 ^ n + 2 ^ n := by rw [Nat.pow_succ]; omega
  show szR (towQ (nowQ x aq n) x (aq.getD n 0)) _
  unfold towQ
  rw [e]
  generalize 2 ^ n = q at *
  exact szR_mono (szR_add ih (szR_mul sx (szR_sub (sa n) ih))) (by omega)
theorem nowQ_sz8 {x : Rat} {aq : List Rat} (sx : szR x 1000) (sa : ∀ i, szR (aq.getD i 0) 1000) {n : Nat} (hn : n ≤ 8) : szR (nowQ x aq n) 800000 := by
 refine szR_mono (nowQ_sz sx sa n) ?_
 have := Nat.pow_le_pow_right (show 0 < 2 by omega) hn
 have : 2 ^ 8 = 256 := rfl
 omega
theorem frcs_at {w : World} {a : Option Addr} {n c : Nat} {aq : List Rat} (h : FrcsOf IsRat w (.slice a n c) aq) {i : Nat} (hi : i < aq.length) : ∃ (b off : Nat) (x : R3), a = some ⟨b, off, none⟩ ∧ b < w.heap.size ∧ w.cell? ⟨b, off + i * 3, none⟩ = some (.bool x.b) ∧ w.cell? ⟨b, off + i * 3 + 1, none⟩ = some (.slice x.a x.n x.c) ∧ w.cell? ⟨b, off + i * 3 + 2, none⟩ = some (.slice x.d x.m x.e) ∧ IsRat w x.val (aq.getD i 0) := by
 obtain ⟨ao, cap, e, h⟩ := h
 injection e with e1 _ _
 subst e1
 obtain ⟨b, off, rfl, hb, hE⟩ := h (by omega)
 obtain ⟨x, g0, g1, g2, hx⟩ := FrcAt.r3 (hE i hi)
 exact ⟨b, off, x, rfl, hb, g0, g1, g2, hx⟩
theorem recs_at {p : Bool} {w : World} {a : Option Addr} {n c : Nat} {ts : List (List Rat)} (h : RecsOf p 2 w (.slice a n c) ts) {i : Nat} (hi : i < ts.length) : ∃ (b off : Nat) (x y : R3), a = some ⟨b, off, none⟩ ∧ b < w.heap.size ∧ (w.cell? ⟨b, off + i * 6, none⟩ = some (.bool x.b) ∧ w.cell? ⟨b, off + i * 6 + 1, none⟩ = some (.slice x.a x.n x.c) ∧ w.cell? ⟨b, off + i * 6 + 2, none⟩ = some (.slice x.d x.m x.e) ∧ w.cell? ⟨b, off + i * 6 + 3, none⟩ = some (.bool y.b) ∧ w.cell? ⟨b, off + i * 6 + 4, none⟩ = some (.slice y.a y.n y.c) ∧ w.cell? ⟨b, off + i * 6 + 5, none⟩ = some (.slice y.d y.m y.e)) ∧ Fr p w x.val ((ts.getD i []).getD 0 0) ∧ Fr p w y.val ((ts.getD i []).getD 1 0) := by
 obtain ⟨ao, cap, e, h⟩ := h
 injection e with e1 _ _
 subst e1
 obtain ⟨b, off, rfl, hb, hE⟩ := h (by omega)
 obtain ⟨x, x0, x1, x2, hx⟩ := hE i hi 0 (by omega)
 obtain ⟨y, y0, y1, y2, hy⟩ := hE i hi 1 (by omega)
 exact ⟨b, off, x, y, rfl, hb, ⟨x0, x1, x2, y0, y1, y2⟩, hx, hy⟩
theorem recs_parts {p : Bool} {k : Nat} {w : World} {v : Value} {qs : List (List Rat)} (h : RecsOf p k w v qs) : ∃ (a : Option Addr) (c : Nat), v = .slice a qs.length c := by
 obtain ⟨a, c, rfl, _⟩ := h
 exact ⟨a, c, rfl⟩
theorem recs_first {p : Bool} {k : Nat} {w : World} {a : Option Addr} {n c : Nat} {q : List Rat} {ts : List (List Rat)} (h : RecsOf p k w (.slice a n c) ts) (h0 : 0 < ts.length) (hq : ts.getD 0 [] = q) : RecsOf p k w (.slice a 1 c) [q] := by
 obtain ⟨ao, cap, e, h⟩ := h
 injection e with e1 _ e3
 subst e1
 obtain ⟨b, off, rfl, hb, hE⟩ := h h0
 refine ⟨_, _, rfl, fun _ => ⟨b, off, rfl, hb, fun i hi j hj => ?_⟩⟩
 obtain rfl : i = 0 := by simp at hi; exact hi
 have := hE 0 h0 j hj
 rw [hq] at this
 exact this
theorem hasB_in {a b y : Rat} (h1 : a ≤ y) (h2 : y ≤ b) : hasB a b y = true := by
 unfold hasB
 rw [decide_eq_true (cmp_le0.2 h1), decide_eq_true (cmp_le0.2 h2)]; rfl
end Go.Proofs.YthhnkobkdhjfgaaGreat

namespace Go.Proofs.YthhnkobkdhjfgaaGreat
open Go.RowKit

theorem noDig_other {w : World} {r : Nat} {o : Obj} (h : w.heap[r]? = some o) (hc : o.isCells = false) : NoDig w r := by
 intro j v hv
 obtain ⟨o', h1, h2⟩ := cells_of_cell hv
 rw [show (⟨r, j, none⟩ : Addr).block = r from rfl, h] at h1
 cases h1
 rw [hc] at h2
 cases h2
theorem ne_other {w : World} {r b : Nat} {o : Obj} {cs : Array Value} {T : Nat} {fr : Nat × Nat} (h : w.heap[r]? = some o) (hc : o.isCells = false) (hb : w.heap[b]? = some (.cells cs T fr)) : r ≠ b := by
 rintro rfl
 rw [h] at hb
 cases hb
 cases hc
theorem Sx.other {w0 w w' : World} {bs : List Bx} {fs : List Fx} {row : Option Nat} (h : Sx w0 w bs fs) (hg : w.grownBy w' row) (hr : ∀ r, row = some r → w0.heap.size ≤ r ∧ ∃ o : Obj, w.heap[r]? = some o ∧ o.isCells = false) : Sx w0 w' bs fs := by
 refine ⟨h.bel.grown hg h.bel.size (fun k e => (hr k e).1), fun i b hi => ?_, h.nod, fun i f hi => (h.fra i f hi).grown hg fun g e => by obtain ⟨_, o, ho, hc⟩ := hr g e; exact noDig_other ho hc⟩
 obtain ⟨h1, h2⟩ := h.box i b hi
 refine ⟨(hg.block b.1 (blk_lt h1) (fun e => ?_)).trans h1, h2⟩
 obtain ⟨_, o, ho, hc⟩ := hr b.1 e.symm
 exact ne_other ho hc h1 rfl
theorem LRow.other {w w' : World} {base e size n : Nat} {v : Value} {xs : List Value} {row : Option Nat} (h : LRow w base e size v n xs) (hg : w.grownBy w' row) (hr : ∀ r, row = some r → ∃ o : Obj, w.heap[r]? = some o ∧ o.isCells = false) : LRow w' base e size v n xs := by
 refine h.grown hg fun g hv e => ?_
 obtain ⟨o, ho, hc⟩ := hr g e.symm
 rcases h.1.2 with ⟨rfl, _⟩ | ⟨g', cap, cur, rfl, hb, hh, _⟩
 ·
  cases hv
 ·
  cases hv
  exact ne_other ho hc hh rfl
theorem GsR.other {w0 w w' : World} {bs : List Bx} {gs : List GrR} {row : Option Nat} (h : GsR w0 w bs gs) (hg : w.grownBy w' row) (hr : ∀ r, row = some r → ∃ o : Obj, w.heap[r]? = some o ∧ o.isCells = false) : GsR w0 w' bs gs :=
 ⟨fun i g hi => (h.row i g hi).other hg hr, fun i g hi => (h.mean i g hi).mono fun _ _ hf => hf.grown hg fun g e => by obtain ⟨o, ho, hc⟩ := hr g e; exact noDig_other ho hc, h.sep, h.apart⟩
def KpS (T n : Nat) (Bs : List Nat) (W W' : World) : Prop := Below n W W' ∧ (∀ b, b ∈ Bs → W'.heap[b]? = W.heap[b]?) ∧ ∀ (k : Nat) (cs : Array Value) (fr : Nat × Nat), W.heap[k]? = some (.cells cs T fr) → W'.heap[k]? = some (.cells cs T fr)
theorem KpS.trans {T n : Nat} {Bs : List Nat} {X Y Z : World} (h : KpS T n Bs X Y) (k : KpS T n Bs Y Z) : KpS T n Bs X Z := ⟨h.1.trans k.1, fun b hb => (k.2.1 b hb).trans (h.2.1 b hb), fun c cs fr hc => k.2.2 c cs fr (h.2.2 c cs fr hc)⟩
theorem there_blk {w : World} {B T : Nat} {cs : Array Value} (h : w.heap[B]? = some (.cells cs T (0, 0))) {o n : Nat} (hn : o + n ≤ cs.size) : w.there B o n := fun j hj => by
 have hlt : o + j < cs.size := by omega
 exact ⟨by rw [blk_cell h (o + j) cs[o + j] (Array.getElem?_eq_getElem hlt)]; rfl, blk_frozen h (o + j)⟩
theorem step_store_mid {P : Program} {w W' : World} {ops : Array Oper} {op : Oper} {a : Act} {K : Act → World → Prop} {Q : Exit → Act → World → Prop} {E : Prop} (hgd : op.guard = none) (ty : TypeId) (x y : Operand) (ho : op.op = .store ty x y)
  (b o : Nat) (cells : Array Value) (hx : a.eval x = .pointer (some ⟨b, o, none⟩)) (hy : a.eval y = .agg cells)
  (ht : w.there b o cells.size) (hi : (P.info? ty).map (·.size) = some cells.size) (h1 : cells.all (·.oneCell') = true) (hW : w.setCells b o cells.toList = W')
  (h : K (a.put op.dst undef) W') : if Region.wanted op (yielded ops a.tmps) = true then Oper.wp P op a w K Q else E := by
 have hw : Region.wanted op (yielded ops a.tmps) = true := by simp [Region.wanted, hgd]
 rw [if_pos hw]
 subst hW
 exact wp_store_mid ty x y ho b o cells hx hy ht hi h1 h
end Go.Proofs.YthhnkobkdhjfgaaGreat
