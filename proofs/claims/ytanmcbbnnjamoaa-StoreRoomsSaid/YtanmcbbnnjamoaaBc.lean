/- Part c of the lemmas and walks. -/
import Derived.Test.YtanmcbbnnjamoaaBb

namespace Go.Proofs.Ytanmcbbnnjamoaa
open Go.RowKit

set_option maxHeartbeats 1000000 in
/-- The rate at a reading's temperature: the closure's own contract. -/
theorem rateF_any (es : List (Rat × Int)) (b Bt : Nat) (ve : Value) (w : World) (hbx : Boxed w Bt 25 ve) (he : EntsOf IsRat w ve es) (hs : ∀ i, i < es.length → szR (es.getD i (0, 0)).1 274877906944) (hlen : es.length ≤ 1000000) :
  Calls Try.prog 55 #[.float .f32 b, .pointer (some ⟨Bt, 0, none⟩)] w (RetInt (rateUp es (tempQ b)) w) := by
 have hc := hbx.cell
 have hlt := hbx.lt
 have HE := Lib.hid he
 have HS := Lib.hid hs
 obtain ⟨ao, cap, rfl, _⟩ := he
 clear hs hbx
 have HT : Hid (szR (tempQ b) 274877906944) := by
  have := tempQ_szR b
  exact ⟨Nat.le_trans this.1 (by omega), Nat.le_trans this.2 (by omega)⟩
 go_enter Try.func55, Try.ntmps55
 go_wp2_with fail
 refine (exact_any b _).mono ?_
 rintro e w1 ⟨v, rfl, hv, hb1⟩
 obtain ⟨a1, c1, a2, c2, rfl, n1, n2⟩ := hv.opened
 have Hv := Lib.hid hv
 have hc1 := (hb1.cell (p := ⟨Bt, 0, none⟩) hlt).trans hc
 have hlt1 : Bt < w1.heap.size := Nat.lt_of_lt_of_le hlt hb1.size
 have hal := (Below.refl w1.heap.size w1).alloc (Nat.le_refl _) (.cells #[.bool (decide ((tempQ b).num < 0)), .slice a1 (dig b64 (tempQ b).num.natAbs).length c1, .slice a2 (dig b64 (dn (tempQ b).den)).length c2] 40)
 clear hv n1 n2 hc hlt
 go_wp2_with fail
 refine (rate_any es (tempQ b) _ _ _ (HE.out.below IsRat.belowAll (ext_trans hb1 hal)) (Hv.out.below hal) HS.out HT.out hlen).mono ?_
 rintro e w2 ⟨rfl, hb2⟩
 have hx := ext_trans (ext_trans hb1 hal) hb2
 go_wp2_with fail
 go_ret
 exact ⟨rfl, hx⟩

def RetSeq (es : List (Rat × Int)) (gap : Int) (ve vl : Value) (w : World) (e : Ending) (w' : World) : Prop :=
 e = .returned (.func (.func 56) #[] #[.pointer (some ⟨w.heap.size + 3, 0, none⟩), .pointer (some ⟨w.heap.size + 2, 0, none⟩), .pointer (some ⟨w.heap.size + 1, 0, none⟩), .pointer (some ⟨w.heap.size + 4, 0, none⟩)]) ∧
 w'.heap.size = w.heap.size + 5 ∧ Below w.heap.size w w' ∧
 Boxed w' w.heap.size 25 ve ∧ Boxed w' (w.heap.size + 1) 3 (.int .i64 gap) ∧ Boxed w' (w.heap.size + 2) 29 vl ∧ Boxed w' (w.heap.size + 3) 3 (.int .i64 (hotI es)) ∧
 Boxed w' (w.heap.size + 4) 123 (.func (.func 55) #[] #[.pointer (some ⟨w.heap.size, 0, none⟩)])

set_option maxHeartbeats 1000000 in
theorem stretches_any (es : List (Rat × Int)) (gap : Int) (ve vl : Value) (ls : List (Int × Nat)) (w : World) (he : EntsOf IsRat w ve es) (hl : LogOf w vl ls) (h0 : 0 < es.length) (h16 : es.length ≤ 16) :
  Calls Try.prog 42 #[ve, .int .i64 gap, vl] w (RetSeq es gap ve vl w) := by
 obtain ⟨aol, capl, rfl, _⟩ := hl
 obtain ⟨ao, cap, rfl, hE⟩ := he
 obtain ⟨be, offe, rfl, hble, hEE⟩ := hE h0
 obtain ⟨v0, vn, vd, _, _, _, hh, _⟩ := hEE (es.length - 1) (by omega)
 have hhot : (es.getD (es.length - 1) (0, 0)).2 = hotI es := rfl
 rw [hhot] at hh
 have e1 : (es.length : Int) - 1 = ((es.length - 1 : Nat) : Int) := by omega
 have e2 : ((es.length - 1 : Nat) : Int) < es.length := by omega
 generalize hP : es.length - 1 = P at *
 clear hP
 obtain ⟨A1, hA1⟩ : ∃ A1, A1 = w.alloc (.cells #[.slice (some ⟨be, offe, none⟩) es.length cap] 25) := ⟨_, rfl⟩
 obtain ⟨A2, hA2⟩ : ∃ A2, A2 = A1.alloc (.cells #[.int .i64 gap] 3) := ⟨_, rfl⟩
 obtain ⟨A3, hA3⟩ : ∃ A3, A3 = A2.alloc (.cells #[.slice aol ls.length capl] 29) := ⟨_, rfl⟩
 have s1 : A1.heap.size = w.heap.size + 1 := by rw [hA1]; simp
 have s2 : A2.heap.size = w.heap.size + 2 := by rw [hA2]; simp; omega
 have s3 : A3.heap.size = w.heap.size + 3 := by rw [hA3]; simp; omega
 have x1 : Below w.heap.size w A1 := by rw [hA1]; exact (Below.refl _ _).alloc (Nat.le_refl _) _
 have x2 : Below w.heap.size w A2 := by rw [hA2]; exact x1.alloc x1.size _
 have x3 : Below w.heap.size w A3 := by rw [hA3]; exact x2.alloc x2.size _
 have b1 : Boxed A1 w.heap.size 25 (.slice (some ⟨be, offe, none⟩) es.length cap) := by rw [hA1]; exact Boxed.new _ _ _
 have b2 : Boxed A2 (w.heap.size + 1) 3 (.int .i64 gap) := by rw [hA2, ← s1]; exact Boxed.new _ _ _
 have b3 : Boxed A3 (w.heap.size + 2) 29 (.slice aol ls.length capl) := by rw [hA3, ← s2]; exact Boxed.new _ _ _
 have b12 : Boxed A2 w.heap.size 25 (.slice (some ⟨be, offe, none⟩) es.length cap) := by rw [hA2]; exact b1.alloc _
 have b13 : Boxed A3 w.heap.size 25 (.slice (some ⟨be, offe, none⟩) es.length cap) := by rw [hA3]; exact b12.alloc _
 have b23 : Boxed A3 (w.heap.size + 1) 3 (.int .i64 gap) := by rw [hA3]; exact b2.alloc _
 have h3 : A3.cell? ⟨be, offe + P * 4 + 3, none⟩ = some (.int .i64 (hotI es)) := (x3.cell (p := ⟨be, _, none⟩) hble).trans hh
 have c13 := b13.cell
 clear hE hEE hhot b1 b2 b12 x1 x2
 rw [hA1] at hA2
 rw [hA2] at hA3
 have HA3 := Lib.hid hA3
 have S3 := Lib.hid s3
 clear hA1 hA2 hA3 s1 s2 s3 A1 A2
 go_enter Try.func42, Try.ntmps42
 go_wp2_with (rw [← HA3.out])
 have b4 := (Boxed.new A3 3 (.int .i64 (hotI es))).alloc (.cells #[.func (.func 55) #[] #[.pointer (some ⟨w.heap.size, 0, none⟩)]] 123)
 have b5 := Boxed.new (A3.alloc (.cells #[.int .i64 (hotI es)] 3)) 123 (.func (.func 55) #[] #[.pointer (some ⟨w.heap.size, 0, none⟩)])
 rw [World.size_alloc] at b5
 rw [S3.out] at b4 b5 ⊢
 go_ret
 exact ⟨rfl, by rw [World.size_alloc, World.size_alloc, S3.out], (x3.alloc x3.size _).alloc (Nat.le_trans x3.size (by simp)) _, (b13.alloc _).alloc _, (b23.alloc _).alloc _, (b3.alloc _).alloc _, b4, b5⟩

/-! ### The iterator -/

structure KeepCells (B : Nat) (W W' : World) : Prop where
 size : W.heap.size ≤ W'.heap.size
 same : ∀ (k : Nat) (o : Obj), k ≠ B → W.heap[k]? = some o → o.isCells = true → W'.heap[k]? = some o
def KpU (n B : Nat) (W W' : World) : Prop := Below n W W' ∧ KeepCells B W W'
theorem KpU.trans {n B : Nat} {X Y Z : World} (h : KpU n B X Y) (k : KpU n B Y Z) : KpU n B X Z :=
 ⟨h.1.trans k.1, Nat.le_trans h.2.size k.2.size, fun i o hB hi ho => k.2.same i o hB (h.2.same i o hB hi ho) ho⟩
theorem KpU.putObj {n B : Nat} {w : World} (hn : n ≤ w.heap.size) (W : World) (l : Nat) (o o' : Obj) (hl : w.heap.size ≤ l) (h : W.heap[l]? = some o) (hc : o.isCells = false) (hw : o.isWalk = false) : KpU n B W (W.putObj l o') :=
 ⟨belowK_b hn W l o o' hl h hc hw, by simp, fun k o2 _ hk ho => by
  by_cases e : k = l
  ·
   subst e; rw [h] at hk; cases hk; rw [hc] at ho; cases ho
  ·
   exact (World.putObj_heap_other e).trans hk⟩
theorem KpU.boxed {n B : Nat} {X Y : World} (h : KpU n B X Y) {b : Nat} {t : TypeId} {v : Value} (hb : Boxed X b t v) (hne : b ≠ B) : Boxed Y b t v := h.2.same b _ hne hb rfl
theorem KpU.blk {n B : Nat} {X Y : World} (h : KpU n B X Y) {b : Nat} {cs : Array Value} {t : TypeId} {fr : Nat × Nat} (hb : X.heap[b]? = some (.cells cs t fr)) (hne : b ≠ B) : Y.heap[b]? = some (.cells cs t fr) := h.2.same b _ hne hb rfl
theorem boxed_below {X Y : World} {b : Nat} {t : TypeId} {v : Value} (hb : Boxed X b t v) (h : Below X.heap.size X Y) : Boxed Y b t v := (h.block b hb.lt).trans hb

abbrev Str := { x : Int × Int × Int // 0 ≤ x.2.2 ∧ x.2.2 ≤ 1000 }
def encS (x : Str) : Array Value := #[.agg #[.int .i64 x.1.1, .int .i64 x.1.2.1], .int .i64 x.1.2.2]
def strI (es : List (Rat × Int)) (gap : Int) (ls : List (Int × Nat)) (i : Nat) : Int × Int × Int :=
 (if i = 0 then -9223372036854775808 else lastT ls i, if i < ls.length then (ls.getD i (0, 0)).1 else 9223372036854775807, if i < ls.length then rateI es gap ls i else hotI es)
theorem strI_range {es : List (Rat × Int)} {ls : List (Int × Nat)} {f t : Int} (h : GoodLog es ls f t) (gap : Int) (i : Nat) : 0 ≤ (strI es gap ls i).2.2 ∧ (strI es gap ls i).2.2 ≤ 1000 := by
 show 0 ≤ (if i < ls.length then rateI es gap ls i else hotI es) ∧ (if i < ls.length then rateI es gap ls i else hotI es) ≤ 1000
 split
 ·
  exact h.rate gap i
 ·
  exact h.hot
def strS {es : List (Rat × Int)} {ls : List (Int × Nat)} {f t : Int} (h : GoodLog es ls f t) (gap : Int) (i : Nat) : Str := ⟨strI es gap ls i, strI_range h gap i⟩
def strsTo {es : List (Rat × Int)} {ls : List (Int × Nat)} {f t : Int} (h : GoodLog es ls f t) (gap : Int) (k : Nat) : List Str := (List.range k).map (strS h gap)
theorem strsTo_succ {es : List (Rat × Int)} {ls : List (Int × Nat)} {f t : Int} (h : GoodLog es ls f t) (gap : Int) (k : Nat) : strsTo h gap (k + 1) = strsTo h gap k ++ [strS h gap k] := by simp [strsTo, List.range_succ]
theorem strsTo_length {es : List (Rat × Int)} {ls : List (Int × Nat)} {f t : Int} (h : GoodLog es ls f t) (gap : Int) (k : Nat) : (strsTo h gap k).length = k := by simp [strsTo]
def fromT (ls : List (Int × Nat)) (i : Nat) : Int := if i = 0 then -9223372036854775808 else lastT ls i
def beforeT (es : List (Rat × Int)) (ls : List (Int × Nat)) (i : Nat) : Int := if i = 0 then hotI es else rateUp es (tempQ (ls.getD (i - 1) (0, 0)).2)
theorem encS_round {es : List (Rat × Int)} {ls : List (Int × Nat)} {f t : Int} (h : GoodLog es ls f t) (gap : Int) (i : Nat) (hi : i < ls.length) :
  encS (strS h gap i) = #[.agg #[.int .i64 (fromT ls i), .int .i64 (ls.getD i (0, 0)).1], .int .i64 (rateI es gap ls i)] := by
 simp only [encS, strS, strI, fromT, if_pos hi]
theorem encS_last {es : List (Rat × Int)} {ls : List (Int × Nat)} {f t : Int} (h : GoodLog es ls f t) (gap : Int) :
  encS (strS h gap ls.length) = #[.agg #[.int .i64 (fromT ls ls.length), .int .i64 9223372036854775807], .int .i64 (hotI es)] := by
 simp only [encS, strS, strI, fromT, if_neg (Nat.lt_irrefl _)]

end Go.Proofs.Ytanmcbbnnjamoaa

namespace Go.Proofs.Ytanmcbbnnjamoaa
open Go.RowKit Go.Shelf

attribute [local go_sem] Oper.semAt_some

theorem keepA3 {n : Nat} {W a b : World} {A0 A1 A2 : Addr} {v0 v1 v2 : Value} (hn : n ≤ W.heap.size) (hb : Below a.heap.size a b)
  (h : Below n W a ∧ a.cell? A0 = some v0 ∧ a.cell? A1 = some v1 ∧ a.cell? A2 = some v2) :
  Below n W b ∧ b.cell? A0 = some v0 ∧ b.cell? A1 = some v1 ∧ b.cell? A2 = some v2 := by
 obtain ⟨h0, h1, h2, h3⟩ := h
 have e : ∀ A v, a.cell? A = some v → b.cell? A = some v := fun A v h => (hb.cell (World.block_lt_of_cell? (h := h))).trans h
 have hs := h0.size
 exact ⟨h0.trans (hb.mono (by omega)), e _ _ h1, e _ _ h2, e _ _ h3⟩
theorem below_join {w a b : World} (h : Below w.heap.size w a) (k : Below a.heap.size a b) : Below w.heap.size w b := ext_trans h k
theorem strsTo_prefix {es : List (Rat × Int)} {ls : List (Int × Nat)} {f t : Int} (h : GoodLog es ls f t) (gap : Int) {k m : Nat} (hk : k ≤ m) : strsTo h gap k <+: strsTo h gap m := by
 induction m with
 | zero =>
  have : k = 0 := by omega
  rw [this]
  exact List.prefix_refl _
 | succ m ih =>
  rcases Nat.lt_or_ge k (m + 1) with h1 | h1
  ·
   rw [strsTo_succ]
   exact (ih (by omega)).trans (List.prefix_append _ _)
  ·
   obtain rfl : k = m + 1 := by omega
   exact List.prefix_refl _

def IterPost (xs : List Str) (J Jx : List Str → World → Prop) (e : Ending) (W' : World) : Prop :=
 (∃ v, e = .returned v) ∧ ((∃ ys, ys = xs ∧ J ys W') ∨ (∃ pre, pre <+: xs ∧ Jx pre W'))

set_option maxRecDepth 100000 in
set_option maxHeartbeats 4000000 in
theorem iter_in (es : List (Rat × Int)) (gap : Int) (ls : List (Int × Nat)) (f t : Int) (hg : GoodLog es ls f t) (ve vl : Value) (w0 : World) (he : EntsOf IsRat w0 ve es) (hl : LogOf w0 vl ls)
  (hs : ∀ i, i < es.length → szR (es.getD i (0, 0)).1 274877906944) (B B1 B2 B3 B4 B5 l n : Nat) (hn : 1 ≤ n) (h1 : B1 ≠ B) (h2 : B2 ≠ B) (h3 : B3 ≠ B) (h4 : B4 ≠ B) (h5 : B5 ≠ B) (J Jx : List Str → World → Prop) (W : World) (hW : Below w0.heap.size w0 W)
  (hB : B < W.heap.size) (hlen : es.length ≤ 1000000) (hJa : AbidesFrom W.heap.size J)
  (hY : ∀ pre x W1, J pre W1 → pre.length < ls.length + 1 → YieldAt Fence.wide (n - 1) Try.prog l (encS x) W1 fun e W' =>
   (e = .returned (.bool true) ∧ J (pre ++ [x]) W' ∧ KpU w0.heap.size B W1 W') ∨ (e = .returned (.bool false) ∧ Jx (pre ++ [x]) W'))
  (b1 : Boxed W B1 3 (.int .i64 (hotI es))) (b2 : Boxed W B2 29 vl) (b3 : Boxed W B3 3 (.int .i64 gap)) (b4 : Boxed W B4 123 (.func (.func 55) #[] #[.pointer (some ⟨B5, 0, none⟩)])) (b5 : Boxed W B5 25 ve)
  (h0 : J [] W) :
  CallsIn Fence.wide n Try.prog 56 #[.func (.yield l) #[] #[], .pointer (some ⟨B1, 0, none⟩), .pointer (some ⟨B2, 0, none⟩), .pointer (some ⟨B3, 0, none⟩), .pointer (some ⟨B4, 0, none⟩)] W
   (IterPost (strsTo hg gap (ls.length + 1)) J Jx) := by
 have HY := Lib.hid hY
 have HG := Lib.hid hg
 have HJ := Lib.hid hJa
 have HE := Lib.hid he
 have HS := Lib.hid hs
 obtain ⟨aol, capl, rfl, hL⟩ := hl
 have HL := Lib.hid hL
 have c1 := b1.cell
 have c2 := b2.cell
 clear hY hJa he hs hL
 refine callsIn_of_wp Try.func56 rfl trivial ?_ rfl
 simp only [Try.ntmps56, List.size_toArray, List.length_cons, List.length_nil, Nat.reduceAdd, Nat.reduceSub, Array.replicate_succ, Array.replicate_zero, List.push_toArray, List.append_toArray, List.nil_append, List.cons_append]
 gi_wp2
 refine wpIn_wide.2 ?_
 go_region
 gi_wp2
 gi_loopw [6, 7, 14] (fun fv bv iv wr => ∃ (i : Nat), i ≤ ls.length ∧ iv = .int .i64 i ∧ fv = .int .i64 (fromT ls i) ∧ bv = .int .i64 (beforeT es ls i) ∧ J (strsTo hg gap i) wr ∧ Below w0.heap.size w0 wr ∧ W.heap.size ≤ wr.heap.size ∧
   Boxed wr B1 3 (.int .i64 (hotI es)) ∧ Boxed wr B2 29 (.slice aol ls.length capl) ∧ Boxed wr B3 3 (.int .i64 gap) ∧ Boxed wr B4 123 (.func (.func 55) #[] #[.pointer (some ⟨B5, 0, none⟩)]) ∧ Boxed wr B5 25 ve)
  (fun _ _ iv _ => ls.length - (intOf iv).toNat)
 case atStart => exact ⟨0, Nat.zero_le _, rfl, rfl, rfl, HJ.out _ _ _ none h0 (grownBy_below ((Below.refl _ _).drew) none) (fun r e => by cases e), hW.drew, Nat.le_refl _, b1, b2, b3, b4, b5⟩
 case round =>
  clear h0 b1 b2 b3 b4 b5 c1 c2 hW
  obtain ⟨i, hi, rfl, rfl, rfl, hJ, hbel, hsz, b1, b2, b3, b4, b5⟩ := hrel
  have c1 := b1.cell
  have c2 := b2.cell
  have c3 := b3.cell
  have c4 := b4.cell
  have l1 := b1.lt
  have l2 := b2.lt
  have l3 := b3.lt
  have l4 := b4.lt
  by_cases hlt : i < ls.length
  ·
   obtain ⟨b, off, rfl, hbl, hLL⟩ := HL.out (by omega)
   obtain ⟨g0, g1⟩ := (hLL i hlt).below hbel hbl
   have hbl2 : b < wr.heap.size := Nat.lt_of_lt_of_le hbl hbel.size
   have hlt' : (i : Int) < ls.length := by omega
   have hge' : (0 : Int) ≤ i := by omega
   have hLL' := Lib.hid hLL
   have HJ0 := Lib.hid hJ
   have hsf := run_store_f32
   have hneB : wr.heap.size ≠ B := by omega
   have hll := (log_ok HG.out.log).1
   have Henc := Lib.hid (encS_round HG.out gap i hlt)
   have hrI : Hid (rateI es gap ls i = if 0 < i ∧ (ls.getD i (0, 0)).1 - (ls.getD (i - 1) (0, 0)).1 ≤ gap then max (rateUp es (tempQ (ls.getD (i - 1) (0, 0)).2)) (rateUp es (tempQ (ls.getD i (0, 0)).2)) else hotI es) := rfl
   have Hfr : Hid (fromT ls (i + 1) = (ls.getD i (0, 0)).1) := by show fromT ls (i + 1) = _; unfold fromT lastT; rw [if_neg (by omega), if_neg (by omega)]; rfl
   have Hbe : Hid (beforeT es ls (i + 1) = rateUp es (tempQ (ls.getD i (0, 0)).2)) := by show beforeT es ls (i + 1) = _; unfold beforeT; rw [if_neg (by omega)]; rfl
   have hrg := (log_ok HG.out.log).2 i hlt
   generalize (ls.getD i (0, 0)).1 = ty at *
   generalize (ls.getD i (0, 0)).2 = bt at *
   clear hLL hJ
   have hN := blk_new wr #[.int .i64 ty, .float .f32 bt] 36
   have hal := (Below.refl wr.heap.size wr).alloc (Nat.le_refl _) (.cells #[.int .i64 ty, .float .f32 bt] 36)
   have s0 : (wr.alloc (.cells #[.int .i64 ty, .float .f32 bt] 36)).drew.cell? ⟨wr.heap.size, 0, none⟩ = some (.int .i64 ty) := blk_cell hN 0 _ rfl
   have s1 : (wr.alloc (.cells #[.int .i64 ty, .float .f32 bt] 36)).drew.cell? ⟨wr.heap.size, 1, none⟩ = some (.float .f32 bt) := blk_cell hN 1 _ rfl
   have hNd : (wr.alloc (.cells #[.int .i64 ty, .float .f32 bt] 36)).drew.heap[wr.heap.size]? = some (.cells #[.int .i64 ty, .float .f32 bt] 36 (0, 0)) := hN
   have hald := hal.drew
   by_cases hcase : 0 < i ∧ ty - (ls.getD (i - 1) (0, 0)).1 ≤ gap
   ·
    obtain ⟨hi0, hle⟩ := hcase
    have ti : decide (0 < i) = true := by simp [hi0]
    obtain ⟨j, hj⟩ : ∃ j, i = j + 1 := ⟨i - 1, by omega⟩
    have e3 : i - 1 = j := by omega
    have HR0 : Hid (rateI es gap ls i = max (beforeT es ls i) (rateUp es (tempQ bt))) := by
     show _ = _
     rw [hrI.out, if_pos ⟨hi0, hle⟩]
     unfold beforeT
     rw [if_neg (by omega)]
    have hrgj := (log_ok HG.out.log).2 j (by omega)
    rw [e3] at hle
    have hws : IntKind.i64.wrap (ty - (ls.getD j (0, 0)).1) = ty - (ls.getD j (0, 0)).1 := IntWalk.i64_in _ (by omega)
    have hc : decide (ty - (ls.getD j (0, 0)).1 ≤ gap) = true := decide_eq_true hle
    have e1' : IntKind.i64.wrap ((i : Int) - 1) = (j : Int) := by rw [show (i : Int) - 1 = (j : Int) by omega]; exact IntWalk.i64_in _ (by omega)
    have hj2 : (j : Int) < ls.length := by omega
    have hj0 : (0 : Int) ≤ j := by omega
    obtain ⟨k0, _⟩ := (hLL'.out j (by omega)).below hbel hbl
    generalize (ls.getD j (0, 0)).1 = tj at *
    clear hi0 hj e3 hrI hle hrgj
    gi_wp2
    refine wpIn_wide.2 ?_
    go_region_held3 (fun w' => Below wr.heap.size wr w' ∧ w'.cell? ⟨wr.heap.size, 0, none⟩ = some (.int .i64 ty) ∧ w'.cell? ⟨B2, 0, none⟩ = some (.slice (some ⟨b, off, none⟩) ls.length capl) ∧ w'.cell? ⟨b, off + j * 2, none⟩ = some (.int .i64 tj) ∧ w'.cell? ⟨B3, 0, none⟩ = some (.int .i64 gap))
     (first | exact ⟨hal.drew, s0, (hal.cell (p := ⟨B2, 0, none⟩) l2).trans c2, (hal.cell (p := ⟨b, _, none⟩) hbl2).trans k0, (hal.cell (p := ⟨B3, 0, none⟩) l3).trans c3⟩)
     (first | skip)
    rename_i hS2
    clear hS2 k0 hws hc e1' hj0 hj2

    obtain ⟨wA, hwA⟩ : ∃ wA, wA = (wr.alloc (.cells #[.int .i64 ty, .float .f32 bt] 36)).drew := ⟨_, rfl⟩
    rw [← hwA] at hNd hald s0 s1 ⊢
    have c4A := (hald.cell (p := ⟨B4, 0, none⟩) l4).trans c4
    clear hwA hN hal c1 c2 c3 c4

    gi_wp2
    refine ⟨trivial, ?_⟩
    refine (callsIn_wide.2 (rateF_any es bt B5 ve _ (boxed_below b5 hald) (HE.out.below IsRat.belowAll (below_join hbel hald)) HS.out hlen)).mono ?_
    rintro e wY ⟨rfl, hbY⟩
    have hxY := hald.trans (hbY.mono hald.size)
    have NY := blk_keep hNd hbY (blk_lt hNd)

    have hJY := HJ.out _ _ wY none HJ0.out (grownBy_below hxY none) (fun r e => by cases e)
    replace b1 := boxed_below b1 hxY
    replace b2 := boxed_below b2 hxY
    replace b3 := boxed_below b3 hxY
    replace b4 := boxed_below b4 hxY
    replace b5 := boxed_below b5 hxY
    replace hbel := below_join hbel hxY
    replace hsz := Nat.le_trans hsz hxY.size
    obtain ⟨fn, tmps, assign, body, hy, hR⟩ := HY.out _ (strS hg gap i) wY hJY (by rw [strsTo_length]; omega)

    rw [Henc.out, HR0.out] at hy
    have cY := blk_cell NY 0 (.int .i64 ty) rfl
    clear c4A s0 s1 hNd hald hbY hxY hJY
    gi_wp2

    refine hR.mono ?_
    rintro e W3 (⟨rfl, hJ3, hk3⟩ | ⟨rfl, hJx3⟩)
    ·
     have hN3 := hk3.blk NY hneB
     have b13 := hk3.boxed b1 h1
     have b23 := hk3.boxed b2 h2
     have b33 := hk3.boxed b3 h3
     have b43 := hk3.boxed b4 h4
     have b53 := hk3.boxed b5 h5
     have hbel3 := hbel.trans hk3.1
     have hsz3 := Nat.le_trans hsz hk3.2.size
     have t0 := blk_cell hN3 0 (.int .i64 ty) rfl
     have t1 := blk_cell hN3 1 (.float .f32 bt) rfl
     have t4 := b43.cell
     have hNl := blk_lt hN3
     have HJ3 := Lib.hid hJ3
     clear hk3 hR hJ3 hN3 NY b1 b2 b3 b4 b5 hbel hsz hy
     gi_wp2
     refine wpIn_wide.2 ?_
     go_region_held3 (fun w' => Below W3.heap.size W3 w' ∧ w'.cell? ⟨wr.heap.size, 0, none⟩ = some (.int .i64 ty) ∧ w'.cell? ⟨wr.heap.size, 1, none⟩ = some (.float .f32 bt) ∧ w'.cell? ⟨B4, 0, none⟩ = some (.func (.func 55) #[] #[.pointer (some ⟨B5, 0, none⟩)]))
      (first | exact ⟨(Below.refl _ _).drew, t0, t1, t4⟩ | assumption | (refine keepA3 (Nat.le_refl _) hbB ?_; assumption))
      (first | (go_at_call 55; refine (rateF_any es bt B5 ve _ (boxed_below b53 (And.left (by assumption))) (HE.out.below IsRat.belowAll (below_join hbel3 (And.left (by assumption)))) HS.out hlen).mono ?_; rintro e wB ⟨rfl, hbB⟩))
     rename_i hS2
     have hx := hS2.1
     clear hS2 hbB t0 t1 t4
     gi_wp2
     exact ⟨⟨i + 1, by omega, by go_num, by rw [Hfr.out], by rw [Hbe.out], by rw [strsTo_succ]; exact HJ.out _ _ _ none HJ3.out (grownBy_below hx none) (fun r e => by cases e), below_join hbel3 hx, Nat.le_trans hsz3 hx.size, boxed_below b13 hx, boxed_below b23 hx, boxed_below b33 hx, boxed_below b43 hx, boxed_below b53 hx⟩, meas_up hlt⟩
    ·
     gi_wp2
     refine bodyPost_ret (results_none rfl _ _ _) rfl ?_
     exact ⟨⟨_, rfl⟩, .inr ⟨strsTo hg gap i ++ [strS hg gap i], by rw [← strsTo_succ]; exact strsTo_prefix hg gap (by omega), hJx3⟩⟩
   ·
    have HR0 : Hid (rateI es gap ls i = hotI es) := by
     show _ = _
     rw [hrI.out, if_neg hcase]

    rcases Nat.eq_zero_or_pos i with hi0 | hi0
    ·
     have ti : decide (0 < i) = false := by simp [hi0]
     clear hi0 hcase hrI
     gi_wp2
     refine wpIn_wide.2 ?_
     go_region

     obtain ⟨wY, hwY⟩ : ∃ wY, wY = (wr.alloc (.cells #[.int .i64 ty, .float .f32 bt] 36)).drew := ⟨_, rfl⟩
     rw [← hwY] at hNd hald s0 s1 ⊢
     have NY := hNd
     clear hwY hN hal c1 c2 c3 c4

     have hJY := HJ.out _ _ wY none HJ0.out (grownBy_below hald none) (fun r e => by cases e)
     replace b1 := boxed_below b1 hald
     replace b2 := boxed_below b2 hald
     replace b3 := boxed_below b3 hald
     replace b4 := boxed_below b4 hald
     replace b5 := boxed_below b5 hald
     replace hbel := below_join hbel hald
     replace hsz := Nat.le_trans hsz hald.size
     obtain ⟨fn, tmps, assign, body, hy, hR⟩ := HY.out _ (strS hg gap i) wY hJY (by rw [strsTo_length]; omega)

     rw [Henc.out, HR0.out] at hy
     have cY := blk_cell NY 0 (.int .i64 ty) rfl
     clear s0 s1 hNd hald hJY
     gi_wp2

     refine hR.mono ?_
     rintro e W3 (⟨rfl, hJ3, hk3⟩ | ⟨rfl, hJx3⟩)
     ·
      have hN3 := hk3.blk NY hneB
      have b13 := hk3.boxed b1 h1
      have b23 := hk3.boxed b2 h2
      have b33 := hk3.boxed b3 h3
      have b43 := hk3.boxed b4 h4
      have b53 := hk3.boxed b5 h5
      have hbel3 := hbel.trans hk3.1
      have hsz3 := Nat.le_trans hsz hk3.2.size
      have t0 := blk_cell hN3 0 (.int .i64 ty) rfl
      have t1 := blk_cell hN3 1 (.float .f32 bt) rfl
      have t4 := b43.cell
      have hNl := blk_lt hN3
      have HJ3 := Lib.hid hJ3
      clear hk3 hR hJ3 hN3 NY b1 b2 b3 b4 b5 hbel hsz hy
      gi_wp2
      refine wpIn_wide.2 ?_
      go_region_held3 (fun w' => Below W3.heap.size W3 w' ∧ w'.cell? ⟨wr.heap.size, 0, none⟩ = some (.int .i64 ty) ∧ w'.cell? ⟨wr.heap.size, 1, none⟩ = some (.float .f32 bt) ∧ w'.cell? ⟨B4, 0, none⟩ = some (.func (.func 55) #[] #[.pointer (some ⟨B5, 0, none⟩)]))
       (first | exact ⟨(Below.refl _ _).drew, t0, t1, t4⟩ | assumption | (refine keepA3 (Nat.le_refl _) hbB ?_; assumption))
       (first | (go_at_call 55; refine (rateF_any es bt B5 ve _ (boxed_below b53 (And.left (by assumption))) (HE.out.below IsRat.belowAll (below_join hbel3 (And.left (by assumption)))) HS.out hlen).mono ?_; rintro e wB ⟨rfl, hbB⟩))
      rename_i hS2
      have hx := hS2.1
      clear hS2 hbB t0 t1 t4
      gi_wp2
      exact ⟨⟨i + 1, by omega, by go_num, by rw [Hfr.out], by rw [Hbe.out], by rw [strsTo_succ]; exact HJ.out _ _ _ none HJ3.out (grownBy_below hx none) (fun r e => by cases e), below_join hbel3 hx, Nat.le_trans hsz3 hx.size, boxed_below b13 hx, boxed_below b23 hx, boxed_below b33 hx, boxed_below b43 hx, boxed_below b53 hx⟩, meas_up hlt⟩
     ·
      gi_wp2
      refine bodyPost_ret (results_none rfl _ _ _) rfl ?_
      exact ⟨⟨_, rfl⟩, .inr ⟨strsTo hg gap i ++ [strS hg gap i], by rw [← strsTo_succ]; exact strsTo_prefix hg gap (by omega), hJx3⟩⟩
    ·
     have ti : decide (0 < i) = true := by simp [hi0]
     obtain ⟨j, hj⟩ : ∃ j, i = j + 1 := ⟨i - 1, by omega⟩
     have e3 : i - 1 = j := by omega
     have hrgj := (log_ok HG.out.log).2 j (by omega)
     rw [e3] at hcase
     have hws : IntKind.i64.wrap (ty - (ls.getD j (0, 0)).1) = ty - (ls.getD j (0, 0)).1 := IntWalk.i64_in _ (by omega)
     have hc : decide (ty - (ls.getD j (0, 0)).1 ≤ gap) = false := decide_eq_false (fun h => hcase ⟨hi0, h⟩)
     have e1' : IntKind.i64.wrap ((i : Int) - 1) = (j : Int) := by rw [show (i : Int) - 1 = (j : Int) by omega]; exact IntWalk.i64_in _ (by omega)
     have hj2 : (j : Int) < ls.length := by omega
     have hj0 : (0 : Int) ≤ j := by omega
     obtain ⟨k0, _⟩ := (hLL'.out j (by omega)).below hbel hbl
     generalize (ls.getD j (0, 0)).1 = tj at *
     clear hi0 hj e3 hrI hcase hrgj
     gi_wp2
     refine wpIn_wide.2 ?_
     go_region_held3 (fun w' => Below wr.heap.size wr w' ∧ w'.cell? ⟨wr.heap.size, 0, none⟩ = some (.int .i64 ty) ∧ w'.cell? ⟨B2, 0, none⟩ = some (.slice (some ⟨b, off, none⟩) ls.length capl) ∧ w'.cell? ⟨b, off + j * 2, none⟩ = some (.int .i64 tj) ∧ w'.cell? ⟨B3, 0, none⟩ = some (.int .i64 gap))
      (first | exact ⟨hal.drew, s0, (hal.cell (p := ⟨B2, 0, none⟩) l2).trans c2, (hal.cell (p := ⟨b, _, none⟩) hbl2).trans k0, (hal.cell (p := ⟨B3, 0, none⟩) l3).trans c3⟩)
      (first | skip)
     rename_i hS2
     clear hS2 k0 hws hc e1' hj0 hj2

     obtain ⟨wY, hwY⟩ : ∃ wY, wY = (wr.alloc (.cells #[.int .i64 ty, .float .f32 bt] 36)).drew := ⟨_, rfl⟩
     rw [← hwY] at hNd hald s0 s1 ⊢
     have NY := hNd
     clear hwY hN hal c1 c2 c3 c4

     have hJY := HJ.out _ _ wY none HJ0.out (grownBy_below hald none) (fun r e => by cases e)
     replace b1 := boxed_below b1 hald
     replace b2 := boxed_below b2 hald
     replace b3 := boxed_below b3 hald
     replace b4 := boxed_below b4 hald
     replace b5 := boxed_below b5 hald
     replace hbel := below_join hbel hald
     replace hsz := Nat.le_trans hsz hald.size
     obtain ⟨fn, tmps, assign, body, hy, hR⟩ := HY.out _ (strS hg gap i) wY hJY (by rw [strsTo_length]; omega)

     rw [Henc.out, HR0.out] at hy
     have cY := blk_cell NY 0 (.int .i64 ty) rfl
     clear s0 s1 hNd hald hJY
     gi_wp2

     refine hR.mono ?_
     rintro e W3 (⟨rfl, hJ3, hk3⟩ | ⟨rfl, hJx3⟩)
     ·
      have hN3 := hk3.blk NY hneB
      have b13 := hk3.boxed b1 h1
      have b23 := hk3.boxed b2 h2
      have b33 := hk3.boxed b3 h3
      have b43 := hk3.boxed b4 h4
      have b53 := hk3.boxed b5 h5
      have hbel3 := hbel.trans hk3.1
      have hsz3 := Nat.le_trans hsz hk3.2.size
      have t0 := blk_cell hN3 0 (.int .i64 ty) rfl
      have t1 := blk_cell hN3 1 (.float .f32 bt) rfl
      have t4 := b43.cell
      have hNl := blk_lt hN3
      have HJ3 := Lib.hid hJ3
      clear hk3 hR hJ3 hN3 NY b1 b2 b3 b4 b5 hbel hsz hy
      gi_wp2
      refine wpIn_wide.2 ?_
      go_region_held3 (fun w' => Below W3.heap.size W3 w' ∧ w'.cell? ⟨wr.heap.size, 0, none⟩ = some (.int .i64 ty) ∧ w'.cell? ⟨wr.heap.size, 1, none⟩ = some (.float .f32 bt) ∧ w'.cell? ⟨B4, 0, none⟩ = some (.func (.func 55) #[] #[.pointer (some ⟨B5, 0, none⟩)]))
       (first | exact ⟨(Below.refl _ _).drew, t0, t1, t4⟩ | assumption | (refine keepA3 (Nat.le_refl _) hbB ?_; assumption))
       (first | (go_at_call 55; refine (rateF_any es bt B5 ve _ (boxed_below b53 (And.left (by assumption))) (HE.out.below IsRat.belowAll (below_join hbel3 (And.left (by assumption)))) HS.out hlen).mono ?_; rintro e wB ⟨rfl, hbB⟩))
      rename_i hS2
      have hx := hS2.1
      clear hS2 hbB t0 t1 t4
      gi_wp2
      exact ⟨⟨i + 1, by omega, by go_num, by rw [Hfr.out], by rw [Hbe.out], by rw [strsTo_succ]; exact HJ.out _ _ _ none HJ3.out (grownBy_below hx none) (fun r e => by cases e), below_join hbel3 hx, Nat.le_trans hsz3 hx.size, boxed_below b13 hx, boxed_below b23 hx, boxed_below b33 hx, boxed_below b43 hx, boxed_below b53 hx⟩, meas_up hlt⟩
     ·
      gi_wp2
      refine bodyPost_ret (results_none rfl _ _ _) rfl ?_
      exact ⟨⟨_, rfl⟩, .inr ⟨strsTo hg gap i ++ [strS hg gap i], by rw [← strsTo_succ]; exact strsTo_prefix hg gap (by omega), hJx3⟩⟩
  ·
   obtain rfl : i = ls.length := by omega
   obtain ⟨fn, tmps, assign, body, hy, hR⟩ := HY.out _ (strS hg gap ls.length) wr hJ (by rw [strsTo_length]; omega)
   rw [encS_last] at hy
   have HR := Lib.hid hR
   clear hR
   gi_wp2
   refine HR.out.mono ?_
   rintro e W3 (⟨rfl, hJ3, hk3⟩ | ⟨rfl, hJx3⟩)
   ·
    gi_wp2
    go_end0
    exact ⟨⟨_, rfl⟩, .inl ⟨_, by rw [strsTo_succ], hJ3⟩⟩
   ·
    gi_wp2
    go_end0
    exact ⟨⟨_, rfl⟩, .inr ⟨_, by rw [← strsTo_succ]; exact List.prefix_refl _, hJx3⟩⟩

end Go.Proofs.Ytanmcbbnnjamoaa

namespace Go.Proofs.Ytanmcbbnnjamoaa
open Go.RowKit
section
variable {F : Fence} {n : Nat} {P : Program} {ops : Array Oper} {md : Region.Mode} {C : World → Prop}

theorem wpIn_of_quiet_round {o : Oper} (hnd : ∀ c, o.op ≠ .defer c) {a : Act} {K : Act → Prop} {K' : Act → World → Prop} {Q' : Exit → Act → World → Prop} {w : World} (hw : C w) (h : ∀ a w', C w' → K a → K' a w')
  (ha : o.askedIn F P a C) (hh : o.quietIn F n P a C K) : o.wpIn F n P a w K' Q' := by
 obtain ⟨v, h1, h2⟩ := hh
 have h3 := h1 w hw
 unfold Oper.quietAtIn at h3
 unfold Oper.wpIn
 refine ⟨ha w hw, ?_⟩
 rw [Oper.semAt_eq _ _ _ hnd]
 generalize (execOp a.eval o).run P w = r at *
 cases r with
 | ok x w' =>
  cases x <;> simp only [Oper.quietUponIn] at h3 <;> simp only [Oper.uponIn]
  case value u =>
   obtain ⟨e1, e2⟩ := h3
   rw [e1, e2]
   exact h _ _ hw h2
  case skip =>
   obtain ⟨e1, e2⟩ := h3
   rw [e1, ← e2]
   exact h _ _ hw h2
  case enter f args =>
   obtain ⟨e1, hd, hc⟩ := h3
   rw [e1]
   exact ⟨hd, hc.mono fun e w'' ⟨he, hw''⟩ => by subst he; exact h _ _ hw'' h2⟩
 | halt x w' => simp only [Oper.quietUponIn] at h3

theorem wpOpIn_of_qOpIn_round (hnd : ∀ (i : Nat) (o : Oper), ops[i]? = some o → ∀ c, o.op ≠ .defer c) {i : Nat} {a : Act} {K : Act → Prop} {K' : Act → World → Prop} {Q' : Exit → Act → World → Prop} {w : World} (hC : C w) (h : ∀ a w', C w' → K a → K' a w')
  (hh : qOpIn F n P ops C i K a) : wpOpIn F n P ops Q' i K' a w := by
 unfold qOpIn at hh
 unfold wpOpIn
 split
 ·
  rename_i ho; simp only [ho] at hh; exact h _ _ hC hh
 ·
  rename_i o ho
  simp only [ho] at hh
  obtain ⟨ha, hh⟩ := hh
  split
  ·
   rename_i hw; simp only [hw, if_true] at hh; exact wpIn_of_quiet_round (hnd i o ho) hC h ha hh
  ·
   rename_i hw; simp only [hw] at hh; exact ⟨ha w hC, h _ _ hC hh⟩

theorem wpAnyIn_of_quiet_round (hnd : ∀ (i : Nat) (o : Oper), ops[i]? = some o → ∀ c, o.op ≠ .defer c) {Q : Act → Prop} {Q' : Exit → Act → World → Prop} (hQ : ∀ a w, C w → Q a → Q' .normal a w) : ∀ (fuel : Nat) (listed : Array Bool) (a : Act) (w : World), C w →
  wpAnyQIn F n P md ops C Q fuel listed a → wpAnyIn F n P md ops Q' fuel listed a w
 | 0, _, _, _, hw, h => ⟨h.1, hQ _ _ hw h.2⟩
 | fuel + 1, _, _, _, hw, h => ⟨fun h0 => hQ _ _ hw (h.1 h0), fun i hi => wpOpIn_of_qOpIn_round hnd hw (fun a' w' hw' => wpAnyIn_of_quiet_round hnd hQ fuel _ a' w' hw') (h.2 i hi)⟩

def noDefer : List Oper → Bool
 | [] => true
 | o :: l => (match o.op with | .defer _ => false | _ => true) && noDefer l
theorem noDefer_spec {l : List Oper} (h : noDefer l = true) : ∀ (i : Nat) (o : Oper), l.toArray[i]? = some o → ∀ c, o.op ≠ .defer c := by
 intro i o ho c hc
 have hm : o ∈ l := List.mem_of_getElem? (by simpa using ho)
 clear ho
 induction l with
 | nil => cases hm
 | cons x l ih =>
  simp only [noDefer, Bool.and_eq_true] at h
  rcases List.mem_cons.1 hm with rfl | hm
  ·
   have := h.1
   rw [hc] at this
   cases this
  ·
   exact ih h.2 hm

theorem wpIn_region_quiet_round {id : Nat} {Q : Exit → Act → World → Prop} {a : Act} {w : World} {l : List Oper} (hnd : noDefer l = true) (hm : P.follows .mixedOrders = true) (hB : Region.lexB .any l.toArray = true)
  (h : wpQuietIn F n P l.toArray (fun w' => ∃ n, w' = w.drewN n) (fun a' => ∀ w', (∃ n, w' = w.drewN n) → Q .normal a' w') l a) : (Code.region id l.toArray true).wpIn F n P Q a w := by
 simp only [Region.lexB, Bool.and_eq_true] at hB
 refine wpIn_region_any hm (wpAnyIn_of_quiet_round (C := fun w' => ∃ n, w' = w.drewN n) (noDefer_spec hnd) (Q := fun a' => ∀ w', (∃ n, w' = w.drewN n) → Q .normal a' w') (fun _ w' hw' h => h w' hw') _ _ _ _ ⟨1, rfl⟩ ?_)
 have := wpAnyQIn_lex (F := F) (n := n) (C := fun w' => ∃ n, w' = w.drewN n) (md := .any) hB.1 l 0 (Array.replicate l.toArray.size false) a (by simp) (by simpa using hB.2) h
 simpa using this
end
end Go.Proofs.Ytanmcbbnnjamoaa

namespace Go.Proofs.Ytanmcbbnnjamoaa
open Go.RowKit Go.Shelf

attribute [local go_sem] Oper.semAt_some

theorem iter_stops (es : List (Rat × Int)) (gap : Int) (ls : List (Int × Nat)) (f t : Int) (hg : GoodLog es ls f t) (ve vl : Value) (w0 : World) (he : EntsOf IsRat w0 ve es) (hl : LogOf w0 vl ls)
  (hs : ∀ i, i < es.length → szR (es.getD i (0, 0)).1 274877906944) (B B1 B2 B3 B4 B5 n : Nat) (hn : 1 ≤ n) (h1 : B1 ≠ B) (h2 : B2 ≠ B) (h3 : B3 ≠ B) (h4 : B4 ≠ B) (h5 : B5 ≠ B) (W1 : World) (hW : Below w0.heap.size w0 W1)
  (hB : B < W1.heap.size) (hlen : es.length ≤ 1000000)
  (b1 : Boxed W1 B1 3 (.int .i64 (hotI es))) (b2 : Boxed W1 B2 29 vl) (b3 : Boxed W1 B3 3 (.int .i64 gap)) (b4 : Boxed W1 B4 123 (.func (.func 55) #[] #[.pointer (some ⟨B5, 0, none⟩)])) (b5 : Boxed W1 B5 25 ve) :
  SeqStopsK Fence.wide n Try.prog 56 #[.pointer (some ⟨B1, 0, none⟩), .pointer (some ⟨B2, 0, none⟩), .pointer (some ⟨B3, 0, none⟩), .pointer (some ⟨B4, 0, none⟩)] encS (KpU w0.heap.size B) (fun ys => ys = strsTo hg gap (ls.length + 1)) (fun pre => pre <+: strsTo hg gap (ls.length + 1)) (ls.length + 1) W1 :=
 fun l J Jx W hW1 hJ _ hY h0 =>
  iter_in es gap ls f t hg ve vl w0 he hl hs B B1 B2 B3 B4 B5 l n hn h1 h2 h3 h4 h5 J Jx W (below_join hW hW1) (Nat.lt_of_lt_of_le hB hW1.size) hlen hJ hY (boxed_below b1 hW1) (boxed_below b2 hW1) (boxed_below b3 hW1) (boxed_below b4 hW1) (boxed_below b5 hW1) h0

def addI (f t : Int) (x : Str) : Int := if max x.1.1 f < min x.1.2.1 t then (min x.1.2.1 t - max x.1.1 f) * x.1.2.2 else 0
def sumI (f t : Int) (xs : List Str) : Int := xs.foldl (fun s x => s + addI f t x) 0
theorem sumI_snoc (f t : Int) (xs : List Str) (x : Str) : sumI f t (xs ++ [x]) = sumI f t xs + addI f t x := by simp [sumI]
theorem addI_range {f t : Int} (hf : 0 ≤ f) (ht : t ≤ 1073741824) (x : Str) : 0 ≤ addI f t x ∧ addI f t x ≤ 1073741824000 := by
 unfold addI
 split
 ·
  have := mul_range x.2.1 x.2.2 (show 0 ≤ min x.1.2.1 t - max x.1.1 f by omega) (show min x.1.2.1 t - max x.1.1 f ≤ 1073741824 by omega)
  rw [Int.mul_comm]
  exact this
 ·
  omega
theorem sumI_foldl {f t : Int} (hf : 0 ≤ f) (ht : t ≤ 1073741824) (xs : List Str) (s : Int) : s ≤ xs.foldl (fun s x => s + addI f t x) s ∧ xs.foldl (fun s x => s + addI f t x) s ≤ s + 1073741824000 * xs.length := by
 induction xs generalizing s with
 | nil => simp
 | cons x xs ih =>
  have := ih (s + addI f t x)
  have := addI_range hf ht x
  simp only [List.foldl_cons, List.length_cons]
  omega
theorem sumI_range {f t : Int} (hf : 0 ≤ f) (ht : t ≤ 1073741824) (xs : List Str) : 0 ≤ sumI f t xs ∧ sumI f t xs ≤ 1073741824000 * xs.length := by
 have := sumI_foldl hf ht xs 0
 unfold sumI
 omega

theorem KeepCells.alloc (B : Nat) (W : World) (o : Obj) : KeepCells B W (W.alloc o) :=
 ⟨by simp, fun k o2 _ hk _ => (Below.heap_alloc W o k (Array.getElem?_eq_some_iff.1 hk).1).trans hk⟩
theorem KeepCells.set (B : Nat) (W : World) (v : Value) : KeepCells B W (W.setCell ⟨B, 0, none⟩ v) :=
 ⟨by simp, fun k o2 hB hk _ => (Below.heap_setCell W _ v k hB).trans hk⟩
theorem keepsN (B : Nat) (W : World) (n : Nat) : KeepsFrom B W (W.drewN n) := ⟨Nat.le_refl _, fun k o _ hk _ => hk⟩
theorem KeepCells.drewN (B : Nat) (W : World) (n : Nat) : KeepCells B W (W.drewN n) := ⟨Nat.le_refl _, fun k o2 _ hk _ => hk⟩
theorem KeepCells.setN (B : Nat) (W : World) (n : Nat) (v : Value) : KeepCells B W ((W.drewN n).setCell ⟨B, 0, none⟩ v) := ⟨(KeepCells.set B (W.drewN n) v).size, fun k o2 hB hk ho => (KeepCells.set B (W.drewN n) v).same k o2 hB hk ho⟩

set_option maxRecDepth 100000 in
set_option maxHeartbeats 4000000 in
theorem used_any (es : List (Rat × Int)) (gap : Int) (ls : List (Int × Nat)) (f t : Int) (hg : GoodLog es ls f t) (ve vl : Value) (w : World) (he : EntsOf IsRat w ve es) (hl : LogOf w vl ls)
  (hs : ∀ i, i < es.length → szR (es.getD i (0, 0)).1 274877906944) :
  Calls Try.prog 22 #[ve, .int .i64 gap, vl, .int .i64 f, .int .i64 t] w (RetInt (sumI f t (strsTo hg gap (ls.length + 1))) w) := by
 have HG := Lib.hid hg
 obtain ⟨h0, h16, _⟩ := tab_ok hg.tab
 have HE := Lib.hid he
 have HL := Lib.hid hl
 have HS := Lib.hid hs
 obtain ⟨aol, capl, rfl, _⟩ := hl
 obtain ⟨ao, cap, rfl, _⟩ := he
 clear hs
 obtain ⟨A1, hA1⟩ : ∃ A1, A1 = w.alloc (.cells #[.int .i64 f] 3) := ⟨_, rfl⟩
 obtain ⟨A2, hA2⟩ : ∃ A2, A2 = A1.alloc (.cells #[.int .i64 t] 3) := ⟨_, rfl⟩
 obtain ⟨A3, hA3⟩ : ∃ A3, A3 = A2.alloc (.cells #[.int .i64 0] 3) := ⟨_, rfl⟩
 have s1 : A1.heap.size = w.heap.size + 1 := by rw [hA1]; simp
 have s2 : A2.heap.size = w.heap.size + 2 := by rw [hA2]; simp; omega
 have s3 : A3.heap.size = w.heap.size + 3 := by rw [hA3]; simp; omega
 have x1 : Below w.heap.size w A1 := by rw [hA1]; exact (Below.refl _ _).alloc (Nat.le_refl _) _
 have x2 : Below w.heap.size w A2 := by rw [hA2]; exact x1.alloc x1.size _
 have x3 : Below w.heap.size w A3 := by rw [hA3]; exact x2.alloc x2.size _
 have b1 : Boxed A1 w.heap.size 3 (.int .i64 f) := by rw [hA1]; exact Boxed.new _ _ _
 have b2 : Boxed A2 (w.heap.size + 1) 3 (.int .i64 t) := by rw [hA2, ← s1]; exact Boxed.new _ _ _
 have b3 : Boxed A3 (w.heap.size + 2) 3 (.int .i64 0) := by rw [hA3, ← s2]; exact Boxed.new _ _ _
 have b12 : Boxed A2 w.heap.size 3 (.int .i64 f) := by rw [hA2]; exact b1.alloc _
 have b13 : Boxed A3 w.heap.size 3 (.int .i64 f) := by rw [hA3]; exact b12.alloc _
 have b23 : Boxed A3 (w.heap.size + 1) 3 (.int .i64 t) := by rw [hA3]; exact b2.alloc _
 clear b1 b2 b12 x1 x2
 rw [hA1] at hA2
 rw [hA2] at hA3
 have HA3 := Lib.hid hA3
 have S3 := Lib.hid s3
 clear hA1 hA2 hA3 s1 s2 s3 A1 A2
 refine (callsIn_wide (n := 3)).1 ?_
 refine callsIn_of_wp_marks Try.func22 rfl trivial ?_ rfl
 simp only [Try.ntmps22, List.size_toArray, List.length_cons, List.length_nil, Nat.reduceAdd, Nat.reduceSub, Array.replicate_succ, Array.replicate_zero, List.push_toArray, List.append_toArray, List.nil_append, List.cons_append]
 gi_wp2
 refine ⟨trivial, ?_⟩
 rw [← HA3.out]
 refine (callsIn_wide.2 (stretches_any es gap _ _ ls _ (HE.out.below IsRat.belowAll x3) (HL.out.below x3) h0 h16)).mono ?_
 rintro e W1 ⟨rfl, hsz, hb1, c5, c3, c2, c1, c4⟩
 rw [S3.out] at hsz hb1 c1 c2 c3 c4 c5 ⊢
 have hW1 : Below w.heap.size w W1 := x3.trans (hb1.mono (by omega))
 have d3 : Boxed W1 (w.heap.size + 1 + 1) 3 (.int .i64 0) := (hb1.block _ (by omega)).trans b3
 have d2 : Boxed W1 (w.heap.size + 1) 3 (.int .i64 t) := (hb1.block _ (by omega)).trans b23
 have d1 : Boxed W1 w.heap.size 3 (.int .i64 f) := (hb1.block _ (by omega)).trans b13
 clear b3 b13 b23 x3 hb1 HA3 S3
 gi_wp2
 refine wpIn_rangeFunc_ownH rfl (by omega) (gf := 56) (lb := #[.pointer (some ⟨w.heap.size + 3 + 3, 0, none⟩), .pointer (some ⟨w.heap.size + 3 + 2, 0, none⟩), .pointer (some ⟨w.heap.size + 3 + 1, 0, none⟩), .pointer (some ⟨w.heap.size + 3 + 4, 0, none⟩)]) rfl trivial (enters_of Try.func56 (by kernel_rfl) rfl)
  (iter_stops es gap ls f t hg _ _ w HE.out HL.out HS.out (w.heap.size + 1 + 1) _ _ _ _ _ (3 - 1) (by omega) (by omega) (by omega) (by omega) (by omega) (by omega) W1 hW1 (by omega) (by omega) c1 c2 c3 c4 c5)
  (fun h k => KpU.trans h k) (fun W l o o' hl h hc hw => KpU.putObj hW1.size W l o o' hl h hc hw) (Below.refl _ _) (fun _ => rfl)
  (fun pre W => ((Boxed W (w.heap.size + 1 + 1) 3 (.int .i64 (sumI f t pre)) ∧ Boxed W w.heap.size 3 (.int .i64 f)) ∧ Boxed W (w.heap.size + 1) 3 (.int .i64 t)) ∧ Below w.heap.size w W)
  (fun _ _ _ => False)
  (OwnFrom.and (OwnFrom.and (OwnFrom.and (Own.from (boxed_own _ _ _) _) (Own.from (boxed_own _ _ _) _)) (Own.from (boxed_own _ _ _) _)) (ownFrom_below (Nat.le_refl _) hW1.size))
  (fun _ _ _ _ _ hs _ _ => hs)
  ⟨⟨⟨d3, d1⟩, d2⟩, hW1⟩
  (fun x a' W => ∃ Bx, w.heap.size + 1 + 1 < Bx ∧ W.heap[Bx]? = some (.cells #[.int .i64 x.1.1, .int .i64 x.1.2.1] 111 (0, 0)) ∧ a' = { tmps := #[.slice ao es.length cap, .int .i64 gap, .slice aol ls.length capl, .int .i64 f, .int .i64 t, undef, undef, undef, .pointer (some ⟨w.heap.size, 0, none⟩), .pointer (some ⟨w.heap.size + 1, 0, none⟩), .int .i64 0, .pointer (some ⟨w.heap.size + 1 + 1, 0, none⟩), .pointer (some ⟨Bx, 0, none⟩), .int .i64 x.1.2.2, undef, undef, .slice ao es.length cap, .int .i64 gap, .slice aol ls.length capl, .func (.func 56) #[] #[.pointer (some ⟨w.heap.size + 3 + 3, 0, none⟩), .pointer (some ⟨w.heap.size + 3 + 2, 0, none⟩), .pointer (some ⟨w.heap.size + 3 + 1, 0, none⟩), .pointer (some ⟨w.heap.size + 3 + 4, 0, none⟩)], .agg #[.int .i64 x.1.1, .int .i64 x.1.2.1], .int .i64 x.1.2.2, undef, undef, undef, undef, undef, undef, undef, undef, undef, undef, undef, undef, undef, undef, undef, undef, undef, undef, undef], defers := [] })
  (fun x a' _ X Y row hs hg hr => by
   obtain ⟨Bx, h1, h2, h3⟩ := hs
   refine ⟨Bx, h1, (hg.block Bx (Array.getElem?_eq_some_iff.1 h2).1 (fun e => ?_)).trans h2, h3⟩
   obtain ⟨o, ho, hc⟩ := (hr Bx e.symm).2
   rw [h2] at ho; cases ho; cases hc)
  ?assign ?body ?done ?stop
 case assign =>
  rintro l pre x W K ⟨⟨⟨e3, e1⟩, e2⟩, hx⟩ hK
  have hsz2 := e3.lt
  simp only [encS]
  gi_wp2
  exact hK _ _ ((KeepsOthers.alloc _ _).from _) ⟨(Below.refl _ W).alloc hx.size _, KeepCells.alloc _ _ _⟩ ⟨⟨⟨e3.alloc _, e1.alloc _⟩, e2.alloc _⟩, hx.alloc hx.size _⟩ ⟨W.heap.size, hsz2, World.alloc_heap_new W _, rfl⟩
 case body =>
  rintro l pre x a' W hl ⟨r, hr⟩ ⟨⟨⟨e3, e1⟩, e2⟩, hx⟩ ⟨Bx, hBx, bX, rfl⟩ hlt
  have k3 := e3.cell
  have f3 := e3.frozen
  have k2 := e2.cell
  have k1 := e1.cell
  have l3 := e3.lt
  have l2 := e2.lt
  have l1 := e1.lt
  have m0 := blk_cell bX 0 (.int .i64 x.1.1) rfl
  have m1 := blk_cell bX 1 (.int .i64 x.1.2.1) rfl
  have hsum := sumI_range HG.out.f0 HG.out.t1 pre
  have hll := (log_ok HG.out.log).1
  have hadd := Lib.hid (sumI_snoc f t pre x)
  have hfr := HG.out.f0
  have htr := HG.out.t1
  have Hax : Hid (addI f t x = if max x.1.1 f < min x.1.2.1 t then (min x.1.2.1 t - max x.1.1 f) * x.1.2.2 else 0) := rfl
  obtain ⟨⟨p, q, r⟩, hr1, hr2⟩ := x
  dsimp only at m0 m1 hr1 hr2 Hax ⊢
  clear d1 d2 d3 c1 c2 c3 c4 c5
  by_cases hab : max p f < min q t
  ·
   have tt : decide (max p f < min q t) = true := decide_eq_true hab
   have hm := mul_range hr1 hr2 (show 0 ≤ min q t - max p f by omega) (show min q t - max p f ≤ 1073741824 by omega)
   rw [Int.mul_comm] at hm
   have hw1 : IntKind.i64.wrap (min q t - max p f) = min q t - max p f := IntWalk.i64_in _ (by omega)
   have hw2 : IntKind.i64.wrap ((min q t - max p f) * r) = (min q t - max p f) * r := IntWalk.i64_in _ (by omega)
   have hw3 : IntKind.i64.wrap (sumI f t pre + (min q t - max p f) * r) = sumI f t pre + (min q t - max p f) * r := IntWalk.i64_in _ (by omega)
   have Ha := Hax.out
   rw [if_pos hab] at Ha
   rw [Ha] at hadd
   clear Ha Hax hab hm hsum hll hlt hfr htr
   gi_wp2
   refine wpIn_region_quiet_round (by kernel_rfl) (by kernel_rfl) (by kernel_rfl) ?_
   repeat (gi_big_quiet_step (fail))
   refine wpQuietIn_nil ?_
   intro _ hw'
   obtain ⟨nq, hw''⟩ := hw'
   subst hw''
   gi_wp2
   exact ⟨(keepsN _ W nq).trans ((KeepsOthers.setCell (W.drewN nq) _ _).from _), ⟨(below_dn (Below.refl _ _) nq).setCell (p := ⟨w.heap.size + 1 + 1, 0, none⟩) (by simp; omega) _, KeepCells.setN _ W nq _⟩, ⟨⟨by rw [hadd.out]; exact Boxed.set _ (W := W.drewN nq) e3, Boxed.other (W := W.drewN nq) e1 (by omega) _⟩, Boxed.other (W := W.drewN nq) e2 (by omega) _⟩, (below_dn hx nq).setCell (p := ⟨w.heap.size + 1 + 1, 0, none⟩) (by simp; omega) _⟩
  ·
   have tt : decide (max p f < min q t) = false := decide_eq_false hab
   have Ha := Hax.out
   rw [if_neg hab] at Ha
   rw [Ha, Int.add_zero] at hadd
   clear Ha Hax hab hsum hll hlt hfr htr
   gi_wp2
   refine wpIn_region_quiet_round (by kernel_rfl) (by kernel_rfl) (by kernel_rfl) ?_
   repeat (gi_big_quiet_step (fail))
   refine wpQuietIn_nil ?_
   intro _ hw'
   obtain ⟨nq, hw''⟩ := hw'
   subst hw''
   gi_wp2
   exact ⟨keepsN _ W nq, ⟨below_dn (Below.refl _ _) nq, KeepCells.drewN _ W nq⟩, ⟨⟨by rw [hadd.out]; exact e3, e1⟩, e2⟩, below_dn hx nq⟩
 case done =>
  rintro D ys W hD rfl ⟨⟨⟨e3, e1⟩, e2⟩, hx⟩ hK
  have k3 := e3.cell
  gi_wp2
  refine ⟨by simp, .inl ⟨_, _, rfl, run_takeDeferred hK, ?_⟩⟩
  exact ⟨_, results_tmp rfl _ _ _, rfl, hx.trans (belowK_b (w := w) (Nat.le_refl _) W D _ _ (by omega) hK rfl rfl)⟩
 case stop =>
  rintro D c pre W _ _ h _
  exact h.elim

end Go.Proofs.Ytanmcbbnnjamoaa

namespace Go.Proofs.Ytanmcbbnnjamoaa
open Go.RowKit

/-! ### The sums agree -/
def addP (f t a b r : Int) : Int := if max a f < min b t then (min b t - max a f) * r else 0
theorem addI_round {es : List (Rat × Int)} {ls : List (Int × Nat)} {f t : Int} (h : GoodLog es ls f t) (gap : Int) (i : Nat) (hi : i < ls.length) :
  addI f t (strS h gap i) = rateI es gap ls i * bothI f t (lastT ls i) (ls.getD i (0, 0)).1 := by
 have hf := h.f0
 have hla := h.last i (by omega)
 have e : max (if i = 0 then (-9223372036854775808 : Int) else lastT ls i) f = max f (lastT ls i) := by
  split
  ·
   rename_i h0
   have : lastT ls i = 0 := by unfold lastT; rw [if_pos h0]
   omega
  ·
   omega
 show addP f t (strI es gap ls i).1 (strI es gap ls i).2.1 (strI es gap ls i).2.2 = _
 unfold strI bothI addP
 dsimp only
 rw [if_pos hi, if_pos hi, e]
 generalize (ls.getD i (0, 0)).1 = ty
 generalize rateI es gap ls i = R
 have e2 : min ty t = min t ty := by omega
 rw [e2]
 split
 ·
  rw [Int.mul_comm]
  congr 1
  omega
 ·
  have : max 0 (min t ty - max f (lastT ls i)) = 0 := by omega
  rw [this, Int.mul_zero]
theorem addI_last {es : List (Rat × Int)} {ls : List (Int × Nat)} {f t : Int} (h : GoodLog es ls f t) (gap : Int) :
  addI f t (strS h gap ls.length) = hotI es * bothI f t (lastT ls ls.length) 1073741825 := by
 have hf := h.f0
 have ht := h.t1
 have hla := h.last ls.length (by omega)
 have e : max (if ls.length = 0 then (-9223372036854775808 : Int) else lastT ls ls.length) f = max f (lastT ls ls.length) := by
  split
  ·
   rename_i h0
   have : lastT ls ls.length = 0 := by unfold lastT; rw [if_pos h0]
   omega
  ·
   omega
 show addP f t (strI es gap ls ls.length).1 (strI es gap ls ls.length).2.1 (strI es gap ls ls.length).2.2 = _
 unfold strI bothI addP
 dsimp only
 rw [if_neg (Nat.lt_irrefl _), if_neg (Nat.lt_irrefl _), e]
 have e2 : min 9223372036854775807 t = min t 1073741825 := by omega
 rw [e2]
 generalize hotI es = R
 split
 ·
  rw [Int.mul_comm]
  congr 1
  omega
 ·
  have : max 0 (min t 1073741825 - max f (lastT ls ls.length)) = 0 := by omega
  rw [this, Int.mul_zero]
theorem sumI_used {es : List (Rat × Int)} {ls : List (Int × Nat)} {f t : Int} (h : GoodLog es ls f t) (gap : Int) (k : Nat) (hk : k ≤ ls.length) : sumI f t (strsTo h gap k) = usedI es gap ls f t k := by
 induction k with
 | zero => rfl
 | succ k ih => rw [strsTo_succ, sumI_snoc, ih (by omega), addI_round h gap k (by omega)]; rfl
theorem sumI_all {es : List (Rat × Int)} {ls : List (Int × Nat)} {f t : Int} (h : GoodLog es ls f t) (gap : Int) : sumI f t (strsTo h gap (ls.length + 1)) = usedAll es gap ls f t := by
 rw [strsTo_succ, sumI_snoc, sumI_used h gap _ (Nat.le_refl _), addI_last]
 rfl

/-! ### What Used tells -/
def usedErr (es : List (Rat × Int)) (gap : Int) (ls : List (Int × Nat)) (f t : Int) : Int :=
 if tabErr es ≠ 0 then tabErr es else if gapB gap = false then 1 else if logErr ls ≠ 0 then logErr ls else if timeB f = false ∨ timeB t = false then 1 else if t < f then 7 else 0
def usedVal (es : List (Rat × Int)) (gap : Int) (ls : List (Int × Nat)) (f t : Int) : Int := if usedErr es gap ls f t = 0 then usedAll es gap ls f t else 0
theorem timeB_spec {n : Int} (h : timeB n = true) : 0 ≤ n ∧ n ≤ 1073741824 := by
 unfold timeB at h
 simpa using h
def UsedIs (es : List (Rat × Int)) (gap : Int) (ls : List (Int × Nat)) (f t v e : Int) : Prop := usedVal es gap ls f t = v ∧ usedErr es gap ls f t = e
theorem used_tab {es : List (Rat × Int)} {gap : Int} {ls : List (Int × Nat)} {f t : Int} (h : tabErr es ≠ 0) : UsedIs es gap ls f t 0 (tabErr es) := by
 have e : usedErr es gap ls f t = tabErr es := by unfold usedErr; rw [if_pos h]
 exact ⟨by unfold usedVal; rw [e, if_neg h], e⟩
theorem used_gap {es : List (Rat × Int)} {gap : Int} {ls : List (Int × Nat)} {f t : Int} (h : tabErr es = 0) (h2 : gapB gap = false) : UsedIs es gap ls f t 0 1 := by
 have e : usedErr es gap ls f t = 1 := by unfold usedErr; rw [if_neg (fun h3 => h3 h), if_pos h2]
 exact ⟨by unfold usedVal; rw [e, if_neg (by decide)], e⟩
theorem used_log {es : List (Rat × Int)} {gap : Int} {ls : List (Int × Nat)} {f t : Int} (h : tabErr es = 0) (h2 : gapB gap = true) (h3 : logErr ls ≠ 0) : UsedIs es gap ls f t 0 (logErr ls) := by
 have e : usedErr es gap ls f t = logErr ls := by unfold usedErr; rw [if_neg (fun h3 => h3 h), if_neg (by rw [h2]; decide), if_pos h3]
 exact ⟨by unfold usedVal; rw [e, if_neg h3], e⟩
theorem used_time {es : List (Rat × Int)} {gap : Int} {ls : List (Int × Nat)} {f t : Int} (h : tabErr es = 0) (h2 : gapB gap = true) (h3 : logErr ls = 0) (h4 : timeB f = false ∨ timeB t = false) : UsedIs es gap ls f t 0 1 := by
 have e : usedErr es gap ls f t = 1 := by unfold usedErr; rw [if_neg (fun h3 => h3 h), if_neg (by rw [h2]; decide), if_neg (fun h => h h3), if_pos h4]
 exact ⟨by unfold usedVal; rw [e, if_neg (by decide)], e⟩
theorem used_order {es : List (Rat × Int)} {gap : Int} {ls : List (Int × Nat)} {f t : Int} (h : tabErr es = 0) (h2 : gapB gap = true) (h3 : logErr ls = 0) (h4 : timeB f = true) (h5 : timeB t = true) (h6 : t < f) : UsedIs es gap ls f t 0 7 := by
 have e : usedErr es gap ls f t = 7 := by unfold usedErr; rw [if_neg (fun h3 => h3 h), if_neg (by rw [h2]; decide), if_neg (fun h => h h3), if_neg (by rw [h4, h5]; decide), if_pos h6]
 exact ⟨by unfold usedVal; rw [e, if_neg (by decide)], e⟩
theorem used_good {es : List (Rat × Int)} {gap : Int} {ls : List (Int × Nat)} {f t : Int} (h : tabErr es = 0) (h2 : gapB gap = true) (h3 : logErr ls = 0) (h4 : timeB f = true) (h5 : timeB t = true) (h6 : ¬ t < f) : UsedIs es gap ls f t (usedAll es gap ls f t) 0 := by
 have e : usedErr es gap ls f t = 0 := by unfold usedErr; rw [if_neg (fun h3 => h3 h), if_neg (by rw [h2]; decide), if_neg (fun h => h h3), if_neg (by rw [h4, h5]; decide), if_neg h6]
 exact ⟨by unfold usedVal; rw [e, if_pos rfl], e⟩
theorem goodLog_of {es : List (Rat × Int)} {ls : List (Int × Nat)} {f t : Int} (h : tabErr es = 0) (h3 : logErr ls = 0) (h4 : timeB f = true) (h5 : timeB t = true) : GoodLog es ls f t :=
 ⟨h, h3, (timeB_spec h4).1, (timeB_spec h4).2, (timeB_spec h5).1, (timeB_spec h5).2⟩

set_option maxHeartbeats 2000000 in
theorem Used_any (es : List (Rat × Int)) (gap : Int) (ls : List (Int × Nat)) (f t : Int) (ve vl : Value) (w : World) (he : EntsOf IsRat w ve es) (hl : LogOf w vl ls) (hs : ∀ i, i < es.length → szR (es.getD i (0, 0)).1 274877906944) :
  Calls Try.prog 8 #[ve, .int .i64 gap, vl, .int .i64 f, .int .i64 t] w (RetIE (usedVal es gap ls f t) (usedErr es gap ls f t) w) := by
 have HE := Lib.hid he
 have HL := Lib.hid hl
 have HS := Lib.hid hs
 obtain ⟨aol, capl, rfl, _⟩ := hl
 obtain ⟨ao, cap, rfl, _⟩ := he
 clear hs
 by_cases h0 : tabErr es = 0
 ·
  have t0 : (tabErr es != 0) = false := by simp [h0]
  have H0 := Lib.hid h0
  clear h0
  cases hgp : gapB gap with
  | false =>
   have Hv := Lib.hid (used_gap (ls := ls) (f := f) (t := t) H0.out hgp)

   go_enter Try.func8, Try.ntmps8
   go_wp2_with fail
   refine (checkTable_any es _ _ HE.out HS.out).mono ?_
   rintro e w1 ⟨rfl, hb1⟩
   generalize tabErr es = te at *
   go_wp2_with fail

   refine (gap_any gap _).mono ?_
   rintro e w2 ⟨rfl, rfl⟩
   rw [hgp]
   go_wp2_with fail

   go_ret2
   exact ⟨by rw [Hv.out.1, Hv.out.2]; rfl, hb1⟩
  | true =>
   have Hg := Lib.hid hgp
   by_cases h1 : logErr ls = 0
   ·
    have t1 : (logErr ls != 0) = false := by simp [h1]
    have H1 := Lib.hid h1
    clear h1
    cases htf : timeB f with
    | false =>
     have Hv := Lib.hid (used_time (f := f) (t := t) H0.out Hg.out H1.out (.inl htf))

     go_enter Try.func8, Try.ntmps8
     go_wp2_with fail
     refine (checkTable_any es _ _ HE.out HS.out).mono ?_
     rintro e w1 ⟨rfl, hb1⟩
     generalize tabErr es = te at *
     go_wp2_with fail

     refine (gap_any gap _).mono ?_
     rintro e w2 ⟨rfl, rfl⟩
     rw [hgp]
     go_wp2_with fail

     refine (checkLog_any ls _ _ (HL.out.below hb1)).mono ?_
     rintro e w2 ⟨rfl, hb2⟩
     have hx2 := ext_trans hb1 hb2
     generalize logErr ls = le at *
     go_wp2_with fail

     refine (time_any f _).mono ?_
     rintro e w3 ⟨rfl, rfl⟩
     rw [htf]
     go_wp2_with fail

     go_ret2
     exact ⟨by rw [Hv.out.1, Hv.out.2]; rfl, hx2⟩
    | true =>
     cases htt : timeB t with
     | false =>
      have Hv := Lib.hid (used_time (f := f) (t := t) H0.out Hg.out H1.out (.inr htt))

      go_enter Try.func8, Try.ntmps8
      go_wp2_with fail
      refine (checkTable_any es _ _ HE.out HS.out).mono ?_
      rintro e w1 ⟨rfl, hb1⟩
      generalize tabErr es = te at *
      go_wp2_with fail

      refine (gap_any gap _).mono ?_
      rintro e w2 ⟨rfl, rfl⟩
      rw [hgp]
      go_wp2_with fail

      refine (checkLog_any ls _ _ (HL.out.below hb1)).mono ?_
      rintro e w2 ⟨rfl, hb2⟩
      have hx2 := ext_trans hb1 hb2
      generalize logErr ls = le at *
      go_wp2_with fail

      refine (time_any f _).mono ?_
      rintro e w3 ⟨rfl, rfl⟩
      rw [htf]
      go_wp2_with fail

      refine (time_any t _).mono ?_
      rintro e w3 ⟨rfl, rfl⟩
      rw [htt]
      go_wp2_with fail

      go_ret2
      exact ⟨by rw [Hv.out.1, Hv.out.2]; rfl, hx2⟩
     | true =>
      by_cases hft : t < f
      ·
       have Hv := Lib.hid (used_order (f := f) (t := t) H0.out Hg.out H1.out htf htt hft)
       have tt : decide (f > t) = true := decide_eq_true hft
       clear hft

       go_enter Try.func8, Try.ntmps8
       go_wp2_with fail
       refine (checkTable_any es _ _ HE.out HS.out).mono ?_
       rintro e w1 ⟨rfl, hb1⟩
       generalize tabErr es = te at *
       go_wp2_with fail

       refine (gap_any gap _).mono ?_
       rintro e w2 ⟨rfl, rfl⟩
       rw [hgp]
       go_wp2_with fail

       refine (checkLog_any ls _ _ (HL.out.below hb1)).mono ?_
       rintro e w2 ⟨rfl, hb2⟩
       have hx2 := ext_trans hb1 hb2
       generalize logErr ls = le at *
       go_wp2_with fail

       refine (time_any f _).mono ?_
       rintro e w3 ⟨rfl, rfl⟩
       rw [htf]
       go_wp2_with fail

       refine (time_any t _).mono ?_
       rintro e w3 ⟨rfl, rfl⟩
       rw [htt]
       go_wp2_with fail

       go_ret2
       exact ⟨by rw [Hv.out.1, Hv.out.2]; rfl, hx2⟩
      ·
       have Hv := Lib.hid (used_good (f := f) (t := t) H0.out Hg.out H1.out htf htt hft)
       have HG := Lib.hid (goodLog_of H0.out H1.out htf htt)
       have tt : decide (f > t) = false := decide_eq_false hft
       clear hft

       go_enter Try.func8, Try.ntmps8
       go_wp2_with fail
       refine (checkTable_any es _ _ HE.out HS.out).mono ?_
       rintro e w1 ⟨rfl, hb1⟩
       generalize tabErr es = te at *
       go_wp2_with fail

       refine (gap_any gap _).mono ?_
       rintro e w2 ⟨rfl, rfl⟩
       rw [hgp]
       go_wp2_with fail

       refine (checkLog_any ls _ _ (HL.out.below hb1)).mono ?_
       rintro e w2 ⟨rfl, hb2⟩
       have hx2 := ext_trans hb1 hb2
       generalize logErr ls = le at *
       go_wp2_with fail

       refine (time_any f _).mono ?_
       rintro e w3 ⟨rfl, rfl⟩
       rw [htf]
       go_wp2_with fail

       refine (time_any t _).mono ?_
       rintro e w3 ⟨rfl, rfl⟩
       rw [htt]
       go_wp2_with fail

       refine (used_any es gap ls f t HG.out _ _ _ (HE.out.below IsRat.belowAll hx2) (HL.out.below hx2) HS.out).mono ?_
       rintro e w4 ⟨rfl, hb4⟩
       rw [sumI_all]
       have hx4 := ext_trans hx2 hb4
       go_wp2_with fail

       go_ret2
       exact ⟨by rw [Hv.out.1, Hv.out.2]; rfl, hx4⟩
   ·
    have t1 : (logErr ls != 0) = true := by simp [h1]
    have Hv := Lib.hid (used_log (f := f) (t := t) H0.out Hg.out h1)
    clear h1

    go_enter Try.func8, Try.ntmps8
    go_wp2_with fail
    refine (checkTable_any es _ _ HE.out HS.out).mono ?_
    rintro e w1 ⟨rfl, hb1⟩
    generalize tabErr es = te at *
    go_wp2_with fail

    refine (gap_any gap _).mono ?_
    rintro e w2 ⟨rfl, rfl⟩
    rw [hgp]
    go_wp2_with fail

    refine (checkLog_any ls _ _ (HL.out.below hb1)).mono ?_
    rintro e w2 ⟨rfl, hb2⟩
    have hx2 := ext_trans hb1 hb2
    generalize logErr ls = le at *
    go_wp2_with fail

    go_ret2
    exact ⟨by rw [Hv.out.1, Hv.out.2]; rfl, hx2⟩
 ·
  have t0 : (tabErr es != 0) = true := by simp [h0]
  have Hv := Lib.hid (used_tab (gap := gap) (ls := ls) (f := f) (t := t) h0)
  clear h0

  go_enter Try.func8, Try.ntmps8
  go_wp2_with fail
  refine (checkTable_any es _ _ HE.out HS.out).mono ?_
  rintro e w1 ⟨rfl, hb1⟩
  generalize tabErr es = te at *
  go_wp2_with fail

  go_ret2
  exact ⟨by rw [Hv.out.1, Hv.out.2]; rfl, hb1⟩

end Go.Proofs.Ytanmcbbnnjamoaa

namespace Go.Proofs.Ytanmcbbnnjamoaa
open Go.RowKit

def esA : List (Rat × Int) := [(((250 : Int) : Rat), 1), (((290 : Int) : Rat), 10)]
def lsA : List (Int × Nat) := [(0, 1132396544), (100, 1133740032), (1000, 1132396544)]
def jsA : List (Int × Int) := [(0, 3), (0, 3), (0, 4)]
theorem awake_u1 : usedVal esA 200 lsA 0 200 = 2000 ∧ usedErr esA 200 lsA 0 200 = 0 := by decide +kernel
theorem awake_u2 : usedVal esA 200 lsA 100 1000 = 9000 ∧ usedErr esA 200 lsA 100 1000 = 0 := by decide +kernel
theorem awake_b : boundN jsA 2 = 5 ∧ (boundL jsA 2).length = 3 ∧ jobsErr jsA 2 = 0 := by decide +kernel

theorem szA : ∀ i, i < esA.length → szR (esA.getD i (0, 0)).1 274877906944 := by
 intro i hi
 have h1 : ∀ n d : Int, i64R n → i64R d → szR (fracQ n d) 274877906944 := fun n d hn hd => by
  have := fracQ_szR n d hn.1 hn.2 hd.1 hd.2
  exact ⟨Nat.le_trans this.1 (by omega), Nat.le_trans this.2 (by omega)⟩
 match i, hi with
 | 0, _ => exact h1 250 0 (by unfold i64R; omega) (by unfold i64R; omega)
 | 1, _ => exact h1 290 0 (by unfold i64R; omega) (by unfold i64R; omega)

theorem entsOf_two {R : World → Value → Rat → Prop} (w : World) (v0 v1 v2 u0 u1 u2 : Value) (r s : Int) (q p : Rat) (T : TypeId)
  (h : R (w.alloc (.cells #[v0, v1, v2, .int .i64 r, u0, u1, u2, .int .i64 s] T)) (.agg #[v0, v1, v2]) q) (k : R (w.alloc (.cells #[v0, v1, v2, .int .i64 r, u0, u1, u2, .int .i64 s] T)) (.agg #[u0, u1, u2]) p) :
  EntsOf R (w.alloc (.cells #[v0, v1, v2, .int .i64 r, u0, u1, u2, .int .i64 s] T)) (.slice (some ⟨w.heap.size, 0, none⟩) 2 2) [(q, r), (p, s)] := by
 refine ⟨_, _, rfl, fun _ => ⟨w.heap.size, 0, rfl, by simp, fun i hi => ?_⟩⟩
 have hN := blk_new w #[v0, v1, v2, .int .i64 r, u0, u1, u2, .int .i64 s] T
 match i, hi with
 | 0, _ => exact ⟨v0, v1, v2, blk_cell hN 0 _ rfl, blk_cell hN 1 _ rfl, blk_cell hN 2 _ rfl, blk_cell hN 3 _ rfl, h⟩
 | 1, _ => exact ⟨u0, u1, u2, blk_cell hN 4 _ rfl, blk_cell hN 5 _ rfl, blk_cell hN 6 _ rfl, blk_cell hN 7 _ rfl, k⟩
theorem logOf_three (w : World) (t0 t1 t2 : Int) (b0 b1 b2 : Nat) (T : TypeId) :
  LogOf (w.alloc (.cells #[.int .i64 t0, .float .f32 b0, .int .i64 t1, .float .f32 b1, .int .i64 t2, .float .f32 b2] T)) (.slice (some ⟨w.heap.size, 0, none⟩) 3 3) [(t0, b0), (t1, b1), (t2, b2)] := by
 refine ⟨_, _, rfl, fun _ => ⟨w.heap.size, 0, rfl, by simp, fun i hi => ?_⟩⟩
 have hN := blk_new w #[.int .i64 t0, .float .f32 b0, .int .i64 t1, .float .f32 b1, .int .i64 t2, .float .f32 b2] T
 match i, hi with
 | 0, _ => exact ⟨blk_cell hN 0 _ rfl, blk_cell hN 1 _ rfl⟩
 | 1, _ => exact ⟨blk_cell hN 2 _ rfl, blk_cell hN 3 _ rfl⟩
 | 2, _ => exact ⟨blk_cell hN 4 _ rfl, blk_cell hN 5 _ rfl⟩
theorem pairsOf_three (w : World) (t0 t1 t2 b0 b1 b2 : Int) (T : TypeId) :
  PairsOf (w.alloc (.cells #[.int .i64 t0, .int .i64 b0, .int .i64 t1, .int .i64 b1, .int .i64 t2, .int .i64 b2] T)) (.slice (some ⟨w.heap.size, 0, none⟩) 3 3) [(t0, b0), (t1, b1), (t2, b2)] := by
 refine ⟨_, _, rfl, fun _ => ⟨w.heap.size, 0, rfl, by simp, fun i hi => ?_⟩⟩
 have hN := blk_new w #[.int .i64 t0, .int .i64 b0, .int .i64 t1, .int .i64 b1, .int .i64 t2, .int .i64 b2] T
 match i, hi with
 | 0, _ => exact ⟨blk_cell hN 0 _ rfl, blk_cell hN 1 _ rfl⟩
 | 1, _ => exact ⟨blk_cell hN 2 _ rfl, blk_cell hN 3 _ rfl⟩
 | 2, _ => exact ⟨blk_cell hN 4 _ rfl, blk_cell hN 5 _ rfl⟩

set_option maxRecDepth 100000 in
set_option maxHeartbeats 4000000 in
theorem awake_any (w : World) : Calls Try.prog 5 #[] w (RetBool true w) := by
 go_enter Try.func5, Try.ntmps5
 go_wp2_with fail
 refine (int_any 250 _ (by omega) (by omega)).mono ?_
 rintro e w1 ⟨v1, rfl, hv1, hb1⟩
 obtain ⟨q1, Hq1⟩ : ∃ q1 : Rat, Hid (((250 : Int) : Rat) = q1) := ⟨_, rfl⟩
 rw [Hq1.out] at hv1
 obtain ⟨a1, c1, a2, c2, rfl, _, _⟩ := hv1.opened
 have Hv1 := Lib.hid hv1
 clear hv1
 go_wp2_with fail
 refine (int_any 290 _ (by omega) (by omega)).mono ?_
 rintro e w2 ⟨v2, rfl, hv2, hb2⟩
 obtain ⟨q2, Hq2⟩ : ∃ q2 : Rat, Hid (((290 : Int) : Rat) = q2) := ⟨_, rfl⟩
 rw [Hq2.out] at hv2
 obtain ⟨a3, c3, a4, c4, rfl, _, _⟩ := hv2.opened
 have hv1' := Hv1.out.below hb2
 have hal := (Below.refl w2.heap.size w2).alloc (Nat.le_refl _) (.cells #[.bool (decide (q1.num < 0)), .slice a1 (dig b64 q1.num.natAbs).length c1, .slice a2 (dig b64 (dn q1.den)).length c2, .int .i64 1, .bool (decide (q2.num < 0)), .slice a3 (dig b64 q2.num.natAbs).length c3, .slice a4 (dig b64 (dn q2.den)).length c4, .int .i64 10] 63)
 have HEs : Hid ([(q1, 1), (q2, 10)] = esA) := by show _ = esA; rw [← Hq1.out, ← Hq2.out]; rfl
 have HE0 := entsOf_two w2 _ _ _ _ _ _ 1 10 q1 q2 63 (hv1'.below hal) (hv2.below hal)
 rw [HEs.out] at HE0
 have HE := Lib.hid HE0
 have hx2 := ext_trans hb1 (ext_trans hb2 hal)
 clear HE0 hv1' hv2 Hv1 HEs Hq1 Hq2
 have hlog := logOf_three (w2.alloc (.cells #[.bool (decide (q1.num < 0)), .slice a1 (dig b64 q1.num.natAbs).length c1, .slice a2 (dig b64 (dn q1.den)).length c2, .int .i64 1, .bool (decide (q2.num < 0)), .slice a3 (dig b64 q2.num.natAbs).length c3, .slice a4 (dig b64 (dn q2.den)).length c4, .int .i64 10] 63)) 0 100 1000 1132396544 1133740032 1132396544 36
 rw [World.size_alloc] at hlog
 have hal2 := (Below.refl w2.heap.size w2).alloc (Nat.le_refl _) (.cells #[.bool (decide (q1.num < 0)), .slice a1 (dig b64 q1.num.natAbs).length c1, .slice a2 (dig b64 (dn q1.den)).length c2, .int .i64 1, .bool (decide (q2.num < 0)), .slice a3 (dig b64 q2.num.natAbs).length c3, .slice a4 (dig b64 (dn q2.den)).length c4, .int .i64 10] 63)
 have HL := Lib.hid hlog
 clear hlog hal hal2 hb1 hb2
 go_wp2_with fail
 refine (Used_any esA 200 lsA 0 200 _ _ _ (HE.out.below IsRat.belowAll ((Below.refl _ _).alloc (Nat.le_refl _) _)) HL.out szA).mono ?_
 rintro e w3 ⟨rfl, hb3⟩
 rw [awake_u1.1, awake_u1.2]
 have hx3 := ext_trans (ext_trans hx2 ((Below.refl _ _).alloc (Nat.le_refl _) _)) hb3
 go_wp2_with fail
 refine (Used_any esA 200 lsA 100 1000 _ _ _ ((HE.out.below IsRat.belowAll ((Below.refl _ _).alloc (Nat.le_refl _) _)).below IsRat.belowAll hb3) (HL.out.below hb3) szA).mono ?_
 rintro e w4 ⟨rfl, hb4⟩
 rw [awake_u2.1, awake_u2.2]
 have hx4 := ext_trans hx3 hb4
 have HJ := Lib.hid (pairsOf_three w4 0 0 0 3 3 4 68)
 clear hx2 hx3 hb3 hb4
 go_wp2_with fail
 refine (bound_any jsA 2 _ _ HJ.out).mono ?_
 rintro e w5 ⟨v, rfl, hv, hb5⟩
 rw [awake_b.1, awake_b.2.2]
 obtain ⟨av, cv, rfl, _⟩ := hv.opened
 rw [awake_b.2.1]
 have hx5 := ext_trans (ext_trans hx4 ((Below.refl _ _).alloc (Nat.le_refl _) _)) hb5
 clear hv hb5 hx4
 go_wp2_with fail
 go_ret
 exact ⟨rfl, hx5⟩

end Go.Proofs.Ytanmcbbnnjamoaa

namespace Go.Proofs.Ytanmcbbnnjamoaa
open Go.RowKit

def rdCells : List (Int × Nat) → List Value
 | [] => []
 | r :: l => .int .i64 r.1 :: .float .f32 r.2 :: rdCells l
theorem rdCells_get (ls : List (Int × Nat)) : ∀ i, i < ls.length → (rdCells ls)[i * 2]? = some (.int .i64 (ls.getD i (0, 0)).1) ∧ (rdCells ls)[i * 2 + 1]? = some (.float .f32 (ls.getD i (0, 0)).2) := by
 induction ls with
 | nil => intro i hi; simp at hi
 | cons r l ih =>
  intro i hi
  cases i with
  | zero => simp [rdCells]
  | succ i =>
   have := ih i (by simpa using hi)
   simpa [rdCells, Nat.succ_mul] using this
theorem LogOf.ofRow {w : World} {base : Nat} {e : TypeId} {v : Value} {ls : List (Int × Nat)} (h : LRow w base e 2 v ls.length (rdCells ls)) : LogOf w v ls := by
 rcases Nat.eq_zero_or_pos ls.length with h0 | hp
 ·
  rcases h.1.2 with ⟨rfl, _⟩ | ⟨g, cap, cur, rfl, _⟩
  ·
   exact ⟨none, 0, by rw [h0], fun h => absurd h (by omega)⟩
  ·
   exact ⟨_, _, rfl, fun h => absurd h (by omega)⟩
 ·
  obtain ⟨g, cap, rfl⟩ := ownsRow_some h.1 hp
  have hc : ∀ j u, (rdCells ls)[j]? = some u → w.cell? ((⟨g, 0, none⟩ : Addr).add j) = some u := h.1.cells (g := g) rfl
  have hlt : g < w.heap.size := (h.lt rfl).1
  refine ⟨_, _, rfl, fun _ => ⟨g, 0, rfl, hlt, fun i hi => ?_⟩⟩
  obtain ⟨h0, h1⟩ := rdCells_get ls i hi
  have ea : ∀ j, (⟨g, 0, none⟩ : Addr).add j = ⟨g, 0 + j, none⟩ := fun j => by unfold Addr.add; split <;> simp_all
  refine ⟨?_, ?_⟩
  ·
   rw [← ea]; exact hc _ _ h0
  ·
   rw [show 0 + i * 2 + 1 = 0 + (i * 2 + 1) by omega, ← ea]; exact hc _ _ h1
theorem cell_new2 (w : World) (a b : Value) (t : TypeId) : ∀ j u, [a, b][j]? = some u → (w.alloc (.cells #[a, b] t)).cell? ((⟨w.heap.size, 0, none⟩ : Addr).add j) = some u := by
 intro j u hj
 match j, hj with
 | 0, hj => simp at hj; subst hj; simp [Addr.add]
 | 1, hj => simp at hj; subst hj; simp [Addr.add]
 | j + 2, hj => simp at hj
end Go.Proofs.Ytanmcbbnnjamoaa

namespace Go.Proofs.Ytanmcbbnnjamoaa
open Go.RowKit

def pairCells : List (Int × Int) → List Value
 | [] => []
 | r :: l => .int .i64 r.1 :: .int .i64 r.2 :: pairCells l
theorem pairCells_append (a b : List (Int × Int)) : pairCells (a ++ b) = pairCells a ++ pairCells b := by
 induction a with
 | nil => rfl
 | cons r a ih => simp [pairCells, ih]
theorem pairCells_get (ls : List (Int × Int)) : ∀ i, i < ls.length → (pairCells ls)[i * 2]? = some (.int .i64 (ls.getD i (0, 0)).1) ∧ (pairCells ls)[i * 2 + 1]? = some (.int .i64 (ls.getD i (0, 0)).2) := by
 induction ls with
 | nil => intro i hi; simp at hi
 | cons r l ih =>
  intro i hi
  cases i with
  | zero => simp [pairCells]
  | succ i =>
   have := ih i (by simpa using hi)
   simpa [pairCells, Nat.succ_mul] using this
theorem PairsOf.ofRow {w : World} {base : Nat} {e : TypeId} {v : Value} {ls : List (Int × Int)} (h : LRow w base e 2 v ls.length (pairCells ls)) : PairsOf w v ls := by
 rcases Nat.eq_zero_or_pos ls.length with h0 | hp
 ·
  rcases h.1.2 with ⟨rfl, _⟩ | ⟨g, cap, cur, rfl, _⟩
  ·
   exact ⟨none, 0, by rw [h0], fun h => absurd h (by omega)⟩
  ·
   exact ⟨_, _, rfl, fun h => absurd h (by omega)⟩
 ·
  obtain ⟨g, cap, rfl⟩ := ownsRow_some h.1 hp
  have hc : ∀ j u, (pairCells ls)[j]? = some u → w.cell? ((⟨g, 0, none⟩ : Addr).add j) = some u := h.1.cells (g := g) rfl
  have hlt : g < w.heap.size := (h.lt rfl).1
  refine ⟨_, _, rfl, fun _ => ⟨g, 0, rfl, hlt, fun i hi => ?_⟩⟩
  obtain ⟨h0, h1⟩ := pairCells_get ls i hi
  have ea : ∀ j, (⟨g, 0, none⟩ : Addr).add j = ⟨g, 0 + j, none⟩ := fun j => by unfold Addr.add; split <;> simp_all
  refine ⟨?_, ?_⟩
  ·
   rw [← ea]; exact hc _ _ h0
  ·
   rw [show 0 + i * 2 + 1 = 0 + (i * 2 + 1) by omega, ← ea]; exact hc _ _ h1
theorem zd2 : ∀ u ∈ (Value.agg #[.int .i64 0, .int .i64 0]).cells.toList, noDig u := by
 intro u hu
 simp [Value.cells] at hu
 rw [hu]
 exact noDig_i64 _
theorem nd2 (a b : Int) : ∀ u ∈ [Value.int .i64 a, Value.int .i64 b], noDig u := by
 intro u hu
 simp at hu
 rcases hu with rfl | rfl <;> exact noDig_i64 _
theorem one2 (a b : Int) : ∀ u ∈ [Value.int .i64 a, Value.int .i64 b], u.oneCell' = true := by simp [Value.oneCell']
end Go.Proofs.Ytanmcbbnnjamoaa

namespace Go.Proofs.Ytanmcbbnnjamoaa
open Go.RowKit

def RetPlan (l : List (Int × Int)) (err : Int) (w : World) (e : Ending) (w' : World) : Prop :=
 ∃ v, e = .returned (.tuple #[v, .int .i64 err]) ∧ PairsOf w' v l ∧ Below w.heap.size w w'
theorem PairsOf.nil (w : World) : PairsOf w (.slice none 0 0) [] := ⟨none, 0, rfl, fun h => absurd h (by simp)⟩

end Go.Proofs.Ytanmcbbnnjamoaa

namespace Go.Proofs.Ytanmcbbnnjamoaa
open Go.RowKit

def AirAt (w : World) (b o : Nat) (t : Int × Int × Nat) : Prop := w.cell? ⟨b, o, none⟩ = some (.int .i64 t.1) ∧ w.cell? ⟨b, o + 1, none⟩ = some (.int .i64 t.2.1) ∧ w.cell? ⟨b, o + 2, none⟩ = some (.float .f32 t.2.2)
def AirsOf (w : World) (v : Value) (ts : List (Int × Int × Nat)) : Prop :=
 ∃ ao cap, v = .slice ao ts.length cap ∧ (0 < ts.length → ∃ b off, ao = some ⟨b, off, none⟩ ∧ b < w.heap.size ∧ ∀ i, i < ts.length → AirAt w b (off + i * 3) (ts.getD i (0, 0, 0)))
theorem AirAt.below {w w' : World} {b o : Nat} {r : Int × Int × Nat} (h : AirAt w b o r) (hb : Below w.heap.size w w') (hl : b < w.heap.size) : AirAt w' b o r :=
 ⟨(hb.cell (p := ⟨b, o, none⟩) hl).trans h.1, (hb.cell (p := ⟨b, o + 1, none⟩) hl).trans h.2.1, (hb.cell (p := ⟨b, o + 2, none⟩) hl).trans h.2.2⟩
theorem AirsOf.below {w w' : World} {v : Value} {ps : List (Int × Int × Nat)} (h : AirsOf w v ps) (hb : Below w.heap.size w w') : AirsOf w' v ps := by
 obtain ⟨ao, cap, rfl, h⟩ := h
 refine ⟨ao, cap, rfl, fun hl => ?_⟩
 obtain ⟨b, off, rfl, hlt, h⟩ := h hl
 exact ⟨b, off, rfl, Nat.lt_of_lt_of_le hlt hb.size, fun i hi => (h i hi).below hb hlt⟩

def airErr (xs : List (Int × Int × Nat)) (i : Nat) : Int :=
 if timeB (xs.getD i (0, 0, 0)).1 = false ∨ (xs.getD i (0, 0, 0)).2.1 < 0 ∨ tempOk (xs.getD i (0, 0, 0)).2.2 = false then 1
 else if 0 < i ∧ (xs.getD i (0, 0, 0)).1 ≤ (xs.getD (i - 1) (0, 0, 0)).1 then 7 else 0
def workErr (xs : List (Int × Int × Nat)) (gap : Int) (x y : Rat) : Int :=
 if 256 < xs.length then 4 else if gapB gap = false then 1 else if 0 < cmpR x y then 7 else firstErr (airErr xs) xs.length
def rightP (t : Int × Int × Nat) (dust : Int) (x y : Rat) : Bool := decide (t.2.1 ≤ dust) && (decide (cmpR x (tempQ t.2.2) ≤ 0) && decide (cmpR (tempQ t.2.2) y ≤ 0))
def rightAt (xs : List (Int × Int × Nat)) (dust : Int) (x y : Rat) (i : Nat) : Bool := rightP (xs.getD i (0, 0, 0)) dust x y
def joinB (xs : List (Int × Int × Nat)) (dust gap : Int) (x y : Rat) (i : Nat) : Bool :=
 rightAt xs dust x y (i - 1) && (rightAt xs dust x y i && decide ((xs.getD i (0, 0, 0)).1 - (xs.getD (i - 1) (0, 0, 0)).1 ≤ gap))
def addSpan (l : List (Int × Int)) (a b : Int) : List (Int × Int) :=
 if 0 < l.length ∧ (l.getD (l.length - 1) (0, 0)).2 = a then l.set (l.length - 1) ((l.getD (l.length - 1) (0, 0)).1, b) else l ++ [(a, b)]
def workTo (xs : List (Int × Int × Nat)) (dust gap : Int) (x y : Rat) : Nat → List (Int × Int)
 | 0 => []
 | i + 1 => if i = 0 then [] else if joinB xs dust gap x y i = true then addSpan (workTo xs dust gap x y i) (xs.getD (i - 1) (0, 0, 0)).1 (xs.getD i (0, 0, 0)).1 else workTo xs dust gap x y i
def workL (xs : List (Int × Int × Nat)) (dust gap : Int) (x y : Rat) : List (Int × Int) := if workErr xs gap x y = 0 then workTo xs dust gap x y xs.length else []

theorem addSpan_length (l : List (Int × Int)) (a b : Int) : (addSpan l a b).length ≤ l.length + 1 := by
 unfold addSpan
 split
 ·
  simp
 ·
  simp
theorem workTo_length (xs : List (Int × Int × Nat)) (dust gap : Int) (x y : Rat) (i : Nat) : (workTo xs dust gap x y i).length ≤ i := by
 induction i with
 | zero => simp [workTo]
 | succ i ih =>
  unfold workTo
  split
  ·
   simp
  ·
   split
   ·
    have := addSpan_length (workTo xs dust gap x y i) (xs.getD (i - 1) (0, 0, 0)).1 (xs.getD i (0, 0, 0)).1
    omega
   ·
    omega
theorem workTo_skip {xs : List (Int × Int × Nat)} {dust gap : Int} {x y : Rat} {i : Nat} (hi : 1 ≤ i) (h : joinB xs dust gap x y i = false) : workTo xs dust gap x y (i + 1) = workTo xs dust gap x y i := by
 rw [workTo, if_neg (by omega), if_neg (by rw [h]; decide)]
theorem workTo_join {xs : List (Int × Int × Nat)} {dust gap : Int} {x y : Rat} {i : Nat} (hi : 1 ≤ i) (h : joinB xs dust gap x y i = true) : workTo xs dust gap x y (i + 1) = addSpan (workTo xs dust gap x y i) (xs.getD (i - 1) (0, 0, 0)).1 (xs.getD i (0, 0, 0)).1 := by
 rw [workTo, if_neg (by omega), if_pos h]
theorem addSpan_new {l : List (Int × Int)} {a b : Int} (h : ¬ (0 < l.length ∧ (l.getD (l.length - 1) (0, 0)).2 = a)) : addSpan l a b = l ++ [(a, b)] := by
 unfold addSpan; rw [if_neg h]
theorem pairCells_set (l : List (Int × Int)) : ∀ (j : Nat) (b : Int), j < l.length → (pairCells l).set (j * 2 + 1) (.int .i64 b) = pairCells (l.set j ((l.getD j (0, 0)).1, b)) := by
 induction l with
 | nil => intro j b hj; simp at hj
 | cons r l ih =>
  intro j b hj
  cases j with
  | zero => simp [pairCells]
  | succ j =>
   have := ih j b (by simpa using hj)
   rw [show (j + 1) * 2 + 1 = (j * 2 + 1) + 2 by omega]
   simpa [pairCells] using this

theorem LRow.stored {w : World} {base : Nat} {e : TypeId} {size g n cap : Nat} {xs : List Value} (h : LRow w base e size (.slice (some ⟨g, 0, none⟩) n cap) n xs) (j : Nat) (u : Value) (hu : noDig u) :
  LRow (w.setCell ⟨g, j, none⟩ u) base e size (.slice (some ⟨g, 0, none⟩) n cap) n (xs.set j u) ∧ w.grownBy (w.setCell ⟨g, j, none⟩ u) (some g) := by
 obtain ⟨h1, h2⟩ := h.1.stored j u
 refine ⟨⟨h1, fun g' hg' k v hv => ?_⟩, h2⟩
 obtain rfl : g = g' := by simpa [Value.ownBlock] using hg'
 by_cases hk : k = j
 ·
  subst hk
  rcases h1.2 with ⟨h', _⟩ | ⟨g', cap', cur, h', hb, hg, _⟩
  ·
   simp at h'
  ·
   simp only [Value.slice.injEq, Option.some.injEq, Addr.mk.injEq, and_true, true_and] at h'
   obtain ⟨rfl, rfl⟩ := h'
   rcases h.1.2 with ⟨h', _⟩ | ⟨g', cap', cur', h', hb', hg', _⟩
   ·
    simp at h'
   ·
    simp only [Value.slice.injEq, Option.some.injEq, Addr.mk.injEq, and_true, true_and] at h'
    obtain ⟨rfl, rfl⟩ := h'
    have e1 := heap_setCell_same w g k cur' e u hg'
    rw [cell_of_row _ g k _ e (0, 0) e1] at hv
    by_cases hl : k < cur'.size
    ·
     simp [hl] at hv
     subst hv
     exact hu
    ·
     simp [hl] at hv
 ·
  refine h.2 g rfl k v ?_
  rcases h.1.2 with ⟨h', _⟩ | ⟨g', cap', cur', h', hb', hg', _⟩
  ·
   simp at h'
  ·
   simp only [Value.slice.injEq, Option.some.injEq, Addr.mk.injEq, and_true, true_and] at h'
   obtain ⟨rfl, rfl⟩ := h'
   have e1 := heap_setCell_same w g j cur' e u hg'
   rw [cell_of_row _ g k _ e (0, 0) e1] at hv
   rw [cell_of_row _ g k _ e (0, 0) hg', ← hv]
   rw [Array.getElem?_setIfInBounds, if_neg (fun h => hk h.symm)]

def rights (xs : List (Int × Int × Nat)) (dust : Int) (x y : Rat) (n : Nat) : List Value := (List.range n).map fun j => .bool (rightAt xs dust x y j)
theorem rights_succ (xs : List (Int × Int × Nat)) (dust : Int) (x y : Rat) (n : Nat) : rights xs dust x y (n + 1) = rights xs dust x y n ++ [.bool (rightAt xs dust x y n)] := by
 unfold rights
 rw [List.range_succ, List.map_append]
 rfl
theorem rights_get (xs : List (Int × Int × Nat)) (dust : Int) (x y : Rat) (n j : Nat) (hj : j < n) : (rights xs dust x y n)[j]? = some (.bool (rightAt xs dust x y j)) := by
 unfold rights
 simp [hj]
def BoolsOf (w : World) (v : Value) (n : Nat) (f : Nat → Bool) : Prop :=
 ∃ ao cap, v = .slice ao n cap ∧ (0 < n → ∃ g, ao = some ⟨g, 0, none⟩ ∧ g < w.heap.size ∧ ∀ j, j < n → w.cell? ⟨g, j, none⟩ = some (.bool (f j)))
theorem BoolsOf.ofRow {w : World} {base : Nat} {e : TypeId} {v : Value} {n : Nat} {xs : List (Int × Int × Nat)} {dust : Int} {x y : Rat} (h : LRow w base e 1 v n (rights xs dust x y n)) : BoolsOf w v n (rightAt xs dust x y) := by
 rcases Nat.eq_zero_or_pos n with h0 | hp
 ·
  rcases h.1.2 with ⟨rfl, _⟩ | ⟨g, cap, cur, rfl, _⟩
  ·
   exact ⟨none, 0, by rw [h0], fun h => absurd h (by omega)⟩
  ·
   exact ⟨_, _, rfl, fun h => absurd h (by omega)⟩
 ·
  obtain ⟨g, cap, rfl⟩ := ownsRow_some h.1 hp
  have hc : ∀ j u, (rights xs dust x y n)[j]? = some u → w.cell? ((⟨g, 0, none⟩ : Addr).add j) = some u := h.1.cells (g := g) rfl
  have hlt : g < w.heap.size := (h.lt rfl).1
  refine ⟨_, _, rfl, fun _ => ⟨g, rfl, hlt, fun j hj => ?_⟩⟩
  have ea : (⟨g, 0, none⟩ : Addr).add j = ⟨g, j, none⟩ := by unfold Addr.add; split <;> simp_all
  rw [← ea]
  exact hc j _ (rights_get xs dust x y n j hj)
theorem nd1b (b : Bool) : ∀ u ∈ [Value.bool b], noDig u := by
 intro u hu
 simp at hu
 rw [hu]
 exact noDig_bool _
theorem one1b (b : Bool) : ∀ u ∈ [Value.bool b], u.oneCell' = true := by simp [Value.oneCell']
theorem zd1b : ∀ u ∈ (Value.bool false).cells.toList, noDig u := by
 intro u hu
 simp [Value.cells] at hu
 rw [hu]
 exact noDig_bool _
theorem cell_new1b (w : World) (a : Value) (t : TypeId) : ∀ j u, [a][j]? = some u → (w.alloc (.cells #[a] t)).cell? ((⟨w.heap.size, 0, none⟩ : Addr).add j) = some u := by
 intro j u hj
 match j, hj with
 | 0, hj => simp at hj; subst hj; simp [Addr.add]
 | j + 1, hj => simp at hj
theorem info_bool : (Try.prog.info? 4).map (fun i => (i.zero, i.size, i.bytes)) = some (some (.bool false), 1, 1) := by kernel_rfl
theorem info_span : (Try.prog.info? 58).map (fun i => (i.zero, i.size, i.bytes)) = some (some (.agg #[.int .i64 0, .int .i64 0]), 2, 16) := by kernel_rfl

theorem work_ok {xs : List (Int × Int × Nat)} {n : Nat} (h : firstErr (airErr xs) n = 0) : ∀ i, i < n → 0 ≤ (xs.getD i (0, 0, 0)).1 ∧ (xs.getD i (0, 0, 0)).1 ≤ 1073741824 := by
 intro i hi
 have h1 := firstErr_all h i hi
 unfold airErr at h1
 split at h1
 ·
  omega
 ·
  rename_i h2
  refine timeB_spec ?_
  cases h3 : timeB (xs.getD i (0, 0, 0)).1
  ·
   exact absurd (.inl h3) h2
  ·
   rfl

theorem two_alloc {A B : Addr} {u v : Value} {a : World} (o : Obj) (h : a.cell? A = some u ∧ a.cell? B = some v) : (a.alloc o).cell? A = some u ∧ (a.alloc o).cell? B = some v :=
 ⟨(((Below.refl a.heap.size a).alloc (Nat.le_refl _) o).cell (World.block_lt_of_cell? (h := h.1))).trans h.1, (((Below.refl a.heap.size a).alloc (Nat.le_refl _) o).cell (World.block_lt_of_cell? (h := h.2))).trans h.2⟩
theorem two_grown {A B : Addr} {u v : Value} {a b : World} {row : Option Nat} (hg : a.grownBy b row) (hA : some A.block ≠ row) (hB : some B.block ≠ row) (h : a.cell? A = some u ∧ a.cell? B = some v) : b.cell? A = some u ∧ b.cell? B = some v :=
 ⟨(World.cell?_of_block (hg.block _ (World.block_lt_of_cell? (h := h.1)) hA)).trans h.1, (World.cell?_of_block (hg.block _ (World.block_lt_of_cell? (h := h.2)) hB)).trans h.2⟩
theorem LRow.form {w : World} {base : Nat} {e : TypeId} {size : Nat} {v : Value} {n : Nat} {xs : List Value} (h : LRow w base e size v n xs) : ∃ ao cap, v = .slice ao n cap := by
 rcases h.1.2 with ⟨rfl, rfl⟩ | ⟨g, cap, cur, rfl, _⟩
 ·
  exact ⟨none, 0, rfl⟩
 ·
  exact ⟨_, _, rfl⟩
theorem LRow.at {w : World} {base : Nat} {e : TypeId} {size g n cap : Nat} {xs : List Value} (h : LRow w base e size (.slice (some ⟨g, 0, none⟩) n cap) n xs) {j : Nat} {u : Value} (hj : xs[j]? = some u) : w.cell? ⟨g, j, none⟩ = some u := by
 have hc : ∀ j u, xs[j]? = some u → w.cell? ((⟨g, 0, none⟩ : Addr).add j) = some u := h.1.cells (g := g) rfl
 have ea : (⟨g, 0, none⟩ : Addr).add j = ⟨g, j, none⟩ := by unfold Addr.add; split <;> simp_all
 rw [← ea]
 exact hc j u hj

end Go.Proofs.Ytanmcbbnnjamoaa

namespace Go.Proofs.Ytanmcbbnnjamoaa
open Go.RowKit

set_option maxRecDepth 100000 in
set_option maxHeartbeats 16000000 in
theorem working_any (xs : List (Int × Int × Nat)) (dust gap : Int) (x y : Rat) (va l0 l1 l2 m0 m1 m2 : Value) (w : World) (ha : AirsOf w va xs) (hx : IsRat w (.agg #[l0, l1, l2]) x) (hy : IsRat w (.agg #[m0, m1, m2]) y) (hsx : szR x 274877906944) (hsy : szR y 274877906944) :
  Calls Try.prog 13 #[va, .agg #[.int .i64 dust, l0, l1, l2, m0, m1, m2, .int .i64 gap]] w (RetPlan (workL xs dust gap x y) (workErr xs gap x y) w) := by
 obtain ⟨a1, c1, a2, c2, e1, _, _⟩ := hx.opened
 obtain ⟨a3, c3, a4, c4, e2, _, _⟩ := hy.opened
 simp only [Value.agg.injEq, Array.mk.injEq, List.cons.injEq, and_true] at e1 e2
 obtain ⟨rfl, rfl, rfl⟩ := e1
 obtain ⟨rfl, rfl, rfl⟩ := e2
 have HX := Lib.hid hx
 have HY := Lib.hid hy
 have HA := Lib.hid ha
 obtain ⟨ao, cap, rfl, _⟩ := ha
 have Hsx := Lib.hid hsx
 have Hsy := Lib.hid hsy
 clear hx hy hsx hsy
 generalize decide (x.num < 0) = s1 at *
 generalize decide (y.num < 0) = s2 at *
 generalize (dig b64 x.num.natAbs).length = n1 at *
 generalize (dig b64 (dn x.den)).length = n2 at *
 generalize (dig b64 y.num.natAbs).length = n3 at *
 generalize (dig b64 (dn y.den)).length = n4 at *
 have hal := (Below.refl w.heap.size w).alloc (Nat.le_refl _) (.cells #[.int .i64 dust, .bool s1, .slice a1 n1 c1, .slice a2 n2 c2, .bool s2, .slice a3 n3 c3, .slice a4 n4 c4, .int .i64 gap] 53)
 have hB := blk_new w #[.int .i64 dust, .bool s1, .slice a1 n1 c1, .slice a2 n2 c2, .bool s2, .slice a3 n3 c3, .slice a4 n4 c4, .int .i64 gap] 53
 have r7 := blk_cell hB 7 (.int .i64 gap) rfl
 by_cases h1 : 256 < xs.length
 ·
  have t1 : decide ((xs.length : Int) > 256) = true := by simp; omega
  have Hv : Hid (workErr xs gap x y = 4) := by show _ = _; unfold workErr; rw [if_pos h1]
  have Hl : Hid (workL xs dust gap x y = []) := by show _ = _; unfold workL; rw [Hv.out, if_neg (by decide)]
  clear h1
  go_enter Try.func13, Try.ntmps13
  go_wp2_with fail
  go_ret2
  exact ⟨.slice none 0 0, by rw [Hv.out]; rfl, by rw [Hl.out]; exact PairsOf.nil _, hal⟩
 ·
  have t1 : decide ((xs.length : Int) > 256) = false := by simp; omega
  have hlen : xs.length ≤ 256 := by omega
  have Hw1 : Hid (workErr xs gap x y = if gapB gap = false then 1 else if 0 < cmpR x y then 7 else firstErr (airErr xs) xs.length) := by show _ = _; unfold workErr; rw [if_neg h1]
  clear h1
  cases hg : gapB gap with
  | false =>
   have Hv : Hid (workErr xs gap x y = 1) := by show _ = _; rw [Hw1.out, if_pos hg]
   have Hl : Hid (workL xs dust gap x y = []) := by show _ = _; unfold workL; rw [Hv.out, if_neg (by decide)]
   go_enter Try.func13, Try.ntmps13
   go_wp2_with fail
   refine (gap_any gap _).mono ?_
   rintro e wz ⟨rfl, rfl⟩
   rw [hg]
   go_wp2_with fail
   go_ret2
   exact ⟨.slice none 0 0, by rw [Hv.out]; rfl, by rw [Hl.out]; exact PairsOf.nil _, hal⟩
  | true =>
   have Hw2 : Hid (workErr xs gap x y = if 0 < cmpR x y then 7 else firstErr (airErr xs) xs.length) := by show _ = _; rw [Hw1.out, if_neg (by rw [hg]; decide)]
   clear Hw1
   have r1 := blk_cell hB 1 (.bool s1) rfl
   have r2 := blk_cell hB 2 (.slice a1 n1 c1) rfl
   have r3 := blk_cell hB 3 (.slice a2 n2 c2) rfl
   have r4 := blk_cell hB 4 (.bool s2) rfl
   have r5 := blk_cell hB 5 (.slice a3 n3 c3) rfl
   have r6 := blk_cell hB 6 (.slice a4 n4 c4) rfl
   have HX1 := Lib.hid (HX.out.below hal)
   have HY1 := Lib.hid (HY.out.below hal)
   have HA1 := Lib.hid (HA.out.below hal)
   go_enter Try.func13, Try.ntmps13
   go_wp2_with fail
   refine (gap_any gap _).mono ?_
   rintro e wz ⟨rfl, rfl⟩
   rw [hg]
   clear hg
   go_wp2_with fail
   refine (cmpRat_any x y _ _ _ HX1.out HY1.out Hsx.out Hsy.out).mono ?_
   rintro e w2 ⟨rfl, hb2⟩
   have hx2 := ext_trans hal hb2
   by_cases h3 : 0 < cmpR x y
   ·
    have t3 : decide (cmpR x y > 0) = true := decide_eq_true h3
    have Hv : Hid (workErr xs gap x y = 7) := by show _ = _; rw [Hw2.out, if_pos h3]
    have Hl : Hid (workL xs dust gap x y = []) := by show _ = _; unfold workL; rw [Hv.out, if_neg (by decide)]
    clear h3
    generalize cmpR x y = cv at *
    go_wp2_with fail
    go_ret2
    exact ⟨.slice none 0 0, by rw [Hv.out]; rfl, by rw [Hl.out]; exact PairsOf.nil _, hx2⟩
   ·
    have t3 : decide (cmpR x y > 0) = false := decide_eq_false h3
    have Hw : Hid (workErr xs gap x y = firstErr (airErr xs) xs.length) := by show _ = _; rw [Hw2.out, if_neg h3]
    have HX2 := Lib.hid (HX1.out.below hb2)
    have HY2 := Lib.hid (HY1.out.below hb2)
    have HA2 := Lib.hid (HA1.out.below hb2)
    have hB2 := blk_keep hB hb2 (by simp)
    have hBl2 := blk_lt hB2
    clear h3 Hw2 HX HY HX1 HY1 HA HA1 r1 r2 r3 r4 r5 r6 r7 hB hb2 hal
    generalize cmpR x y = cv at *
    have hsf := run_store_f32
    obtain ⟨iB, hiB, hzB, hsB, hyB⟩ := info_parts info_bool
    obtain ⟨iS, hiS, hzS, hsS, hyS⟩ := info_parts info_span
    go_wp2_with fail
    go_loopw [6, 32] (fun rv iv wr => ∃ (i : Nat), i ≤ xs.length ∧ iv = .int .i64 i ∧ Hid (firstErr (airErr xs) i = 0) ∧ LRow wr w2.heap.size 4 1 rv i (rights xs dust x y i) ∧ Below w2.heap.size w2 wr)
     (fun _ iv _ => xs.length - (intOf iv).toNat)
    case atStart => exact ⟨0, Nat.zero_le _, rfl, rfl, LRow.nil _ _ _ _, Below.refl _ _⟩
    case round =>
     obtain ⟨i, hi, rfl, hF, hL, hbel⟩ := hrel
     by_cases hlt : i < xs.length
     ·
      obtain ⟨ao', cap', ea, hA⟩ := HA2.out
      simp only [Value.slice.injEq, true_and] at ea
      obtain ⟨rfl, rfl⟩ := ea
      obtain ⟨b, off, rfl, hbl, hEE⟩ := hA (by omega)
      obtain ⟨g0, g1, g2⟩ := (hEE i hlt).below hbel hbl
      have HEE := Lib.hid hEE
      have hst := Lib.hid (firstErr_step hF.out)
      have hstay : Hid (airErr xs i ≠ 0 → workErr xs gap x y = airErr xs i) := fun h => by
       rw [Hw.out, ← hst.out]
       exact firstErr_stay (by rw [hst.out]; exact h) hlt
      have hlt' : (i : Int) < xs.length := by omega
      have hge' : (0 : Int) ≤ i := by omega
      have hbl2 : b < wr.heap.size := Nat.lt_of_lt_of_le hbl hbel.size
      have Hent0 : Hid (airErr xs i = if timeB (xs.getD i (0, 0, 0)).1 = false ∨ (xs.getD i (0, 0, 0)).2.1 < 0 ∨ tempOk (xs.getD i (0, 0, 0)).2.2 = false then 1 else if 0 < i ∧ (xs.getD i (0, 0, 0)).1 ≤ (xs.getD (i - 1) (0, 0, 0)).1 then 7 else 0) := rfl
      have Hri : Hid (rightAt xs dust x y i = (decide ((xs.getD i (0, 0, 0)).2.1 ≤ dust) && (decide (cmpR x (tempQ (xs.getD i (0, 0, 0)).2.2) ≤ 0) && decide (cmpR (tempQ (xs.getD i (0, 0, 0)).2.2) y ≤ 0)))) := rfl
      have bad : ∀ k : Int, airErr xs i = k → k ≠ 0 → Hid (workErr xs gap x y = k ∧ workL xs dust gap x y = []) := fun k h hk => by
       have h2 : workErr xs gap x y = k := by rw [hstay.out (by rw [h]; exact hk), h]
       exact ⟨h2, by unfold workL; rw [h2, if_neg hk]⟩
      clear hEE hA
      generalize hty : (xs.getD i (0, 0, 0)).1 = ty at *
      generalize (xs.getD i (0, 0, 0)).2.1 = du at *
      generalize (xs.getD i (0, 0, 0)).2.2 = bt at *
      clear hty
      have hBr := blk_keep hB2 hbel hBl2
      have hal1 := (Below.refl wr.heap.size wr).alloc (Nat.le_refl _) (.cells #[.int .i64 ty, .int .i64 du, .float .f32 bt] 49)
      have hN := blk_new wr #[.int .i64 ty, .int .i64 du, .float .f32 bt] 49
      have hsq := tempQ_szR bt
      have Hsq : Hid (szR (tempQ bt) 274877906944) := ⟨Nat.le_trans hsq.1 (by omega), Nat.le_trans hsq.2 (by omega)⟩
      clear hsq
      go_wp2_with fail
      refine (exact_any bt _).mono ?_
      rintro e w3 ⟨v, rfl, hv, hb3⟩
      have hxa : Below wr.heap.size wr w3 := ext_trans hal1 hb3
      obtain ⟨a5, c5, a6, c6, rfl, _, _⟩ := hv.opened
      have HQ := Lib.hid hv
      have hN3 := blk_keep hN hb3 (by simp)
      have q0 := blk_cell hN3 0 (.int .i64 ty) rfl
      have q1 := blk_cell hN3 1 (.int .i64 du) rfl
      clear hv hb3 hal1 hN
      generalize tempQ bt = q at *
      generalize hs5 : decide (q.num < 0) = s5 at *
      generalize hn5 : (dig b64 q.num.natAbs).length = n5 at *
      generalize hn6 : (dig b64 (dn q.den)).length = n6 at *
      clear hs5 hn5 hn6
      have hxb : Below wr.heap.size wr (w3.alloc (.cells #[.bool s5, .slice a5 n5 c5, .slice a6 n6 c6] 40)) := hxa.alloc hxa.size _
      have hx4 : Below w2.heap.size w2 (w3.alloc (.cells #[.bool s5, .slice a5 n5 c5, .slice a6 n6 c6] 40)) := hbel.trans (hxb.mono hbel.size)
      have hN4 : (w3.alloc (.cells #[.bool s5, .slice a5 n5 c5, .slice a6 n6 c6] 40)).heap[wr.heap.size]? = some (.cells #[.int .i64 ty, .int .i64 du, .float .f32 bt] 49 (0, 0)) := blk_keep hN3 ((Below.refl _ _).alloc (Nat.le_refl _) _) (blk_lt hN3)
      have hBl4 := blk_lt hN4
      have u0 := blk_cell hN4 0 (.int .i64 ty) rfl
      have u1 := blk_cell hN4 1 (.int .i64 du) rfl
      go_wp2_with fail
      refine (time_any ty _).mono ?_
      rintro e wz ⟨rfl, rfl⟩
      cases hT : timeB ty with
      | false =>
       have Hv := bad 1 (by rw [Hent0.out, if_pos (.inl hT)]) (by decide)
       clear bad hT
       go_wp2_with fail
       go_ret2
       exact ⟨.slice none 0 0, by rw [Hv.out.1]; rfl, by rw [Hv.out.2]; exact PairsOf.nil _, hx2.trans (hx4.mono hx2.size)⟩
      | true =>
       by_cases hdu : du < 0
       ·
        have td : decide (du < 0) = true := decide_eq_true hdu
        have Hv := bad 1 (by rw [Hent0.out, if_pos (.inr (.inl hdu))]) (by decide)
        clear bad hT hdu
        go_wp2_with fail
        go_ret2
        exact ⟨.slice none 0 0, by rw [Hv.out.1]; rfl, by rw [Hv.out.2]; exact PairsOf.nil _, hx2.trans (hx4.mono hx2.size)⟩
       ·
        have td : decide (du < 0) = false := decide_eq_false hdu
        cases hK : tempOk bt with
        | false =>
         have Hv := bad 1 (by rw [Hent0.out, if_pos (.inr (.inr hK))]) (by decide)
         clear bad hT hdu hK
         go_wp2_with fail
         go_ret2
         exact ⟨.slice none 0 0, by rw [Hv.out.1]; rfl, by rw [Hv.out.2]; exact PairsOf.nil _, hx2.trans (hx4.mono hx2.size)⟩
        | true =>
         have Hent : Hid (airErr xs i = if 0 < i ∧ ty ≤ (xs.getD (i - 1) (0, 0, 0)).1 then 7 else 0) := by
          show _ = _
          rw [Hent0.out, if_neg (by rw [hT, hK]; simp; omega)]
         clear hT hK hdu Hent0
         have hxd : Below wr.heap.size wr (w3.alloc (.cells #[.bool s5, .slice a5 n5 c5, .slice a6 n6 c6] 40)).drew := hxb.drew
         have hN5 : (w3.alloc (.cells #[.bool s5, .slice a5 n5 c5, .slice a6 n6 c6] 40)).drew.heap[wr.heap.size]? = some (.cells #[.int .i64 ty, .int .i64 du, .float .f32 bt] 49 (0, 0)) := hN4
         have hD5 : (w3.alloc (.cells #[.bool s5, .slice a5 n5 c5, .slice a6 n6 c6] 40)).drew.heap[w3.heap.size]? = some (.cells #[.bool s5, .slice a5 n5 c5, .slice a6 n6 c6] 40 (0, 0)) := blk_new w3 #[.bool s5, .slice a5 n5 c5, .slice a6 n6 c6] 40
         have HQ5 := Lib.hid (HQ.out.below ((Below.refl w3.heap.size w3).alloc (Nat.le_refl _) (.cells #[.bool s5, .slice a5 n5 c5, .slice a6 n6 c6] 40)).drew)
         rcases Nat.eq_zero_or_pos i with hi0 | hi0
         ·
          have ti : decide (0 < i) = false := by simp [hi0]
          have Hv : Hid (firstErr (airErr xs) (i + 1) = 0) := by
           show _ = _
           rw [hst.out, Hent.out, if_neg (by omega)]
          clear hi0 bad
          go_wp2_with fail
          go_region
          clear ti
          generalize (w3.alloc (.cells #[.bool s5, .slice a5 n5 c5, .slice a6 n6 c6] 40)).drew = W5 at *
          generalize w3.heap.size = D5 at *
          have b1 := blk_cell hN5 1 (.int .i64 du) rfl
          have hNl5 := blk_lt hN5
          have hB5 := blk_keep hBr hxd (blk_lt hBr)
          have hBl5 := blk_lt hB5
          have p0 := blk_cell hB5 0 (.int .i64 dust) rfl
          have p1 := blk_cell hB5 1 (.bool s1) rfl
          have p2 := blk_cell hB5 2 (.slice a1 n1 c1) rfl
          have p3 := blk_cell hB5 3 (.slice a2 n2 c2) rfl
          have d0 := blk_cell hD5 0 (.bool s5) rfl
          have d1 := blk_cell hD5 1 (.slice a5 n5 c5) rfl
          have d2 := blk_cell hD5 2 (.slice a6 n6 c6) rfl
          have hDl5 := blk_lt hD5
          have HX5 := Lib.hid (HX2.out.below (hbel.trans (hxd.mono hbel.size)))
          have HY5 := Lib.hid (HY2.out.below (hbel.trans (hxd.mono hbel.size)))
          clear hBr hxb hx4 hN4 u0 u1 hN3 q0 q1 hxa HQ g0 g1 g2 hN5
          by_cases hdd : du ≤ dust
          ·
           have tdd : decide (du ≤ dust) = true := decide_eq_true hdd
           have Hr2 : Hid (rightAt xs dust x y i = (decide (cmpR x q ≤ 0) && decide (cmpR q y ≤ 0))) := by show _ = _; rw [Hri.out, tdd]; simp
           clear hdd Hri
           go_wp2_with fail
           refine (cmpRat_any x q _ _ _ HX5.out HQ5.out Hsx.out Hsq.out).mono ?_
           rintro e w6 ⟨rfl, hb6⟩
           have hx6 := ext_trans hxd hb6
           have hD6 := blk_keep hD5 hb6 hDl5
           have hB6 := blk_keep hB5 hb6 hBl5
           by_cases h6 : cmpR x q ≤ 0
           ·
            have t6 : decide (cmpR x q ≤ 0) = true := decide_eq_true h6
            have Hr3 : Hid (rightAt xs dust x y i = decide (cmpR q y ≤ 0)) := by show _ = _; rw [Hr2.out, t6]; simp
            have HQ6 := Lib.hid (HQ5.out.below hb6)
            have HY6 := Lib.hid (HY5.out.below hb6)
            have z0 := blk_cell hD6 0 (.bool s5) rfl
            have z1 := blk_cell hD6 1 (.slice a5 n5 c5) rfl
            have z2 := blk_cell hD6 2 (.slice a6 n6 c6) rfl
            have z4 := blk_cell hB6 4 (.bool s2) rfl
            have z5 := blk_cell hB6 5 (.slice a3 n3 c3) rfl
            have z6 := blk_cell hB6 6 (.slice a4 n4 c4) rfl
            have hDl6 := blk_lt hD6
            have hBl6 := blk_lt hB6
            clear h6 Hr2 hb6 hxd d0 d1 d2 p0 p1 p2 p3 b1
            generalize cmpR x q = cw at *
            go_wp2_with fail
            refine (cmpRat_any q y _ _ _ HQ6.out HY6.out Hsq.out Hsy.out).mono ?_
            rintro e w7 ⟨rfl, hb7⟩
            have hx7 := ext_trans hx6 hb7
            clear hb7 z0 z1 z2 z4 z5 z6 hx6
            generalize cmpR q y = cz at *
            have hxz : Below wr.heap.size wr (w7.alloc (.cells #[.bool (decide (cz ≤ 0))] 4)) := (hx7).alloc (hx7).size _
            have HLz := Lib.hid (hL.below hxz)
            have hsz : w2.heap.size ≤ (w7.alloc (.cells #[.bool (decide (cz ≤ 0))] 4)).heap.size := Nat.le_trans hbel.size hxz.size
            clear hL
            go_wp2_with (at_builtin; refine wpList_append_lrow _ rfl (.tmp 71) (.tmp 91) 92 rfl w2.heap.size 4 iB _ 1 1 Try.underlying92 hiB hzB hsB hyB rfl (by decide) zd1b _ _ _ rfl HLz.out ⟨w7.heap.size, 0, none⟩ 1 1 [.bool (decide (cz ≤ 0))] rfl rfl (cell_new1b _ _ _) (one1b _) (nd1b _) (by omega) (by unfold maxLen; omega) (by omega) hsz ?_)
            intro g cap9 w8 hL8 hgr hat
            have hx8 : Below w2.heap.size w2 w8 := (hbel.trans (hxz.mono hbel.size)).grown hgr hsz (ownBlock_base HLz.out.1)
            go_wp2_with fail
            exact ⟨⟨i + 1, by omega, by go_num, Hv.out, by rw [rights_succ, Hr3.out]; exact hL8, hx8⟩, meas_up hlt⟩
           ·
            have t6 : decide (cmpR x q ≤ 0) = false := decide_eq_false h6
            have Hr3 : Hid (rightAt xs dust x y i = false) := by show _ = _; rw [Hr2.out, t6]; simp
            clear h6 Hr2 hb6 hxd d0 d1 d2 p0 p1 p2 p3 b1
            generalize cmpR x q = cw at *
            have hxz : Below wr.heap.size wr (w6.alloc (.cells #[.bool (false)] 4)) := (hx6).alloc (hx6).size _
            have HLz := Lib.hid (hL.below hxz)
            have hsz : w2.heap.size ≤ (w6.alloc (.cells #[.bool (false)] 4)).heap.size := Nat.le_trans hbel.size hxz.size
            clear hL
            go_wp2_with (at_builtin; refine wpList_append_lrow _ rfl (.tmp 71) (.tmp 91) 92 rfl w2.heap.size 4 iB _ 1 1 Try.underlying92 hiB hzB hsB hyB rfl (by decide) zd1b _ _ _ rfl HLz.out ⟨w6.heap.size, 0, none⟩ 1 1 [.bool (false)] rfl rfl (cell_new1b _ _ _) (one1b _) (nd1b _) (by omega) (by unfold maxLen; omega) (by omega) hsz ?_)
            intro g cap9 w8 hL8 hgr hat
            have hx8 : Below w2.heap.size w2 w8 := (hbel.trans (hxz.mono hbel.size)).grown hgr hsz (ownBlock_base HLz.out.1)
            go_wp2_with fail
            exact ⟨⟨i + 1, by omega, by go_num, Hv.out, by rw [rights_succ, Hr3.out]; exact hL8, hx8⟩, meas_up hlt⟩
          ·
           have tdd : decide (du ≤ dust) = false := decide_eq_false hdd
           have Hr3 : Hid (rightAt xs dust x y i = false) := by show _ = _; rw [Hri.out, tdd]; simp
           clear hdd Hri
           have hxz : Below wr.heap.size wr (W5.alloc (.cells #[.bool (false)] 4)) := (hxd).alloc (hxd).size _
           have HLz := Lib.hid (hL.below hxz)
           have hsz : w2.heap.size ≤ (W5.alloc (.cells #[.bool (false)] 4)).heap.size := Nat.le_trans hbel.size hxz.size
           clear hL
           go_wp2_with (at_builtin; refine wpList_append_lrow _ rfl (.tmp 71) (.tmp 91) 92 rfl w2.heap.size 4 iB _ 1 1 Try.underlying92 hiB hzB hsB hyB rfl (by decide) zd1b _ _ _ rfl HLz.out ⟨W5.heap.size, 0, none⟩ 1 1 [.bool (false)] rfl rfl (cell_new1b _ _ _) (one1b _) (nd1b _) (by omega) (by unfold maxLen; omega) (by omega) hsz ?_)
           intro g cap9 w8 hL8 hgr hat
           have hx8 : Below w2.heap.size w2 w8 := (hbel.trans (hxz.mono hbel.size)).grown hgr hsz (ownBlock_base HLz.out.1)
           go_wp2_with fail
           exact ⟨⟨i + 1, by omega, by go_num, Hv.out, by rw [rights_succ, Hr3.out]; exact hL8, hx8⟩, meas_up hlt⟩
         ·
          have ti : decide (0 < i) = true := by simp [hi0]
          obtain ⟨j, hj⟩ : ∃ j, i = j + 1 := ⟨i - 1, by omega⟩
          obtain ⟨k0, _, _⟩ := (HEE.out j (by omega)).below hx4 hbl
          have e1' : IntKind.i64.wrap ((i : Int) - 1) = (j : Int) := by rw [show (i : Int) - 1 = (j : Int) by omega]; exact IntWalk.i64_in _ (by omega)
          have e2' : (i : Int) - 1 = (j : Int) := by omega
          have hj2 : (j : Int) < xs.length := by omega
          have hj0 : (0 : Int) ≤ j := by omega
          have hbl3 : b < (w3.alloc (.cells #[.bool s5, .slice a5 n5 c5, .slice a6 n6 c6] 40)).heap.size := Nat.lt_of_lt_of_le hbl hx4.size
          have e3 : i - 1 = j := by omega
          rw [e3] at Hent
          generalize (xs.getD j (0, 0, 0)).1 = tj at *
          by_cases hle : ty ≤ tj
          ·
           have hc : decide (ty ≤ tj) = true := decide_eq_true hle
           have Hv := bad 7 (by rw [Hent.out, if_pos ⟨hi0, hle⟩]) (by decide)
           clear hle hi0 hj e3 bad
           go_wp2_with fail
           go_region
           go_wp2_with fail
           go_ret2
           exact ⟨.slice none 0 0, by rw [Hv.out.1]; rfl, by rw [Hv.out.2]; exact PairsOf.nil _, hx2.trans (hx4.drew.mono hx2.size)⟩
          ·
           have hc : decide (ty ≤ tj) = false := decide_eq_false hle
           have Hv : Hid (firstErr (airErr xs) (i + 1) = 0) := by
            show _ = _
            rw [hst.out, Hent.out, if_neg (fun h => hle h.2)]
           clear hle hi0 hj e3 bad
           go_wp2_with fail
           go_region
           clear ti hc k0 e1' e2' hj2 hj0 hbl3
           generalize (w3.alloc (.cells #[.bool s5, .slice a5 n5 c5, .slice a6 n6 c6] 40)).drew = W5 at *
           generalize w3.heap.size = D5 at *
           have b1 := blk_cell hN5 1 (.int .i64 du) rfl
           have hNl5 := blk_lt hN5
           have hB5 := blk_keep hBr hxd (blk_lt hBr)
           have hBl5 := blk_lt hB5
           have p0 := blk_cell hB5 0 (.int .i64 dust) rfl
           have p1 := blk_cell hB5 1 (.bool s1) rfl
           have p2 := blk_cell hB5 2 (.slice a1 n1 c1) rfl
           have p3 := blk_cell hB5 3 (.slice a2 n2 c2) rfl
           have d0 := blk_cell hD5 0 (.bool s5) rfl
           have d1 := blk_cell hD5 1 (.slice a5 n5 c5) rfl
           have d2 := blk_cell hD5 2 (.slice a6 n6 c6) rfl
           have hDl5 := blk_lt hD5
           have HX5 := Lib.hid (HX2.out.below (hbel.trans (hxd.mono hbel.size)))
           have HY5 := Lib.hid (HY2.out.below (hbel.trans (hxd.mono hbel.size)))
           clear hBr hxb hx4 hN4 u0 u1 hN3 q0 q1 hxa HQ g0 g1 g2 hN5
           by_cases hdd : du ≤ dust
           ·
            have tdd : decide (du ≤ dust) = true := decide_eq_true hdd
            have Hr2 : Hid (rightAt xs dust x y i = (decide (cmpR x q ≤ 0) && decide (cmpR q y ≤ 0))) := by show _ = _; rw [Hri.out, tdd]; simp
            clear hdd Hri
            go_wp2_with fail
            refine (cmpRat_any x q _ _ _ HX5.out HQ5.out Hsx.out Hsq.out).mono ?_
            rintro e w6 ⟨rfl, hb6⟩
            have hx6 := ext_trans hxd hb6
            have hD6 := blk_keep hD5 hb6 hDl5
            have hB6 := blk_keep hB5 hb6 hBl5
            by_cases h6 : cmpR x q ≤ 0
            ·
             have t6 : decide (cmpR x q ≤ 0) = true := decide_eq_true h6
             have Hr3 : Hid (rightAt xs dust x y i = decide (cmpR q y ≤ 0)) := by show _ = _; rw [Hr2.out, t6]; simp
             have HQ6 := Lib.hid (HQ5.out.below hb6)
             have HY6 := Lib.hid (HY5.out.below hb6)
             have z0 := blk_cell hD6 0 (.bool s5) rfl
             have z1 := blk_cell hD6 1 (.slice a5 n5 c5) rfl
             have z2 := blk_cell hD6 2 (.slice a6 n6 c6) rfl
             have z4 := blk_cell hB6 4 (.bool s2) rfl
             have z5 := blk_cell hB6 5 (.slice a3 n3 c3) rfl
             have z6 := blk_cell hB6 6 (.slice a4 n4 c4) rfl
             have hDl6 := blk_lt hD6
             have hBl6 := blk_lt hB6
             clear h6 Hr2 hb6 hxd d0 d1 d2 p0 p1 p2 p3 b1
             generalize cmpR x q = cw at *
             go_wp2_with fail
             refine (cmpRat_any q y _ _ _ HQ6.out HY6.out Hsq.out Hsy.out).mono ?_
             rintro e w7 ⟨rfl, hb7⟩
             have hx7 := ext_trans hx6 hb7
             clear hb7 z0 z1 z2 z4 z5 z6 hx6
             generalize cmpR q y = cz at *
             have hxz : Below wr.heap.size wr (w7.alloc (.cells #[.bool (decide (cz ≤ 0))] 4)) := (hx7).alloc (hx7).size _
             have HLz := Lib.hid (hL.below hxz)
             have hsz : w2.heap.size ≤ (w7.alloc (.cells #[.bool (decide (cz ≤ 0))] 4)).heap.size := Nat.le_trans hbel.size hxz.size
             clear hL
             go_wp2_with (at_builtin; refine wpList_append_lrow _ rfl (.tmp 71) (.tmp 91) 92 rfl w2.heap.size 4 iB _ 1 1 Try.underlying92 hiB hzB hsB hyB rfl (by decide) zd1b _ _ _ rfl HLz.out ⟨w7.heap.size, 0, none⟩ 1 1 [.bool (decide (cz ≤ 0))] rfl rfl (cell_new1b _ _ _) (one1b _) (nd1b _) (by omega) (by unfold maxLen; omega) (by omega) hsz ?_)
             intro g cap9 w8 hL8 hgr hat
             have hx8 : Below w2.heap.size w2 w8 := (hbel.trans (hxz.mono hbel.size)).grown hgr hsz (ownBlock_base HLz.out.1)
             go_wp2_with fail
             exact ⟨⟨i + 1, by omega, by go_num, Hv.out, by rw [rights_succ, Hr3.out]; exact hL8, hx8⟩, meas_up hlt⟩
            ·
             have t6 : decide (cmpR x q ≤ 0) = false := decide_eq_false h6
             have Hr3 : Hid (rightAt xs dust x y i = false) := by show _ = _; rw [Hr2.out, t6]; simp
             clear h6 Hr2 hb6 hxd d0 d1 d2 p0 p1 p2 p3 b1
             generalize cmpR x q = cw at *
             have hxz : Below wr.heap.size wr (w6.alloc (.cells #[.bool (false)] 4)) := (hx6).alloc (hx6).size _
             have HLz := Lib.hid (hL.below hxz)
             have hsz : w2.heap.size ≤ (w6.alloc (.cells #[.bool (false)] 4)).heap.size := Nat.le_trans hbel.size hxz.size
             clear hL
             go_wp2_with (at_builtin; refine wpList_append_lrow _ rfl (.tmp 71) (.tmp 91) 92 rfl w2.heap.size 4 iB _ 1 1 Try.underlying92 hiB hzB hsB hyB rfl (by decide) zd1b _ _ _ rfl HLz.out ⟨w6.heap.size, 0, none⟩ 1 1 [.bool (false)] rfl rfl (cell_new1b _ _ _) (one1b _) (nd1b _) (by omega) (by unfold maxLen; omega) (by omega) hsz ?_)
             intro g cap9 w8 hL8 hgr hat
             have hx8 : Below w2.heap.size w2 w8 := (hbel.trans (hxz.mono hbel.size)).grown hgr hsz (ownBlock_base HLz.out.1)
             go_wp2_with fail
             exact ⟨⟨i + 1, by omega, by go_num, Hv.out, by rw [rights_succ, Hr3.out]; exact hL8, hx8⟩, meas_up hlt⟩
           ·
            have tdd : decide (du ≤ dust) = false := decide_eq_false hdd
            have Hr3 : Hid (rightAt xs dust x y i = false) := by show _ = _; rw [Hri.out, tdd]; simp
            clear hdd Hri
            have hxz : Below wr.heap.size wr (W5.alloc (.cells #[.bool (false)] 4)) := (hxd).alloc (hxd).size _
            have HLz := Lib.hid (hL.below hxz)
            have hsz : w2.heap.size ≤ (W5.alloc (.cells #[.bool (false)] 4)).heap.size := Nat.le_trans hbel.size hxz.size
            clear hL
            go_wp2_with (at_builtin; refine wpList_append_lrow _ rfl (.tmp 71) (.tmp 91) 92 rfl w2.heap.size 4 iB _ 1 1 Try.underlying92 hiB hzB hsB hyB rfl (by decide) zd1b _ _ _ rfl HLz.out ⟨W5.heap.size, 0, none⟩ 1 1 [.bool (false)] rfl rfl (cell_new1b _ _ _) (one1b _) (nd1b _) (by omega) (by unfold maxLen; omega) (by omega) hsz ?_)
            intro g cap9 w8 hL8 hgr hat
            have hx8 : Below w2.heap.size w2 w8 := (hbel.trans (hxz.mono hbel.size)).grown hgr hsz (ownBlock_base HLz.out.1)
            go_wp2_with fail
            exact ⟨⟨i + 1, by omega, by go_num, Hv.out, by rw [rights_succ, Hr3.out]; exact hL8, hx8⟩, meas_up hlt⟩
     ·
      obtain rfl : i = xs.length := by omega
      have Hf : Hid (workErr xs gap x y = 0) := by show _ = _; rw [Hw.out, hF.out]
      have Hl : Hid (workL xs dust gap x y = workTo xs dust gap x y xs.length) := by show _ = _; unfold workL; rw [if_pos Hf.out]
      have HT := Lib.hid (work_ok hF.out)
      have HR := Lib.hid (BoolsOf.ofRow hL)
      have HA9 := Lib.hid (HA2.out.below hbel)
      have hx9 := hx2.trans (hbel.mono hx2.size)
      have hB9 := blk_keep hB2 hbel hBl2
      have hBl9 := blk_lt hB9
      clear hF hL HA2 hB2 hBl2 HX2 HY2 Hsx Hsy hbel hx2 hi hlt t1 t3 Hw
      obtain ⟨aoR, capR, rfl, hR⟩ := HR.out
      have HRR := Lib.hid hR
      clear hR HR
      generalize wr = w9 at *
      go_wp2_with fail
      go_loopw [11, 12] (fun ov iv wq => ∃ (i : Nat), 1 ≤ i ∧ (i ≤ xs.length ∨ i = 1) ∧ iv = .int .i64 i ∧ LRow wq w9.heap.size 58 2 ov (workTo xs dust gap x y i).length (pairCells (workTo xs dust gap x y i)) ∧ Below w9.heap.size w9 wq)
       (fun _ iv _ => xs.length - (intOf iv).toNat)
      case atStart => exact ⟨1, Nat.le_refl _, .inr rfl, rfl, LRow.nil _ _ _ _, Below.refl _ _⟩
      case round =>
       obtain ⟨i, hi1, hi, rfl, hL, hbel⟩ := hrel
       by_cases hlt : i < xs.length
       ·
        obtain ⟨ao', cap', ea, hA⟩ := HA9.out
        simp only [Value.slice.injEq, true_and] at ea
        obtain ⟨rfl, rfl⟩ := ea
        obtain ⟨b, off, rfl, hbl, hEE⟩ := hA (by omega)
        obtain ⟨gR, rfl, hgR, hRR⟩ := HRR.out (by omega)
        obtain ⟨j, hj⟩ : ∃ j, i = j + 1 := ⟨i - 1, by omega⟩
        obtain ⟨g0, _, _⟩ := (hEE i hlt).below hbel hbl
        obtain ⟨k0, _, _⟩ := (hEE j (by omega)).below hbel hbl
        have hr1 := (hbel.cell (p := ⟨gR, i, none⟩) hgR).trans (hRR i hlt)
        have hr0 := (hbel.cell (p := ⟨gR, j, none⟩) hgR).trans (hRR j (by omega))
        have e7 := blk_cell (blk_keep hB9 hbel hBl9) 7 (.int .i64 gap) rfl
        have e1' : IntKind.i64.wrap ((i : Int) - 1) = (j : Int) := by rw [show (i : Int) - 1 = (j : Int) by omega]; exact IntWalk.i64_in _ (by omega)
        have e2' : (i : Int) - 1 = (j : Int) := by omega
        have hj2 : (j : Int) < xs.length := by omega
        have hj0 : (0 : Int) ≤ j := by omega
        have hlt' : (i : Int) < xs.length := by omega
        have hge' : (0 : Int) ≤ i := by omega
        have hbl2 : b < wr.heap.size := Nat.lt_of_lt_of_le hbl hbel.size
        have hgR2 : gR < wr.heap.size := Nat.lt_of_lt_of_le hgR hbel.size
        have hBl3 : w.heap.size < wr.heap.size := Nat.lt_of_lt_of_le hBl9 hbel.size
        have hti := HT.out i hlt
        have htj := HT.out j (by omega)
        have e3 : i - 1 = j := by omega
        have Hjo : Hid (joinB xs dust gap x y i = (rightAt xs dust x y j && (rightAt xs dust x y i && decide ((xs.getD i (0, 0, 0)).1 - (xs.getD j (0, 0, 0)).1 ≤ gap)))) := by show _ = _; unfold joinB; rw [e3]
        have Hsk : Hid (joinB xs dust gap x y i = false → workTo xs dust gap x y (i + 1) = workTo xs dust gap x y i) := workTo_skip hi1
        have Hjn : Hid (joinB xs dust gap x y i = true → workTo xs dust gap x y (i + 1) = addSpan (workTo xs dust gap x y i) (xs.getD j (0, 0, 0)).1 (xs.getD i (0, 0, 0)).1) := fun h => by rw [workTo_join hi1 h, e3]
        have hwl := workTo_length xs dust gap x y i
        clear hEE hRR hA hj e3
        generalize (xs.getD i (0, 0, 0)).1 = ti at *
        generalize (xs.getD j (0, 0, 0)).1 = tj at *
        generalize rightAt xs dust x y i = ri at *
        generalize rightAt xs dust x y j = rj at *
        generalize workTo xs dust gap x y i = l at *
        have hws : IntKind.i64.wrap (ti - tj) = ti - tj := IntWalk.i64_in _ (by omega)
        cases rj with
        | false =>
         have Hs := Lib.hid (Hsk.out (by rw [Hjo.out]; simp))
         clear Hsk Hjn Hjo
         go_wp2_with fail
         go_region
         go_wp2_with fail
         exact ⟨⟨i + 1, by omega, .inl (by omega), by go_num, by rw [Hs.out]; exact hL.below (Below.refl _ _).drew, hbel.drew⟩, meas_up hlt⟩
        | true =>
         cases ri with
         | false =>
          have Hs := Lib.hid (Hsk.out (by rw [Hjo.out]; simp))
          clear Hsk Hjn Hjo
          go_wp2_with fail
          go_region
          go_wp2_with fail
          exact ⟨⟨i + 1, by omega, .inl (by omega), by go_num, by rw [Hs.out]; exact hL.below (Below.refl _ _).drew, hbel.drew⟩, meas_up hlt⟩
         | true =>
          by_cases hgap : ti - tj ≤ gap
          ·
           have tg : decide (ti - tj > gap) = false := decide_eq_false (by omega)
           have Hn := Lib.hid (Hjn.out (by rw [Hjo.out]; simp; exact hgap))
           have g0d : wr.drew.cell? ⟨b, off + i * 3, none⟩ = some (.int .i64 ti) := g0
           have k0d : wr.drew.cell? ⟨b, off + j * 3, none⟩ = some (.int .i64 tj) := k0
           have hLd : LRow wr.drew w9.heap.size 58 2 u11 l.length (pairCells l) := hL.below (Below.refl _ _).drew
           have hxd := hbel.drew
           have hbld : b < wr.drew.heap.size := hbl2
           have hbne : some b ≠ u11.ownBlock := fun e => by have := (hL.lt e.symm).2; omega
           have hll : l.length ≤ 256 := by omega
           clear Hsk Hjn Hjo hgap
           go_wp2_with fail
           go_region
           clear hr0 hr1 e7 hws tg g0 k0 hL hbel hbl2 hgR2 hBl3
           generalize wr.drew = W3 at *
           by_cases hl0 : 0 < l.length
           ·
            have tl : decide (0 < l.length) = true := decide_eq_true hl0
            obtain ⟨go, capo, rfl⟩ := ownsRow_some hLd.1 hl0
            obtain ⟨k, hk⟩ : ∃ k, l.length = k + 1 := ⟨l.length - 1, by omega⟩
            have f1 := hLd.at (pairCells_get l k (by omega)).2
            have hgo := hLd.lt (g := go) rfl
            have f1' : IntKind.i64.wrap ((l.length : Int) - 1) = (k : Int) := by rw [show (l.length : Int) - 1 = (k : Int) by omega]; exact IntWalk.i64_in _ (by omega)
            have f2' : (l.length : Int) - 1 = (k : Int) := by omega
            have hk2 : (k : Int) < l.length := by omega
            have hk0 : (0 : Int) ≤ k := by omega
            have ek : l.length - 1 = k := by omega
            have Hadd : Hid (addSpan l tj ti = if (l.getD k (0, 0)).2 = tj then l.set k ((l.getD k (0, 0)).1, ti) else l ++ [(tj, ti)]) := by
             show _ = _
             unfold addSpan
             rw [ek]
             by_cases h : (l.getD k (0, 0)).2 = tj
             ·
              rw [if_pos ⟨hl0, h⟩, if_pos h]
             ·
              rw [if_neg (fun h2 => h h2.2), if_neg h]
            have hset := pairCells_set l k ti (by omega)
            have Hset : Hid ((pairCells l).set (k * 2 + 1) (.int .i64 ti) = pairCells (l.set k ((l.getD k (0, 0)).1, ti))) := hset
            have Hlen : Hid ((l.set k ((l.getD k (0, 0)).1, ti)).length = l.length) := by show _ = _; simp
            have HLd := Lib.hid hLd
            clear hk ek hset hLd
            generalize (l.getD k (0, 0)).2 = lt at *
            generalize (l.getD k (0, 0)).1 = lf at *
            have f1d : W3.drew.cell? ⟨go, k * 2 + 1, none⟩ = some (.int .i64 lt) := f1
            have g0e : W3.drew.cell? ⟨b, off + i * 3, none⟩ = some (.int .i64 ti) := g0d
            have k0e : W3.drew.cell? ⟨b, off + j * 3, none⟩ = some (.int .i64 tj) := k0d
            have HLe := Lib.hid (HLd.out.below (Below.refl _ _).drew)
            have hxe := hxd.drew
            have hble : b < W3.drew.heap.size := hbld
            have hgo3 := hgo.1
            have hgoe : go < W3.drew.heap.size := hgo3
            by_cases heq : lt = tj
            ·
             have te : (lt == tj) = true := beq_iff_eq.2 heq
             have Ha : Hid (addSpan l tj ti = l.set k (lf, ti)) := by show _ = _; rw [Hadd.out, if_pos heq]
             clear heq Hadd
             go_wp2_with fail
             go_region
             clear f1 g0d k0d hxd te tl
             generalize W3.drew = W4 at *
             have hfr : W4.frozen? ⟨go, k * 2 + 1, none⟩ = false := HLe.out.1.frozenAt _
             go_wp2_with fail
             exact ⟨⟨i + 1, by omega, .inl (by omega), by go_num, by rw [Hn.out, Ha.out, Hlen.out, ← Hset.out]; exact (HLe.out.stored _ _ (noDig_i64 _)).1, hxe.setCell (p := ⟨go, k * 2 + 1, none⟩) hgo.2 _⟩, meas_up hlt⟩
            ·
             have te : (lt == tj) = false := beq_eq_false_iff_ne.2 heq
             have Ha : Hid (addSpan l tj ti = l ++ [(tj, ti)]) := by show _ = _; rw [Hadd.out, if_neg heq]
             clear heq Hadd
             go_wp2_with fail
             go_region
             clear f1 f1d g0d k0d hxd te tl
             generalize W3.drew = W4 at *
             have hWb := hxe.size
             have hxf : Below w9.heap.size w9 (W4.drew.alloc (.cells #[.int .i64 tj, .int .i64 ti] 58)) := hxe.drew.alloc hxe.size _
             have HLf := Lib.hid (HLe.out.below ((Below.refl W4.heap.size W4).drew.alloc (Nat.le_refl _) (.cells #[.int .i64 tj, .int .i64 ti] 58)))
             clear HLe e2'
             go_wp2_with fail
             go_region_held3 (fun w' => w'.cell? ⟨b, off + j * 3, none⟩ = some (.int .i64 tj) ∧ w'.cell? ⟨b, off + i * 3, none⟩ = some (.int .i64 ti))
              (first | exact ⟨k0e, g0e⟩ | assumption | (refine two_alloc _ ?_; assumption) | (refine two_grown hgrA hbne hbne ?_; assumption))
              (first | (refine step_append_lrow _ rfl (.tmp 159) (.tmp 172) 54 rfl w9.heap.size 58 iS _ 2 16 Try.underlying54 hiS hzS hsS hyS rfl (by decide) zd2 _ _ _ rfl HLf.out ⟨W4.heap.size, 0, none⟩ 1 1 [.int .i64 tj, .int .i64 ti] rfl rfl (cell_new2 _ _ _ _) (one2 _ _) (nd2 _ _) (by omega) (by unfold maxLen; omega) (by omega) hxf.size ?_; intro gA capA wA hLA hgrA hatA))
             have hxA : Below w9.heap.size w9 wA := hxf.grown hgrA hxf.size (ownBlock_base HLf.out.1)
             have HLA := Lib.hid hLA
             clear hLA
             go_wp2_with fail
             exact ⟨⟨i + 1, by omega, .inl (by omega), by go_num, by rw [Hn.out, Ha.out, List.length_append, pairCells_append]; exact HLA.out, hxA⟩, meas_up hlt⟩
           ·
            have tl : decide (0 < l.length) = false := decide_eq_false hl0
            have Ha : Hid (addSpan l tj ti = l ++ [(tj, ti)]) := by show _ = _; exact addSpan_new (fun h => hl0 h.1)
            obtain ⟨aoo, capo, rfl⟩ := hLd.form
            have g0e : W3.drew.cell? ⟨b, off + i * 3, none⟩ = some (.int .i64 ti) := g0d
            have k0e : W3.drew.cell? ⟨b, off + j * 3, none⟩ = some (.int .i64 tj) := k0d
            have HLe := Lib.hid (hLd.below (Below.refl _ _).drew)
            have hxe := hxd.drew
            have hble : b < W3.drew.heap.size := hbld
            clear hl0
            go_wp2_with fail
            go_region
            clear hLd g0d k0d hxd tl
            generalize W3.drew = W4 at *
            have hWb := hxe.size
            have hxf : Below w9.heap.size w9 (W4.drew.alloc (.cells #[.int .i64 tj, .int .i64 ti] 58)) := hxe.drew.alloc hxe.size _
            have HLf := Lib.hid (HLe.out.below ((Below.refl W4.heap.size W4).drew.alloc (Nat.le_refl _) (.cells #[.int .i64 tj, .int .i64 ti] 58)))
            clear HLe e2'
            go_wp2_with fail
            go_region_held3 (fun w' => w'.cell? ⟨b, off + j * 3, none⟩ = some (.int .i64 tj) ∧ w'.cell? ⟨b, off + i * 3, none⟩ = some (.int .i64 ti))
             (first | exact ⟨k0e, g0e⟩ | assumption | (refine two_alloc _ ?_; assumption) | (refine two_grown hgrA hbne hbne ?_; assumption))
             (first | (refine step_append_lrow _ rfl (.tmp 159) (.tmp 172) 54 rfl w9.heap.size 58 iS _ 2 16 Try.underlying54 hiS hzS hsS hyS rfl (by decide) zd2 _ _ _ rfl HLf.out ⟨W4.heap.size, 0, none⟩ 1 1 [.int .i64 tj, .int .i64 ti] rfl rfl (cell_new2 _ _ _ _) (one2 _ _) (nd2 _ _) (by omega) (by unfold maxLen; omega) (by omega) hxf.size ?_; intro gA capA wA hLA hgrA hatA))
            have hxA : Below w9.heap.size w9 wA := hxf.grown hgrA hxf.size (ownBlock_base HLf.out.1)
            have HLA := Lib.hid hLA
            clear hLA
            go_wp2_with fail
            exact ⟨⟨i + 1, by omega, .inl (by omega), by go_num, by rw [Hn.out, Ha.out, List.length_append, pairCells_append]; exact HLA.out, hxA⟩, meas_up hlt⟩
          ·
           have tg : decide (ti - tj > gap) = true := decide_eq_true (by omega)
           have Hs := Lib.hid (Hsk.out (by rw [Hjo.out]; simp; omega))
           clear Hsk Hjn Hjo hgap
           go_wp2_with fail
           go_region
           go_wp2_with fail
           exact ⟨⟨i + 1, by omega, .inl (by omega), by go_num, by rw [Hs.out]; exact hL.below (Below.refl _ _).drew, hbel.drew⟩, meas_up hlt⟩
       ·
        have tn : decide ((i : Int) < (xs.length : Int)) = false := by simp; omega
        have tn2 : decide (i < xs.length) = false := by simp; omega
        have hend : workTo xs dust gap x y i = workTo xs dust gap x y xs.length := by
         rcases Nat.lt_or_ge xs.length i with h | h
         ·
          have h1 : i = 1 := by omega
          have h0 : xs.length = 0 := by omega
          rw [h1, h0]
          rfl
         ·
          rw [show i = xs.length by omega]
        have HP := Lib.hid (PairsOf.ofRow hL)
        have hE := Lib.hid hend
        clear hL hend
        go_wp2_with fail
        go_ret2
        exact ⟨_, by rw [Hf.out]; rfl, by rw [Hl.out, ← hE.out]; exact HP.out, hx9.trans (hbel.mono hx9.size)⟩
end Go.Proofs.Ytanmcbbnnjamoaa

namespace Go.Proofs.Ytanmcbbnnjamoaa
open Go.RowKit

def airCells : List (Int × Int × Nat) → List Value
 | [] => []
 | r :: l => .int .i64 r.1 :: .int .i64 r.2.1 :: .float .f32 r.2.2 :: airCells l
theorem airCells_append (a b : List (Int × Int × Nat)) : airCells (a ++ b) = airCells a ++ airCells b := by
 induction a with
 | nil => rfl
 | cons r a ih => simp [airCells, ih]
theorem airCells_take (ls : List (Int × Int × Nat)) (i : Nat) (hi : i < ls.length) : airCells (ls.take (i + 1)) = airCells (ls.take i) ++ [.int .i64 (ls.getD i (0, 0, 0)).1, .int .i64 (ls.getD i (0, 0, 0)).2.1, .float .f32 (ls.getD i (0, 0, 0)).2.2] := by
 rw [List.take_add_one, airCells_append]
 simp [hi, airCells]
theorem airCells_get (ls : List (Int × Int × Nat)) : ∀ i, i < ls.length → (airCells ls)[i * 3]? = some (.int .i64 (ls.getD i (0, 0, 0)).1) ∧ (airCells ls)[i * 3 + 1]? = some (.int .i64 (ls.getD i (0, 0, 0)).2.1) ∧ (airCells ls)[i * 3 + 2]? = some (.float .f32 (ls.getD i (0, 0, 0)).2.2) := by
 induction ls with
 | nil => intro i hi; simp at hi
 | cons r l ih =>
  intro i hi
  cases i with
  | zero => simp [airCells]
  | succ i =>
   have := ih i (by simpa using hi)
   simpa [airCells, Nat.succ_mul] using this
theorem AirsOf.ofRow {w : World} {base : Nat} {e : TypeId} {v : Value} {ls : List (Int × Int × Nat)} (h : LRow w base e 3 v ls.length (airCells ls)) : AirsOf w v ls := by
 rcases Nat.eq_zero_or_pos ls.length with h0 | hp
 ·
  rcases h.1.2 with ⟨rfl, _⟩ | ⟨g, cap, cur, rfl, _⟩
  ·
   exact ⟨none, 0, by rw [h0], fun h => absurd h (by omega)⟩
  ·
   exact ⟨_, _, rfl, fun h => absurd h (by omega)⟩
 ·
  obtain ⟨g, cap, rfl⟩ := ownsRow_some h.1 hp
  have hlt : g < w.heap.size := (h.lt rfl).1
  refine ⟨_, _, rfl, fun _ => ⟨g, 0, rfl, hlt, fun i hi => ?_⟩⟩
  obtain ⟨h0, h1, h2⟩ := airCells_get ls i hi
  rw [Nat.zero_add]
  exact ⟨h.at h0, h.at h1, h.at h2⟩
theorem cell_new3 (w : World) (a b c : Value) (t : TypeId) : ∀ j u, [a, b, c][j]? = some u → (w.alloc (.cells #[a, b, c] t)).cell? ((⟨w.heap.size, 0, none⟩ : Addr).add j) = some u := by
 intro j u hj
 match j, hj with
 | 0, hj => simp at hj; subst hj; simp [Addr.add]
 | 1, hj => simp at hj; subst hj; simp [Addr.add]
 | 2, hj => simp at hj; subst hj; simp [Addr.add]
 | j + 3, hj => simp at hj
end Go.Proofs.Ytanmcbbnnjamoaa

namespace Go.Proofs.Ytanmcbbnnjamoaa
open Go.RowKit

theorem wpList_make_room {P : Program} (w : World) {ops : Array Oper} {rest : List Oper} {o : Oper} {a : Act} {Q : Exit → Act → World → Prop}
  (hg : o.guard = none) (l c : Operand) (t : TypeId) (hop : o.op = Op.makeSlice t l c)
  (base : Nat) (e : TypeId) (i : TypeInfo) (z : Value) (size : Nat) (h1 : P.underlying t = some (.slice e)) (h2 : P.info? e = some i) (h3 : i.zero = some z) (h4 : i.size = size)
  (kl kc : IntKind) (L C : Int) (n m : Nat) (hl : a.eval l = .int kl L) (hc : a.eval c = .int kc C) (hL : L = (n : Int)) (hC : C = (m : Int)) (hnm : n ≤ m) (b2 : i.bytes * m ≤ 281474976710656) (b3 : m ≤ maxLen) (_b4 : base ≤ w.heap.size)
  (hK : ∀ w', w'.heap[w.heap.size]? = some (.cells (madeCells z.cells (m * size)) e (0, 0)) → w.grownBy w' none → wpList P ops Q rest (a.put o.dst (.slice (some ⟨w.heap.size, 0, none⟩) n m)) w') :
  wpList P ops Q (o :: rest) a w := by
 subst h4
 subst hL
 subst hC
 refine wpList_plain hg fun K hK' => ?_
 have b3' : (m : Int) ≤ 9223372036854775807 := by
  have h := b3
  simp [maxLen] at h
  omega
 have hb' : (i.bytes : Int) * (m : Int) ≤ 281474976710656 := by
  have h : ((i.bytes * m : Nat) : Int) ≤ 281474976710656 := by omega
  rwa [Int.natCast_mul] at h
 have hr := run_make (P := P) w t e i z h1 h2 h3 kl kc n m (by omega) (by omega) hb' b3'
 simp only [Int.toNat_natCast] at hr
 unfold Oper.wp
 simp [execOp, hop, hl, hc, hr, Result.andThen]
 exact hK' _ _ (hK _ (heap_alloc_new w _) (World.grownBy_alloc w _ none))

structure PlIn (a b : List Nat) (n i : Nat) (o : List Nat) (c : Nat) : Prop where
 len : o.length = n
 dgs : Dgs b64 o
 car : c ≤ 1
 val : lv b64 o + b64 ^ i * c = lv b64 (a.take i) + lv b64 (b.take i)
 top : ∀ j, i ≤ j → o.getD j 0 = 0
theorem take_step64 (a : List Nat) (i : Nat) : lv b64 (a.take (i + 1)) = lv b64 (a.take i) + b64 ^ i * a.getD i 0 := by
 by_cases h : i < a.length
 ·
  exact lv_take_succ b64 a i h
 ·
  rw [List.take_of_length_le (by omega), List.take_of_length_le (by omega)]
  simp [List.getElem?_eq_none (Nat.le_of_not_lt h)]
theorem PlIn.start (a b : List Nat) (n : Nat) : PlIn a b n 0 (List.replicate n 0) 0 :=
 ⟨by simp, Dgs.replicate b64_pos _, by omega, by simp [lv_replicate, lv], fun j _ => by simp [List.getElem?_replicate]; split <;> rfl⟩
theorem PlIn.step {a b : List Nat} {n i : Nat} {o : List Nat} {c : Nat} (h : PlIn a b n i o c) (ha : Dgs b64 a) (hb : Dgs b64 b) (hi : i < n) (x y : Nat) (hx : x = a.getD i 0) (hy : y = b.getD i 0) :
  PlIn a b n (i + 1) (o.set i (addLo x y c)) (addHi x y c) := by
 have hxl := ha.getD b64_pos i
 have hyl := hb.getD b64_pos i
 rw [← hx] at hxl
 rw [← hy] at hyl
 refine ⟨by simpa using h.len, h.dgs.set _ _ (addLo_lt _ _ _), addHi_le _ _ _ hxl hyl h.car, ?_, fun j hj => ?_⟩
 ·
  have h1 := lv_set b64 o i (addLo x y c) (by rw [h.len]; exact hi)
  rw [h.top i (Nat.le_refl _)] at h1
  have h2 := h.val
  rw [take_step64, take_step64, Nat.pow_succ, ← hx, ← hy]
  have e4 := add_eq x y c
  have e5 : b64 ^ i * (addLo x y c + b64 * addHi x y c) = b64 ^ i * (x + y + c) := by rw [e4]
  rw [Nat.mul_assoc]
  simp only [Nat.mul_add] at e5
  omega
 ·
  have := h.top j (by omega)
  rw [List.getD_eq_getElem?_getD] at *
  rw [List.getElem?_set_ne (by omega)]
  exact this
theorem PlIn.done {a b : List Nat} {o : List Nat} {c : Nat} (h : PlIn a b a.length a.length o c) (hl : b.length ≤ a.length) : lv b64 o + b64 ^ a.length * c = lv b64 a + lv b64 b := by
 have hv := h.val
 rw [List.take_of_length_le (Nat.le_refl _), List.take_of_length_le hl] at hv
 exact hv
theorem plus_dig {a b o : List Nat} {c : Nat} (h : PlIn a b a.length a.length o c) (hl : b.length ≤ a.length) (hla : ∀ h : a ≠ [], a.getLast h ≠ 0) :
  (c = 0 → dig b64 (lv b64 a + lv b64 b) = o) ∧ (0 < c → dig b64 (lv b64 a + lv b64 b) = o ++ [c]) := by
 have hd := h.done hl
 constructor
 ·
  intro h0
  subst h0
  rw [← hd, Nat.mul_zero, Nat.add_zero]
  refine dig_of b64_two o h.dgs fun hne => ?_
  -- the greatest digit of o is not 0: o is at least a
  have hpos : 0 < a.length := by
   rcases Nat.eq_zero_or_pos a.length with h1 | h1
   ·
    exact absurd (List.eq_nil_of_length_eq_zero (h.len.trans h1)) hne
   ·
    exact h1
  have hane : a ≠ [] := fun e => by rw [e] at hpos; simp at hpos
  intro hz
  have h2 : lv b64 o < b64 ^ (a.length - 1) := by
   have e1 : o = o.take (o.length - 1) ++ [0] := by
    conv => lhs; rw [← List.dropLast_concat_getLast hne, hz, List.dropLast_eq_take]
   have e2 : Dgs b64 (o.take (o.length - 1)) := h.dgs.take _
   rw [e1, dig_lv_snoc_zero]
   have := lv_lt e2
   rw [List.length_take, Nat.min_eq_left (by omega)] at this
   rw [h.len] at this ⊢
   exact this
  have h3 : b64 ^ (a.length - 1) ≤ lv b64 a := by
   have e1 : a = a.dropLast ++ [a.getLast hane] := (List.dropLast_concat_getLast hane).symm
   have h4 := hla hane
   generalize a.getLast hane = q at *
   rw [e1, lv_append]
   have : a.dropLast.length = a.length - 1 := by simp
   rw [this]
   have e3 : lv b64 [q] = q := by simp [lv]
   rw [e3]
   have := Nat.le_mul_of_pos_right (b64 ^ (a.length - 1)) (show 0 < q by omega)
   simp only [List.length_append, List.length_dropLast, List.length_cons, List.length_nil]
   have e4 : a.length - 1 + (0 + 1) - 1 = a.length - 1 := by omega
   rw [e4]
   omega
  omega
 ·
  intro h0
  have hc : c = 1 := by have := h.car; omega
  subst hc
  have e : lv b64 a + lv b64 b = lv b64 (o ++ [1]) := by rw [lv_append, h.len, ← hd]; simp [lv]
  rw [e]
  exact dig_of b64_two _ (h.dgs.append (by intro d hd; simp at hd; rw [hd]; exact b64_two)) fun hne => by simp

def OwnAll (w : World) (g : Nat) (k : IntKind) (e : TypeId) (ds : List Nat) : Prop := w.heap[g]? = some (.cells (ds.map (fun d : Nat => Value.int k (d : Int))).toArray e (0, 0))
theorem OwnAll.own {w : World} {g : Nat} {k : IntKind} {e : TypeId} {ds : List Nat} (h : OwnAll w g k e ds) : Own w g k e ds := ⟨[], by rw [List.append_nil]; exact h⟩
theorem OwnAll.frozen {w : World} {g : Nat} {k : IntKind} {e : TypeId} {ds : List Nat} (h : OwnAll w g k e ds) (j : Nat) : w.frozen? ⟨g, j, none⟩ = false := h.own.frozen j
theorem OwnAll.cell {w : World} {g : Nat} {k : IntKind} {e : TypeId} {ds : List Nat} (h : OwnAll w g k e ds) (j : Nat) (hj : j < ds.length) : ∃ q, w.cell? ⟨g, j, none⟩ = some (.int k q) := ⟨_, h.own.cell j hj⟩
theorem OwnAll.store {w : World} {g : Nat} {k : IntKind} {e : TypeId} {ds : List Nat} (h : OwnAll w g k e ds) (j x : Nat) : OwnAll (w.setCell ⟨g, j, none⟩ (.int k x)) g k e (ds.set j x) := by
 unfold OwnAll at *
 rw [heap_setCell_same w g j _ e _ h]
 simp [List.map_set]
theorem OwnAll.of_room {w : World} {g : Nat} {e : TypeId} {n : Nat} (h : w.heap[g]? = some (.cells (madeCells #[Value.int .u64 0] (n + 1)) e (0, 0))) : OwnAll w g .u64 e (List.replicate n 0 ++ [0]) := by
 unfold OwnAll
 rw [h]
 have e1 : (madeCells #[Value.int .u64 0] (n + 1)).toList = List.replicate (n + 1) (Value.int .u64 0) := toList_madeCells_one _ _
 have e2 : (List.replicate n 0 ++ [0]).map (fun d : Nat => Value.int .u64 (d : Int)) = List.replicate (n + 1) (Value.int .u64 0) := by
  rw [List.replicate_succ']
  simp
 rw [e2, ← e1]
theorem Own.init {w : World} {g : Nat} {k : IntKind} {e : TypeId} {a b : List Nat} (h : Own w g k e (a ++ b)) : Own w g k e a := by
 obtain ⟨tl, h⟩ := h
 refine ⟨b.map (fun d : Nat => Value.int k (d : Int)) ++ tl, ?_⟩
 rw [h]
 simp
theorem OwnAll.ownsRow {w : World} {g : Nat} {k : IntKind} {e : TypeId} {o : List Nat} (h : OwnAll w g k e (o ++ [0])) (n base : Nat) (hb : base ≤ g) (hn : o.length = n) (hm : n + 1 ≤ maxLen) :
  w.ownsRow base e 1 (.slice (some ⟨g, 0, none⟩) n (n + 1)) n (o.map (fun d : Nat => Value.int k (d : Int))) := by
 refine ⟨by simp [hn], .inr ⟨g, n + 1, _, rfl, hb, h, by omega, hm, by simp [hn], ?_⟩⟩
 simp [← hn]
theorem digits_row {w : World} {base g n : Nat} {e : TypeId} {o : List Nat} {c : Nat} (hn : o.length = n) (h : w.ownsRow base e 1 (.slice (some ⟨g, 0, none⟩) (n + 1) (n + 1)) (n + 1) (o.map (fun d : Nat => Value.int .u64 (d : Int)) ++ [.int .u64 (c : Int)])) :
  IsRow .u64 w (.slice (some ⟨g, 0, none⟩) (n + 1) (n + 1)) (o ++ [c]) := by
 have hl : (o ++ [c]).length = n + 1 := by simp [hn]
 obtain ⟨ho, h1, h2, _⟩ := Own.of_ownsRow (k := .u64) (ds := o ++ [c]) hl (by simpa using h)
 have := ho.isRowCap (n + 1) (by omega) h2
 rw [hl] at this
 exact this

theorem run_Add64_y0 (x c : Nat) (hc : c ≤ 1) (w : World) :
  (callFunc 50 #[.int .u64 x, .int .u64 0, .int .u64 c]).run Try.prog w = .ok (.value (.tuple #[.int .u64 (addLo x 0 c : Nat), .int .u64 (addHi x 0 c : Nat)])) w :=
 run_Add64 x 0 c hc w
theorem run_Sub64_y0 (x c : Nat) (hc : c ≤ 1) (w : World) :
  (callFunc 51 #[.int .u64 x, .int .u64 0, .int .u64 c]).run Try.prog w = .ok (.value (.tuple #[.int .u64 (subLo x 0 c : Nat), .int .u64 (subHi x 0 c : Nat)])) w :=
 run_Sub64 x 0 c hc w

set_option maxRecDepth 100000 in
set_option maxHeartbeats 2000000 in
theorem plus_any (m n : Nat) (va vb : Value) (w : World) (ha : IsNat .u64 b64 w va m) (hb : IsNat .u64 b64 w vb n) (hla : (dig b64 m).length ≤ 1099511627776) (hlb : (dig b64 n).length ≤ 1099511627776) :
  Calls Try.prog 36 #[va, vb] w (RetNat .u64 b64 (m + n) w) := by
 obtain ⟨aa, ca, rfl, hA⟩ := IsRow.opened ha
 obtain ⟨ab, cb, rfl, hB⟩ := IsRow.opened hb
 have hdA := dgs_dig b64_two m
 have hdB := dgs_dig b64_two n
 have HLA := Lib.hid (dig_last b64_two m)
 have HLB := Lib.hid (dig_last b64_two n)
 have HVA : Hid (lv b64 (dig b64 m) + lv b64 (dig b64 n) = m + n) := by show _ = _; rw [lv_dig b64_two, lv_dig b64_two]
 have HVB : Hid (lv b64 (dig b64 n) + lv b64 (dig b64 m) = m + n) := by show _ = _; rw [lv_dig b64_two, lv_dig b64_two, Nat.add_comm]
 clear ha hb
 generalize dig b64 m = dA at *
 generalize dig b64 n = dB at *
 obtain ⟨i0, hi, hz0, hz1, hz2⟩ := info_parts info_u64
 by_cases hsw : dA.length < dB.length
 ·
  have tsw : decide (dA.length < dB.length) = true := decide_eq_true hsw
  go_enter Try.func36, Try.ntmps36
  go_wp2_with (at_make; refine wpList_make_room _ rfl _ _ 38 rfl w.heap.size 84 i0 (.int .u64 0) 1 Try.underlying38 hi hz0 hz1 _ _ _ _ dB.length (dB.length + 1) rfl rfl (by omega) (by omega) (by omega) (by rw [hz2]; omega) (by unfold maxLen; omega) (by omega) ?_)
  intro w1 hown hgrow
  have ho := OwnAll.of_room hown
  have hbel := (Below.refl w.heap.size w).grown hgrow (Nat.le_refl _) (by simp)
  clear hown hgrow
  go_wp2_with fail
  go_loopw [6, 25] (fun cv iv wr => ∃ (i : Nat) (o : List Nat) (c : Nat), i ≤ dB.length ∧ iv = .int .i64 i ∧ cv = .int .u64 c ∧ OwnAll wr w.heap.size .u64 84 (o ++ [0]) ∧ Hid (PlIn dB dA dB.length i o c) ∧ Below w.heap.size w wr)
   (fun _ iv _ => dB.length - (intOf iv).toNat)
  case atStart => exact ⟨0, _, 0, Nat.zero_le _, rfl, rfl, ho, PlIn.start _ _ _, hbel⟩
  case round =>
   clear ho hbel
   obtain ⟨i, o, c, hil, rfl, rfl, ho, hM, hbel⟩ := hrel
   by_cases hlt : i < dB.length
   ·
    obtain ⟨b, off, rfl, hbA, hcA⟩ := hB (by omega)
    have hca := (hbel.cell (p := ⟨b, off + i, none⟩) hbA).trans (hcA i hlt)
    have hfo := ho.frozen i
    have hlo := hM.out.len
    obtain ⟨q0, hco⟩ := ho.cell i (by rw [List.length_append]; omega)
    have hst := Lib.hid (fun x y hx hy => hM.out.step hdB hdA hlt x y hx hy)
    have hlt' : (i : Int) < dB.length := by omega
    have hge' : (0 : Int) ≤ i := by omega
    have hset : ∀ v, (o ++ [0]).set i v = o.set i v ++ [0] := fun v => by rw [List.set_append_left _ _ (by omega)]
    have HSET := Lib.hid hset
    have hcar := hM.out.car
    clear hset hlo
    by_cases hlb : i < dA.length
    ·
     obtain ⟨b', off', rfl, hbB, hcB⟩ := hA (by omega)
     have hcb := (hbel.cell (p := ⟨b', off' + i, none⟩) hbB).trans (hcB i hlb)
     have hlb' : (i : Int) < dA.length := by omega
     have tb : decide (i < dA.length) = true := decide_eq_true hlb
     have HST := Lib.hid (hst.out _ _ rfl rfl)
     clear hst
     generalize dB.getD i 0 = x at *
     generalize dA.getD i 0 = y at *
     have hadd := run_Add64 x y c hcar
     clear hcar
     go_wp2_with fail
     exact ⟨⟨i + 1, _, _, by omega, by go_num, rfl, by rw [← HSET.out]; exact ho.store i _, HST.out, hbel.setCell (p := ⟨w.heap.size, i, none⟩) (Nat.le_refl _) _⟩, meas_up hlt⟩
    ·
     have tb : decide (i < dA.length) = false := decide_eq_false hlb
     have HST := Lib.hid (hst.out _ 0 rfl (by simp [List.getElem?_eq_none (Nat.le_of_not_lt hlb)]))
     clear hst
     generalize dB.getD i 0 = x at *
     have hadd := run_Add64_y0 x c hcar
     clear hcar
     go_wp2_with fail
     exact ⟨⟨i + 1, _, _, by omega, by go_num, rfl, by rw [← HSET.out]; exact ho.store i _, HST.out, hbel.setCell (p := ⟨w.heap.size, i, none⟩) (Nat.le_refl _) _⟩, meas_up hlt⟩
   ·
    obtain rfl : i = dB.length := by omega
    have hlen := Lib.hid hM.out.len
    have hpd := plus_dig hM.out (by omega) HLB.out
    have hv : lv b64 dB + lv b64 dA = m + n := HVB.out
    rw [hv] at hpd
    have HP0 := Lib.hid hpd.1
    have HP1 := Lib.hid hpd.2
    clear hpd hv
    rcases Nat.eq_zero_or_pos c with hc | hc
    ·
     subst hc
     have HP := Lib.hid (HP0.out rfl)
     have hrow := (Own.init ho.own).isRowCap (dB.length + 1) (by rw [hlen.out]; omega) (by unfold maxLen; omega)
     rw [hlen.out] at hrow
     have HR := Lib.hid hrow
     clear hrow
     go_wp2_with fail
     go_ret
     exact ⟨_, rfl, by show IsRow _ _ _ _; rw [HP.out]; exact HR.out, hbel⟩
    ·
     have tc : decide (0 < c) = true := decide_eq_true hc
     have HP := Lib.hid (HP1.out hc)
     have how := ho.ownsRow dB.length w.heap.size (Nat.le_refl _) hlen.out (by unfold maxLen; omega)
     have hx1 := hbel.alloc hbel.size (.cells #[.int .u64 (c : Int)] 84)
     have hcn := cell_one_new wr (.int .u64 (c : Int)) 84
     have HCN := Lib.hid hcn
     have HOW := Lib.hid (how.alloc (.cells #[.int .u64 (c : Int)] 84))
     clear how hcn hc ho
     go_wp2_with (at_builtin; refine wpList_append_fits _ rfl (.tmp 51) (.tmp 53) 38 rfl w.heap.size 84 i0 1 Try.underlying38 hi hz1 _ _ _ _ rfl HOW.out ⟨wr.heap.size, 0, none⟩ 1 1 [.int .u64 (c : Int)] rfl rfl HCN.out (by simp [Value.oneCell']) (by omega) ?_)
     intro w2 hown2 hgr2
     have hb2 : Below w.heap.size w w2 := hx1.grown hgr2 hx1.size (by simp)
     have HR := Lib.hid (digits_row hlen.out hown2)
     clear hown2 hgr2 hx1
     go_wp2_with fail
     go_ret
     exact ⟨_, rfl, by show IsRow _ _ _ _; rw [HP.out]; exact HR.out, hb2⟩
 ·
  have tsw : decide (dA.length < dB.length) = false := decide_eq_false hsw
  go_enter Try.func36, Try.ntmps36
  go_wp2_with (at_make; refine wpList_make_room _ rfl _ _ 38 rfl w.heap.size 84 i0 (.int .u64 0) 1 Try.underlying38 hi hz0 hz1 _ _ _ _ dA.length (dA.length + 1) rfl rfl (by omega) (by omega) (by omega) (by rw [hz2]; omega) (by unfold maxLen; omega) (by omega) ?_)
  intro w1 hown hgrow
  have ho := OwnAll.of_room hown
  have hbel := (Below.refl w.heap.size w).grown hgrow (Nat.le_refl _) (by simp)
  clear hown hgrow
  go_wp2_with fail
  go_loopw [6, 25] (fun cv iv wr => ∃ (i : Nat) (o : List Nat) (c : Nat), i ≤ dA.length ∧ iv = .int .i64 i ∧ cv = .int .u64 c ∧ OwnAll wr w.heap.size .u64 84 (o ++ [0]) ∧ Hid (PlIn dA dB dA.length i o c) ∧ Below w.heap.size w wr)
   (fun _ iv _ => dA.length - (intOf iv).toNat)
  case atStart => exact ⟨0, _, 0, Nat.zero_le _, rfl, rfl, ho, PlIn.start _ _ _, hbel⟩
  case round =>
   clear ho hbel
   obtain ⟨i, o, c, hil, rfl, rfl, ho, hM, hbel⟩ := hrel
   by_cases hlt : i < dA.length
   ·
    obtain ⟨b, off, rfl, hbA, hcA⟩ := hA (by omega)
    have hca := (hbel.cell (p := ⟨b, off + i, none⟩) hbA).trans (hcA i hlt)
    have hfo := ho.frozen i
    have hlo := hM.out.len
    obtain ⟨q0, hco⟩ := ho.cell i (by rw [List.length_append]; omega)
    have hst := Lib.hid (fun x y hx hy => hM.out.step hdA hdB hlt x y hx hy)
    have hlt' : (i : Int) < dA.length := by omega
    have hge' : (0 : Int) ≤ i := by omega
    have hset : ∀ v, (o ++ [0]).set i v = o.set i v ++ [0] := fun v => by rw [List.set_append_left _ _ (by omega)]
    have HSET := Lib.hid hset
    have hcar := hM.out.car
    clear hset hlo
    by_cases hlb : i < dB.length
    ·
     obtain ⟨b', off', rfl, hbB, hcB⟩ := hB (by omega)
     have hcb := (hbel.cell (p := ⟨b', off' + i, none⟩) hbB).trans (hcB i hlb)
     have hlb' : (i : Int) < dB.length := by omega
     have tb : decide (i < dB.length) = true := decide_eq_true hlb
     have HST := Lib.hid (hst.out _ _ rfl rfl)
     clear hst
     generalize dA.getD i 0 = x at *
     generalize dB.getD i 0 = y at *
     have hadd := run_Add64 x y c hcar
     clear hcar
     go_wp2_with fail
     exact ⟨⟨i + 1, _, _, by omega, by go_num, rfl, by rw [← HSET.out]; exact ho.store i _, HST.out, hbel.setCell (p := ⟨w.heap.size, i, none⟩) (Nat.le_refl _) _⟩, meas_up hlt⟩
    ·
     have tb : decide (i < dB.length) = false := decide_eq_false hlb
     have HST := Lib.hid (hst.out _ 0 rfl (by simp [List.getElem?_eq_none (Nat.le_of_not_lt hlb)]))
     clear hst
     generalize dA.getD i 0 = x at *
     have hadd := run_Add64_y0 x c hcar
     clear hcar
     go_wp2_with fail
     exact ⟨⟨i + 1, _, _, by omega, by go_num, rfl, by rw [← HSET.out]; exact ho.store i _, HST.out, hbel.setCell (p := ⟨w.heap.size, i, none⟩) (Nat.le_refl _) _⟩, meas_up hlt⟩
   ·
    obtain rfl : i = dA.length := by omega
    have hlen := Lib.hid hM.out.len
    have hpd := plus_dig hM.out (by omega) HLA.out
    have hv : lv b64 dA + lv b64 dB = m + n := HVA.out
    rw [hv] at hpd
    have HP0 := Lib.hid hpd.1
    have HP1 := Lib.hid hpd.2
    clear hpd hv
    rcases Nat.eq_zero_or_pos c with hc | hc
    ·
     subst hc
     have HP := Lib.hid (HP0.out rfl)
     have hrow := (Own.init ho.own).isRowCap (dA.length + 1) (by rw [hlen.out]; omega) (by unfold maxLen; omega)
     rw [hlen.out] at hrow
     have HR := Lib.hid hrow
     clear hrow
     go_wp2_with fail
     go_ret
     exact ⟨_, rfl, by show IsRow _ _ _ _; rw [HP.out]; exact HR.out, hbel⟩
    ·
     have tc : decide (0 < c) = true := decide_eq_true hc
     have HP := Lib.hid (HP1.out hc)
     have how := ho.ownsRow dA.length w.heap.size (Nat.le_refl _) hlen.out (by unfold maxLen; omega)
     have hx1 := hbel.alloc hbel.size (.cells #[.int .u64 (c : Int)] 84)
     have hcn := cell_one_new wr (.int .u64 (c : Int)) 84
     have HCN := Lib.hid hcn
     have HOW := Lib.hid (how.alloc (.cells #[.int .u64 (c : Int)] 84))
     clear how hcn hc ho
     go_wp2_with (at_builtin; refine wpList_append_fits _ rfl (.tmp 51) (.tmp 53) 38 rfl w.heap.size 84 i0 1 Try.underlying38 hi hz1 _ _ _ _ rfl HOW.out ⟨wr.heap.size, 0, none⟩ 1 1 [.int .u64 (c : Int)] rfl rfl HCN.out (by simp [Value.oneCell']) (by omega) ?_)
     intro w2 hown2 hgr2
     have hb2 : Below w.heap.size w w2 := hx1.grown hgr2 hx1.size (by simp)
     have HR := Lib.hid (digits_row hlen.out hown2)
     clear hown2 hgr2 hx1
     go_wp2_with fail
     go_ret
     exact ⟨_, rfl, by show IsRow _ _ _ _; rw [HP.out]; exact HR.out, hb2⟩

structure MiIn (a b : List Nat) (n i : Nat) (o : List Nat) (c : Nat) : Prop where
 len : o.length = n
 dgs : Dgs b64 o
 car : c ≤ 1
 val : lv b64 o + lv b64 (b.take i) = lv b64 (a.take i) + b64 ^ i * c
 top : ∀ j, i ≤ j → o.getD j 0 = 0
theorem MiIn.start (a b : List Nat) (n : Nat) : MiIn a b n 0 (List.replicate n 0) 0 :=
 ⟨by simp, Dgs.replicate b64_pos _, by omega, by simp [lv_replicate, lv], fun j _ => by simp [List.getElem?_replicate]; split <;> rfl⟩
theorem sub_eq_plus (x y c : Nat) (hx : x < b64) (hy : y < b64) (hc : c ≤ 1) : subLo x y c + y + c = x + b64 * subHi x y c := by
 unfold subLo subHi
 by_cases h : x < y + c
 ·
  rw [if_pos h, Nat.mod_eq_of_lt (by omega)]; omega
 ·
  rw [if_neg h]
  have e : b64 + x - y - c = (x - y - c) + b64 := by omega
  rw [e, Nat.add_mod_right, Nat.mod_eq_of_lt (by omega)]
  omega
theorem MiIn.step {a b : List Nat} {n i : Nat} {o : List Nat} {c : Nat} (h : MiIn a b n i o c) (ha : Dgs b64 a) (hb : Dgs b64 b) (hi : i < n) (x y : Nat) (hx : x = a.getD i 0) (hy : y = b.getD i 0) :
  MiIn a b n (i + 1) (o.set i (subLo x y c)) (subHi x y c) := by
 have hxl := ha.getD b64_pos i
 have hyl := hb.getD b64_pos i
 rw [← hx] at hxl
 rw [← hy] at hyl
 refine ⟨by simpa using h.len, h.dgs.set _ _ (subLo_lt _ _ _), subHi_le _ _ _, ?_, fun j hj => ?_⟩
 ·
  have h1 := lv_set b64 o i (subLo x y c) (by rw [h.len]; exact hi)
  rw [h.top i (Nat.le_refl _)] at h1
  have h2 := h.val
  rw [take_step64, take_step64, Nat.pow_succ, ← hx, ← hy]
  have e4 := sub_eq_plus x y c hxl hyl h.car
  have e5 : b64 ^ i * (subLo x y c + y + c) = b64 ^ i * (x + b64 * subHi x y c) := by rw [e4]
  rw [Nat.mul_assoc]
  simp only [Nat.mul_add] at e5
  omega
 ·
  have := h.top j (by omega)
  rw [List.getD_eq_getElem?_getD] at *
  rw [List.getElem?_set_ne (by omega)]
  exact this
theorem MiIn.done {a b o : List Nat} {c : Nat} (h : MiIn a b a.length a.length o c) (hl : b.length ≤ a.length) (hle : lv b64 b ≤ lv b64 a) : lv b64 o = lv b64 a - lv b64 b := by
 have hv := h.val
 rw [List.take_of_length_le (Nat.le_refl _), List.take_of_length_le hl] at hv
 rcases Nat.eq_zero_or_pos c with h0 | h0
 ·
  subst h0; omega
 ·
  have hc : c = 1 := by have := h.car; omega
  subst hc
  have := lv_lt h.dgs
  rw [h.len] at this
  omega

set_option maxRecDepth 100000 in
set_option maxHeartbeats 2000000 in
theorem minus_any (m n : Nat) (va vb : Value) (w : World) (ha : IsNat .u64 b64 w va m) (hb : IsNat .u64 b64 w vb n) (hle : n ≤ m) (hla : (dig b64 m).length ≤ 1099511627776) :
  Calls Try.prog 37 #[va, vb] w (RetNat .u64 b64 (m - n) w) := by
 obtain ⟨aa, ca, rfl, hA⟩ := IsRow.opened ha
 obtain ⟨ab, cb, rfl, hB⟩ := IsRow.opened hb
 have hdA := dgs_dig b64_two m
 have hdB := dgs_dig b64_two n
 have hlen := dig_length_mono b64_two hle
 have Hva := Lib.hid (lv_dig b64_two m)
 have Hvb := Lib.hid (lv_dig b64_two n)
 clear ha hb
 generalize dig b64 m = dA at *
 generalize dig b64 n = dB at *
 obtain ⟨i0, hi, hz0, hz1, hz2⟩ := info_parts info_u64
 go_enter Try.func37, Try.ntmps37
 go_wp2_with (at_make; refine wpList_make_full _ rfl _ _ 38 rfl w.heap.size 84 i0 (.int .u64 0) 1 Try.underlying38 hi hz0 hz1 _ _ _ _ dA.length rfl rfl (by omega) (by omega) (by rw [hz2]; omega) (by unfold maxLen; omega) (by omega) ?_)
 intro w1 hown hgrow
 have ho := Own.of_made hown
 have hbel := (Below.refl w.heap.size w).grown hgrow (Nat.le_refl _) (by simp)
 clear hown hgrow hi hz0 hz1 hz2
 go_wp2_with fail
 go_loopw [6, 15] (fun cv iv wr => ∃ (i : Nat) (o : List Nat) (c : Nat), i ≤ dA.length ∧ iv = .int .i64 i ∧ cv = .int .u64 c ∧ Own wr w.heap.size .u64 84 o ∧ Hid (MiIn dA dB dA.length i o c) ∧ Below w.heap.size w wr)
  (fun _ iv _ => dA.length - (intOf iv).toNat)
 case atStart => exact ⟨0, _, 0, Nat.zero_le _, rfl, rfl, ho, MiIn.start _ _ _, hbel⟩
 case round =>
  clear ho hbel
  obtain ⟨i, o, c, hil, rfl, rfl, ho, hM, hbel⟩ := hrel
  by_cases hlt : i < dA.length
  ·
   obtain ⟨b, off, rfl, hbA, hcA⟩ := hA (by omega)
   have hca := (hbel.cell (p := ⟨b, off + i, none⟩) hbA).trans (hcA i hlt)
   have hfo := ho.frozen i
   have hco := ho.cell i (by rw [hM.out.len]; omega)
   have hst := Lib.hid (fun x y hx hy => hM.out.step hdA hdB hlt x y hx hy)
   have hlt' : (i : Int) < dA.length := by omega
   have hge' : (0 : Int) ≤ i := by omega
   have hcar := hM.out.car
   generalize o.getD i 0 = q0 at *
   by_cases hlb : i < dB.length
   ·
    obtain ⟨b', off', rfl, hbB, hcB⟩ := hB (by omega)
    have hcb := (hbel.cell (p := ⟨b', off' + i, none⟩) hbB).trans (hcB i hlb)
    have hlb' : (i : Int) < dB.length := by omega
    have tb : decide (i < dB.length) = true := decide_eq_true hlb
    have HST := Lib.hid (hst.out _ _ rfl rfl)
    clear hst
    generalize dA.getD i 0 = x at *
    generalize dB.getD i 0 = y at *
    have hsub := run_Sub64 x y c hcar
    clear hcar
    go_wp2_with fail
    exact ⟨⟨i + 1, _, _, by omega, by go_num, rfl, ho.store i _, HST.out, hbel.setCell (p := ⟨w.heap.size, i, none⟩) (Nat.le_refl _) _⟩, meas_up hlt⟩
   ·
    have tb : decide (i < dB.length) = false := decide_eq_false hlb
    have HST := Lib.hid (hst.out _ 0 rfl (by simp [List.getElem?_eq_none (Nat.le_of_not_lt hlb)]))
    clear hst
    generalize dA.getD i 0 = x at *
    have hsub := run_Sub64_y0 x c hcar
    clear hcar
    go_wp2_with fail
    exact ⟨⟨i + 1, _, _, by omega, by go_num, rfl, ho.store i _, HST.out, hbel.setCell (p := ⟨w.heap.size, i, none⟩) (Nat.le_refl _) _⟩, meas_up hlt⟩
  ·
   obtain rfl : i = dA.length := by omega
   have hl := hM.out.len
   have hrow := ho.isRow (by rw [hl]; unfold maxLen; omega)
   rw [hl] at hrow
   have HR := Lib.hid hrow
   have HD := Lib.hid hM.out.dgs
   have HV := Lib.hid (hM.out.done hlen (by rw [Hva.out, Hvb.out]; exact hle))
   clear hl hrow ho
   go_wp2_with fail
   refine (cut_any o _ _ HR.out HD.out).mono ?_
   rintro e w' ⟨v, rfl, hv, rfl⟩
   go_wp2_with fail
   go_ret
   exact ⟨v, rfl, by rw [← Hva.out, ← Hvb.out, ← HV.out]; exact hv, hbel⟩

end Go.Proofs.Ytanmcbbnnjamoaa

namespace Go.Proofs.Ytanmcbbnnjamoaa
open Go.RowKit

theorem IsRat.stored {w : World} {B : Nat} {neg : Bool} {x1 y1 : Option Addr} {i1 j1 k1 l1 n : Nat} {q : Rat}
  (hB : RB w B) (h1 : IsNat .u64 b64 w (.slice x1 i1 j1) n) (h2 : IsNat .u64 b64 w (.slice y1 k1 l1) (dn q.den))
  (hn : decide (q.num < 0) = neg) (hm : q.num.natAbs = n) :
  IsRat (((w.setCell ⟨B, 0, none⟩ (.bool neg)).setCell ⟨B, 1, none⟩ (.slice x1 i1 j1)).setCell ⟨B, 2, none⟩ (.slice y1 k1 l1)) (.agg #[.bool neg, .slice x1 i1 j1, .slice y1 k1 l1]) q := by
 subst hn hm
 obtain ⟨b, x, i, j, y, k, l, T, hB⟩ := hB
 exact ⟨_, _, rfl, store3 hB h1, store3 hB h2⟩

set_option maxRecDepth 100000 in
set_option maxHeartbeats 4000000 in
theorem addRat_any (x y : Rat) (vx vy : Value) (w : World) (hx : IsRat w vx x) (hy : IsRat w vy y) (hlx : szR x 68719476736) (hly : szR y 68719476736) : Calls Try.prog 15 #[vx, vy] w (RetRat (x + y) w) := by
 obtain ⟨a1, c1, a2, c2, rfl, n1, n2⟩ := hx.opened
 obtain ⟨a3, c3, a4, c4, rfl, n3, n4⟩ := hy.opened
 have N1 := Lib.hid n1
 have N2 := Lib.hid n2
 have N3 := Lib.hid n3
 have N4 := Lib.hid n4
 have He := Lib.hid (mkQ_add x y)
 have hA := dig_length_mul b64_two x.num.natAbs y.den
 have hB := dig_length_mul b64_two y.num.natAbs x.den
 have hC := dig_length_mul b64_two x.den y.den
 have HA : Hid ((dig b64 (x.num.natAbs * y.den)).length ≤ 137438953472) := by have := hlx.1; have := hly.2; show _ ≤ _; omega
 have HBB : Hid ((dig b64 (y.num.natAbs * x.den)).length ≤ 137438953472) := by have := hlx.2; have := hly.1; show _ ≤ _; omega
 have HC : Hid ((dig b64 (x.den * y.den)).length ≤ 137438953472) := by have := hlx.2; have := hly.2; show _ ≤ _; omega
 have hS := dig_length_add b64_two (x.num.natAbs * y.den) (y.num.natAbs * x.den) 137438953472 HA.out HBB.out
 have HS := Lib.hid hS
 have HP := Lib.hid (Nat.mul_pos x.den_pos y.den_pos)
 have HLX := Lib.hid hlx
 have HLY := Lib.hid hly
 clear hx hy n1 n2 n3 n4 hlx hly hA hB hC hS
 go_enter Try.func15, Try.ntmps15
 go_wp2_with fail
 generalize hsx : decide (x.num < 0) = sx at *
 generalize hsy : decide (y.num < 0) = sy at *
 clear hsx hsy
 generalize hW0 : ((w.alloc (.cells #[.bool sx, .slice a1 (dig b64 x.num.natAbs).length c1, .slice a2 (dig b64 (dn x.den)).length c2] 40)).alloc (.cells #[.bool sy, .slice a3 (dig b64 y.num.natAbs).length c3, .slice a4 (dig b64 (dn y.den)).length c4] 40)).alloc (.cells #[.bool false, .slice none 0 0, .slice none 0 0] 40) = W at *
 obtain ⟨hal, hB1, hB2, hB3⟩ := boxes3 w _ _ _ _ W hW0.symm
 clear hW0
 have hW : Below w.heap.size w W.drew := hal.drew
 have p0 := blk_cell hB1 0 (.bool sx) rfl
 have p1 := blk_cell hB1 1 (.slice a1 (dig b64 x.num.natAbs).length c1) rfl
 have p2 := blk_cell hB1 2 (.slice a2 (dig b64 (dn x.den)).length c2) rfl
 have r0 := blk_cell hB2 0 (.bool sy) rfl
 have r1 := blk_cell hB2 1 (.slice a3 (dig b64 y.num.natAbs).length c3) rfl
 have r2 := blk_cell hB2 2 (.slice a4 (dig b64 (dn y.den)).length c4) rfl
 have HB : Hid (RB W (w.heap.size + 2)) := ⟨false, none, 0, 0, none, 0, 0, _, hB3⟩
 have hl3 := blk_lt hB3
 clear hB1 hB2 hB3
 go_region_held3 (fun w' => Below w.heap.size w w' ∧ RB w' (w.heap.size + 2) ∧ w'.cell? ⟨w.heap.size, 0, none⟩ = some (.bool sx) ∧ w'.cell? ⟨w.heap.size, 1, none⟩ = some (.slice a1 (dig b64 x.num.natAbs).length c1) ∧ w'.cell? ⟨w.heap.size, 2, none⟩ = some (.slice a2 (dig b64 (dn x.den)).length c2) ∧ w'.cell? ⟨w.heap.size + 1, 0, none⟩ = some (.bool sy) ∧ w'.cell? ⟨w.heap.size + 1, 1, none⟩ = some (.slice a3 (dig b64 y.num.natAbs).length c3) ∧ w'.cell? ⟨w.heap.size + 1, 2, none⟩ = some (.slice a4 (dig b64 (dn y.den)).length c4) ∧ w'.cell? ⟨w.heap.size + 2, 0, none⟩ = some (cellOf w' ⟨w.heap.size + 2, 0, none⟩) ∧ w'.cell? ⟨w.heap.size + 2, 1, none⟩ = some (cellOf w' ⟨w.heap.size + 2, 1, none⟩) ∧ w'.cell? ⟨w.heap.size + 2, 2, none⟩ = some (cellOf w' ⟨w.heap.size + 2, 2, none⟩) ∧ w'.frozen? ⟨w.heap.size + 2, 0, none⟩ = false ∧ w'.frozen? ⟨w.heap.size + 2, 1, none⟩ = false ∧ w'.frozen? ⟨w.heap.size + 2, 2, none⟩ = false)
  (first | exact hold6 hW p0 p1 p2 r0 r1 r2 HB.out | exact hold6_call (Nat.le_refl _) hbB (by assumption) | exact hold6_call (Nat.le_refl _) hbA (by assumption))
  (first
   | (go_at_call_of 34 (Value.slice a2 (dig b64 (dn x.den)).length c2); (with_reducible refine (under_any x.den _ _ (N2.out.below (And.left (by assumption))) x.den_pos).mono ?_); rintro e wA ⟨vA, rfl, hvA, hbA⟩)
   | (go_at_call_of 34 (Value.slice a4 (dig b64 (dn y.den)).length c4); (with_reducible refine (under_any y.den _ _ (N4.out.below (And.left (by assumption))) y.den_pos).mono ?_); rintro e wB ⟨vB, rfl, hvB, hbB⟩))
 rename_i hS1
 have hD := ext_trans hbA hbB
 have HB1 : Hid (RB wB (w.heap.size + 2)) := RB.keep (a := W.drew) HB.out hD hl3
 have hl31 := HB1.out.lt
 have hXA := Lib.hid (hvA.below hbB)
 have hXB := Lib.hid hvB
 obtain ⟨hWB, -, p0', p1', p2', r0', r1', r2', -⟩ := hS1
 clear p0 p1 p2 r0 r1 r2
 replace p0 := p0'
 replace p1 := p1'
 replace p2 := p2'
 replace r0 := r0'
 replace r1 := r1'
 replace r2 := r2'
 clear p0' p1' p2' r0' r1' r2'
 have hWB2 : Below w.heap.size w wB.drew := hWB.drew
 clear hbA hbB hvA hvB hD HB hW hal hl3
 go_wp2_with fail
 go_region_held3 (fun w' => Below w.heap.size w w' ∧ RB w' (w.heap.size + 2) ∧ w'.cell? ⟨w.heap.size, 0, none⟩ = some (.bool sx) ∧ w'.cell? ⟨w.heap.size, 1, none⟩ = some (.slice a1 (dig b64 x.num.natAbs).length c1) ∧ w'.cell? ⟨w.heap.size, 2, none⟩ = some (.slice a2 (dig b64 (dn x.den)).length c2) ∧ w'.cell? ⟨w.heap.size + 1, 0, none⟩ = some (.bool sy) ∧ w'.cell? ⟨w.heap.size + 1, 1, none⟩ = some (.slice a3 (dig b64 y.num.natAbs).length c3) ∧ w'.cell? ⟨w.heap.size + 1, 2, none⟩ = some (.slice a4 (dig b64 (dn y.den)).length c4) ∧ w'.cell? ⟨w.heap.size + 2, 0, none⟩ = some (cellOf w' ⟨w.heap.size + 2, 0, none⟩) ∧ w'.cell? ⟨w.heap.size + 2, 1, none⟩ = some (cellOf w' ⟨w.heap.size + 2, 1, none⟩) ∧ w'.cell? ⟨w.heap.size + 2, 2, none⟩ = some (cellOf w' ⟨w.heap.size + 2, 2, none⟩) ∧ w'.frozen? ⟨w.heap.size + 2, 0, none⟩ = false ∧ w'.frozen? ⟨w.heap.size + 2, 1, none⟩ = false ∧ w'.frozen? ⟨w.heap.size + 2, 2, none⟩ = false)
  (first | exact hold6 hWB2 p0 p1 p2 r0 r1 r2 HB1.out | exact hold6_call (Nat.le_refl _) hbD (by assumption) | exact hold6_call (Nat.le_refl _) hbC (by assumption))
  (first
   | (go_at_call_of 33 (Value.slice a1 (dig b64 x.num.natAbs).length c1); refine (times_any x.num.natAbs y.den _ _ _ (N1.out.below (And.left (by assumption))) (hXB.out.below (Below.refl _ _).drew) (by have := HLX.out.1; have := HLY.out.2; omega)).mono ?_; rintro e wC ⟨vC, rfl, hvC, hbC⟩)
   | (go_at_call_of 33 (Value.slice a3 (dig b64 y.num.natAbs).length c3); refine (times_any y.num.natAbs x.den _ _ _ (N3.out.below (And.left (by assumption))) ((hXA.out.below (Below.refl _ _).drew).below hbC) (by have := HLX.out.2; have := HLY.out.1; omega)).mono ?_; rintro e wD ⟨vD, rfl, hvD, hbD⟩))
 rename_i hS1
 have hD : Below wB.heap.size wB wD := ext_trans (Below.refl _ _).drew (ext_trans hbC hbD)
 have HB2 : Hid (RB wD (w.heap.size + 2)) := RB.keep HB1.out hD hl31
 have hl32 := HB2.out.lt
 have hB3 := Lib.hid (hvC.below hbD)
 have hD3 := Lib.hid hvD
 have hXA2 := Lib.hid (hXA.out.below hD)
 have hXB2 := Lib.hid (hXB.out.below hD)
 obtain ⟨hWD, -, p0', p1', p2', r0', r1', r2', -⟩ := hS1
 clear p0 p1 p2 r0 r1 r2
 replace p0 := p0'
 replace p1 := p1'
 replace p2 := p2'
 replace r0 := r0'
 replace r1 := r1'
 replace r2 := r2'
 clear p0' p1' p2' r0' r1' r2'
 clear hbC hbD hvC hvD hD HB1 hXA hXB hWB hWB2 hl31
 go_wp2_with fail
 refine (times_any x.den y.den _ _ _ hXA2.out hXB2.out (by have := HLX.out.2; have := HLY.out.2; omega)).mono ?_
 rintro e W2 ⟨vC, rfl, hvC, hbF⟩
 have HC3 := Lib.hid hvC
 have HN1 := Lib.hid (hB3.out.below hbF)
 have HN2 := Lib.hid (hD3.out.below hbF)
 have HB3 : Hid (RB W2 (w.heap.size + 2)) := RB.keep HB2.out hbF hl32
 have e6 := hold6_call (Nat.le_refl _) hbF (hold6 hWD p0 p1 p2 r0 r1 r2 HB2.out)
 obtain ⟨hW2, -, p0', p1', p2', r0', r1', r2', -⟩ := e6
 clear p0 p1 p2 r0 r1 r2 hbF HB2 hB3 hD3 hXA2 hXB2 hvC hWD hl32
 replace p0 := p0'
 replace p1 := p1'
 replace p2 := p2'
 replace r0 := r0'
 replace r1 := r1'
 replace r2 := r2'
 clear p0' p1' p2' r0' r1' r2'
 have HB2 := HB3
 have hl32 := HB2.out.lt
 clear HB3
 generalize x.num.natAbs * y.den = A at *
 generalize y.num.natAbs * x.den = B at *
 generalize x.den * y.den = C at *
 by_cases hs : (sx == sy) = true
 ·
  have Hs := Lib.hid hs
  go_wp2_with fail
  have hWe : Below w.heap.size w W2.drew := hW2.drew
  go_region_held3 (fun w' => Below w.heap.size w w' ∧ RB w' (w.heap.size + 2) ∧ w'.cell? ⟨w.heap.size, 0, none⟩ = some (.bool sx) ∧ w'.cell? ⟨w.heap.size, 1, none⟩ = some (.slice a1 (dig b64 x.num.natAbs).length c1) ∧ w'.cell? ⟨w.heap.size, 2, none⟩ = some (.slice a2 (dig b64 (dn x.den)).length c2) ∧ w'.cell? ⟨w.heap.size + 1, 0, none⟩ = some (.bool sy) ∧ w'.cell? ⟨w.heap.size + 1, 1, none⟩ = some (.slice a3 (dig b64 y.num.natAbs).length c3) ∧ w'.cell? ⟨w.heap.size + 1, 2, none⟩ = some (.slice a4 (dig b64 (dn y.den)).length c4) ∧ w'.cell? ⟨w.heap.size + 2, 0, none⟩ = some (cellOf w' ⟨w.heap.size + 2, 0, none⟩) ∧ w'.cell? ⟨w.heap.size + 2, 1, none⟩ = some (cellOf w' ⟨w.heap.size + 2, 1, none⟩) ∧ w'.cell? ⟨w.heap.size + 2, 2, none⟩ = some (cellOf w' ⟨w.heap.size + 2, 2, none⟩) ∧ w'.frozen? ⟨w.heap.size + 2, 0, none⟩ = false ∧ w'.frozen? ⟨w.heap.size + 2, 1, none⟩ = false ∧ w'.frozen? ⟨w.heap.size + 2, 2, none⟩ = false)
   (first | exact hold6 hWe p0 p1 p2 r0 r1 r2 HB2.out | exact hold6_call (Nat.le_refl _) hbE (by assumption) | exact hold6_call (Nat.le_refl _) hbD (by assumption) | exact hold6_store _ _ _ _ _ _ _ (by omega) (by omega) (by omega) (by assumption) _ rfl)
   (first
    | (go_at_call 36; (refine (plus_any A B _ _ _ (HN1.out.below (Below.refl _ _).drew) (HN2.out.below (Below.refl _ _).drew) (by have := HA.out; omega) (by have := HBB.out; omega)).mono ?_); rintro e wD' ⟨vE, rfl, hvE, hbD⟩)
    | (go_at_call 26; (refine (reduced_any _ (A + B) C _ _ _ hvE (HC3.out.below (ext_trans (show Below W2.heap.size W2 W2.drew from (Below.refl _ _).drew) hbD)) HP.out (by have := HA.out; have := HBB.out; have := HS.out; omega) (by have := HC.out; omega)).mono ?_); rintro e wE ⟨vF, rfl, hvF, hbE⟩; obtain ⟨a5, c5, a6, c6, rfl, n5, n6⟩ := IsRat.opened hvF))
  have hE := ext_trans hbD hbE
  have hRB := RB.keep (a := W2.drew) HB2.out hE hl32
  obtain ⟨g0, g1, g2, f0', f1', f2'⟩ := hRB.cell
  have hx := hWe.trans (hE.mono hWe.size)
  have hBl := hRB.lt
  have He' := He.out sx (A + B) (by have e : sx = sy := (by simpa using Hs.out); rw [← e]; exact sg_add sx A B)
  generalize mkQ sx (A + B) C = q at *
  subst He'
  go_wp2_with fail
  refine bodyPost_ret (v := .agg #[.bool (decide ((x + y).num < 0)), .slice a5 (dig b64 (x + y).num.natAbs).length _, .slice a6 (dig b64 (dn (x + y).den)).length _]) (by simp [results, Try.results15, go_sem, g0, g1, g2]; first | done | exact ⟨rfl, rfl⟩ | rfl) rfl ⟨_, rfl, ?_, below_store3 hx (by omega)⟩
  exact IsRat.stored hRB n5 n6 rfl rfl
 ·
  have hs' : (sx == sy) = false := by simpa using hs
  have Hs := Lib.hid hs'
  clear hs
  go_wp2_with fail
  refine (cmp_any A B _ _ W2 HN1.out HN2.out).mono ?_
  rintro e w' ⟨rfl, nq, rfl⟩
  have hWn : Below w.heap.size w (W2.drewN nq) := below_dn hW2 nq
  have HC4 := Lib.hid (HC3.out.below (below_dn (Below.refl W2.heap.size W2) nq))
  have HN3 := Lib.hid (HN1.out.below (below_dn (Below.refl W2.heap.size W2) nq))
  have HN4 := Lib.hid (HN2.out.below (below_dn (Below.refl W2.heap.size W2) nq))
  have HB4 : Hid (RB (W2.drewN nq) (w.heap.size + 2)) := HB2.out
  have hl34 := HB4.out.lt
  clear HB2 HN1 HN2 HC3 hW2 hl32
  have q0 : (W2.drewN nq).cell? ⟨w.heap.size, 0, none⟩ = _ := p0
  have q1 : (W2.drewN nq).cell? ⟨w.heap.size, 1, none⟩ = _ := p1
  have q2 : (W2.drewN nq).cell? ⟨w.heap.size, 2, none⟩ = _ := p2
  have q3 : (W2.drewN nq).cell? ⟨w.heap.size + 1, 0, none⟩ = _ := r0
  have q4 : (W2.drewN nq).cell? ⟨w.heap.size + 1, 1, none⟩ = _ := r1
  have q5 : (W2.drewN nq).cell? ⟨w.heap.size + 1, 2, none⟩ = _ := r2
  clear p0 p1 p2 r0 r1 r2
  have p0 := q0
  have p1 := q1
  have p2 := q2
  have r0 := q3
  have r1 := q4
  have r2 := q5
  clear q0 q1 q2 q3 q4 q5
  generalize W2.drewN nq = W3 at *
  have HC3 := HC4
  have HN1 := HN3
  have HN2 := HN4
  have HB2 := HB4
  have hl32 := hl34
  have hW2 := hWn
  clear HC4 HN3 HN4 HB4 hl34 hWn
  have hWW : W3 = W3 := rfl
  clear hWW
  by_cases hge : B ≤ A
  ·
   have hc := cmpN_ge hge
   generalize cmpN A B = c at *
   have Hge := Lib.hid hge
   clear hge
   go_wp2_with fail
   have hWe : Below w.heap.size w W3.drew := hW2.drew
   go_region_held3 (fun w' => Below w.heap.size w w' ∧ RB w' (w.heap.size + 2) ∧ w'.cell? ⟨w.heap.size, 0, none⟩ = some (.bool sx) ∧ w'.cell? ⟨w.heap.size, 1, none⟩ = some (.slice a1 (dig b64 x.num.natAbs).length c1) ∧ w'.cell? ⟨w.heap.size, 2, none⟩ = some (.slice a2 (dig b64 (dn x.den)).length c2) ∧ w'.cell? ⟨w.heap.size + 1, 0, none⟩ = some (.bool sy) ∧ w'.cell? ⟨w.heap.size + 1, 1, none⟩ = some (.slice a3 (dig b64 y.num.natAbs).length c3) ∧ w'.cell? ⟨w.heap.size + 1, 2, none⟩ = some (.slice a4 (dig b64 (dn y.den)).length c4) ∧ w'.cell? ⟨w.heap.size + 2, 0, none⟩ = some (cellOf w' ⟨w.heap.size + 2, 0, none⟩) ∧ w'.cell? ⟨w.heap.size + 2, 1, none⟩ = some (cellOf w' ⟨w.heap.size + 2, 1, none⟩) ∧ w'.cell? ⟨w.heap.size + 2, 2, none⟩ = some (cellOf w' ⟨w.heap.size + 2, 2, none⟩) ∧ w'.frozen? ⟨w.heap.size + 2, 0, none⟩ = false ∧ w'.frozen? ⟨w.heap.size + 2, 1, none⟩ = false ∧ w'.frozen? ⟨w.heap.size + 2, 2, none⟩ = false)
    (first | exact hold6 hWe p0 p1 p2 r0 r1 r2 HB2.out | exact hold6_call (Nat.le_refl _) hbE (by assumption) | exact hold6_call (Nat.le_refl _) hbD (by assumption) | exact hold6_store _ _ _ _ _ _ _ (by omega) (by omega) (by omega) (by assumption) _ rfl)
    (first
     | (go_at_call 37; (refine (minus_any A B _ _ _ (HN1.out.below (Below.refl _ _).drew) (HN2.out.below (Below.refl _ _).drew) Hge.out (by have := HA.out; omega)).mono ?_); rintro e wD' ⟨vE, rfl, hvE, hbD⟩)
     | (go_at_call 26; (refine (reduced_any _ (A - B) C _ _ _ hvE (HC3.out.below (ext_trans (show Below W3.heap.size W3 W3.drew from (Below.refl _ _).drew) hbD)) HP.out (by have := HA.out; exact Nat.le_trans (dig_length_mono b64_two (Nat.sub_le _ _)) (by omega)) (by have := HC.out; omega)).mono ?_); rintro e wE ⟨vF, rfl, hvF, hbE⟩; obtain ⟨a5, c5, a6, c6, rfl, n5, n6⟩ := IsRat.opened hvF))
   have hE := ext_trans hbD hbE
   have hRB := RB.keep (a := W3.drew) HB2.out hE hl32
   obtain ⟨g0, g1, g2, f0', f1', f2'⟩ := hRB.cell
   have hx := hWe.trans (hE.mono hWe.size)
   have hBl := hRB.lt
   have He' := He.out sx (A - B) (sg_sub Hs.out Hge.out)
   generalize mkQ sx (A - B) C = q at *
   subst He'
   go_wp2_with fail
   refine bodyPost_ret (v := .agg #[.bool (decide ((x + y).num < 0)), .slice a5 (dig b64 (x + y).num.natAbs).length _, .slice a6 (dig b64 (dn (x + y).den)).length _]) (by simp [results, Try.results15, go_sem, g0, g1, g2]; first | done | exact ⟨rfl, rfl⟩ | rfl) rfl ⟨_, rfl, ?_, below_store3 hx (by omega)⟩
   exact IsRat.stored hRB n5 n6 rfl rfl
  ·
   have hc := cmpN_nge hge
   generalize cmpN A B = c at *
   have Hge : Hid (A ≤ B) := Nat.le_of_lt (Nat.lt_of_not_le hge)
   clear hge
   go_wp2_with fail
   have hWe : Below w.heap.size w W3.drew := hW2.drew
   go_region_held3 (fun w' => Below w.heap.size w w' ∧ RB w' (w.heap.size + 2) ∧ w'.cell? ⟨w.heap.size, 0, none⟩ = some (.bool sx) ∧ w'.cell? ⟨w.heap.size, 1, none⟩ = some (.slice a1 (dig b64 x.num.natAbs).length c1) ∧ w'.cell? ⟨w.heap.size, 2, none⟩ = some (.slice a2 (dig b64 (dn x.den)).length c2) ∧ w'.cell? ⟨w.heap.size + 1, 0, none⟩ = some (.bool sy) ∧ w'.cell? ⟨w.heap.size + 1, 1, none⟩ = some (.slice a3 (dig b64 y.num.natAbs).length c3) ∧ w'.cell? ⟨w.heap.size + 1, 2, none⟩ = some (.slice a4 (dig b64 (dn y.den)).length c4) ∧ w'.cell? ⟨w.heap.size + 2, 0, none⟩ = some (cellOf w' ⟨w.heap.size + 2, 0, none⟩) ∧ w'.cell? ⟨w.heap.size + 2, 1, none⟩ = some (cellOf w' ⟨w.heap.size + 2, 1, none⟩) ∧ w'.cell? ⟨w.heap.size + 2, 2, none⟩ = some (cellOf w' ⟨w.heap.size + 2, 2, none⟩) ∧ w'.frozen? ⟨w.heap.size + 2, 0, none⟩ = false ∧ w'.frozen? ⟨w.heap.size + 2, 1, none⟩ = false ∧ w'.frozen? ⟨w.heap.size + 2, 2, none⟩ = false)
    (first | exact hold6 hWe p0 p1 p2 r0 r1 r2 HB2.out | exact hold6_call (Nat.le_refl _) hbE (by assumption) | exact hold6_call (Nat.le_refl _) hbD (by assumption) | exact hold6_store _ _ _ _ _ _ _ (by omega) (by omega) (by omega) (by assumption) _ rfl)
    (first
     | (go_at_call 37; (refine (minus_any B A _ _ _ (HN2.out.below (Below.refl _ _).drew) (HN1.out.below (Below.refl _ _).drew) Hge.out (by have := HBB.out; omega)).mono ?_); rintro e wD' ⟨vE, rfl, hvE, hbD⟩)
     | (go_at_call 26; (refine (reduced_any _ (B - A) C _ _ _ hvE (HC3.out.below (ext_trans (show Below W3.heap.size W3 W3.drew from (Below.refl _ _).drew) hbD)) HP.out (by have := HBB.out; exact Nat.le_trans (dig_length_mono b64_two (Nat.sub_le _ _)) (by omega)) (by have := HC.out; omega)).mono ?_); rintro e wE ⟨vF, rfl, hvF, hbE⟩; obtain ⟨a5, c5, a6, c6, rfl, n5, n6⟩ := IsRat.opened hvF))
   have hE := ext_trans hbD hbE
   have hRB := RB.keep (a := W3.drew) HB2.out hE hl32
   obtain ⟨g0, g1, g2, f0', f1', f2'⟩ := hRB.cell
   have hx := hWe.trans (hE.mono hWe.size)
   have hBl := hRB.lt
   have He' := He.out sy (B - A) (by rw [Int.add_comm]; exact sg_sub (by have := Hs.out; cases sx <;> cases sy <;> simp_all) Hge.out)
   generalize mkQ sy (B - A) C = q at *
   subst He'
   go_wp2_with fail
   refine bodyPost_ret (v := .agg #[.bool (decide ((x + y).num < 0)), .slice a5 (dig b64 (x + y).num.natAbs).length _, .slice a6 (dig b64 (dn (x + y).den)).length _]) (by simp [results, Try.results15, go_sem, g0, g1, g2]; first | done | exact ⟨rfl, rfl⟩ | rfl) rfl ⟨_, rfl, ?_, below_store3 hx (by omega)⟩
   exact IsRat.stored hRB n5 n6 rfl rfl

end Go.Proofs.Ytanmcbbnnjamoaa
