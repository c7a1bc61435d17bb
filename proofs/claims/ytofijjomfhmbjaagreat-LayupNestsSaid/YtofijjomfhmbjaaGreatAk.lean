/- Part k of the lemmas and walks. -/
import Derived.Test.YtofijjomfhmbjaaGreatAj

namespace Go.Proofs.YtofijjomfhmbjaaGreat
open Go.RowKit

theorem IsRat.grownL {w w' : World} {v : Value} {q : Rat} {row : Option Nat} (h : IsRat w v q) (hg : w.grownBy w' row) (hr : ∀ g, row = some g → NoDig w g) : IsRat w' v q := by
 obtain ⟨vn, vd, rfl, h1, h2⟩ := h
 exact ⟨vn, vd, rfl, IsRow.grown (.inl rfl) h1 hg hr, IsRow.grown (.inl rfl) h2 hg hr⟩
theorem ownBlock_low {w : World} {base : Nat} {e : TypeId} {size : Nat} {v : Value} {n : Nat} {xs : List Value} (h : w.ownsRow base e size v n xs) : ∀ k, v.ownBlock = some k → base ≤ k := by
 intro k hk
 rcases h.2 with ⟨rfl, _⟩ | ⟨g, cap, cur, rfl, hb, _⟩
 ·
  simp [Value.ownBlock] at hk
 ·
  simp [Value.ownBlock] at hk
  omega
def VtxAt (w : World) (b o : Nat) (p : Rat × Rat) : Prop :=
 ∃ v0 v1 v2 v3 v4 v5, w.cell? ⟨b, o, none⟩ = some v0 ∧ w.cell? ⟨b, o + 1, none⟩ = some v1 ∧ w.cell? ⟨b, o + 2, none⟩ = some v2 ∧ w.cell? ⟨b, o + 3, none⟩ = some v3 ∧ w.cell? ⟨b, o + 4, none⟩ = some v4 ∧ w.cell? ⟨b, o + 5, none⟩ = some v5 ∧
  IsRat w (.agg #[v0, v1, v2]) p.1 ∧ IsRat w (.agg #[v3, v4, v5]) p.2
def VtxOf (w : World) (v : Value) (vs : List (Rat × Rat)) : Prop :=
 ∃ ao cap, v = .slice ao vs.length cap ∧ (0 < vs.length → ∃ b off, ao = some ⟨b, off, none⟩ ∧ b < w.heap.size ∧ ∀ i, i < vs.length → VtxAt w b (off + i * 6) (vs.getD i (0, 0)))
theorem VtxAt.below {w w' : World} {b o : Nat} {p : Rat × Rat} (h : VtxAt w b o p) (hb : Below w.heap.size w w') (hl : b < w.heap.size) : VtxAt w' b o p := by
 obtain ⟨v0, v1, v2, v3, v4, v5, h0, h1, h2, h3, h4, h5, h6, h7⟩ := h
 have c : ∀ j v, w.cell? ⟨b, j, none⟩ = some v → w'.cell? ⟨b, j, none⟩ = some v := fun j v h => (hb.cell (p := ⟨b, j, none⟩) hl).trans h
 exact ⟨v0, v1, v2, v3, v4, v5, c _ _ h0, c _ _ h1, c _ _ h2, c _ _ h3, c _ _ h4, c _ _ h5, h6.below hb, h7.below hb⟩
theorem VtxOf.below {w w' : World} {v : Value} {vs : List (Rat × Rat)} (h : VtxOf w v vs) (hb : Below w.heap.size w w') : VtxOf w' v vs := by
 obtain ⟨ao, cap, rfl, h⟩ := h
 refine ⟨ao, cap, rfl, fun hl => ?_⟩
 obtain ⟨b, off, rfl, hlt, h⟩ := h hl
 exact ⟨b, off, rfl, Nat.lt_of_lt_of_le hlt hb.size, fun i hi => (h i hi).below hb hlt⟩
def VtxRow (w : World) (xs : List Value) (vs : List (Rat × Rat)) : Prop :=
 xs.length = vs.length * 6 ∧ ∀ j, j < vs.length → ∃ v0 v1 v2 v3 v4 v5, xs[j * 6]? = some v0 ∧ xs[j * 6 + 1]? = some v1 ∧ xs[j * 6 + 2]? = some v2 ∧ xs[j * 6 + 3]? = some v3 ∧ xs[j * 6 + 4]? = some v4 ∧ xs[j * 6 + 5]? = some v5 ∧
  IsRat w (.agg #[v0, v1, v2]) (vs.getD j (0, 0)).1 ∧ IsRat w (.agg #[v3, v4, v5]) (vs.getD j (0, 0)).2
theorem VtxRow.mono {w w' : World} {xs : List Value} {vs : List (Rat × Rat)} (h : VtxRow w xs vs) (hr : ∀ v q, IsRat w v q → IsRat w' v q) : VtxRow w' xs vs :=
 ⟨h.1, fun j hj => by obtain ⟨v0, v1, v2, v3, v4, v5, h0, h1, h2, h3, h4, h5, h6, h7⟩ := h.2 j hj; exact ⟨v0, v1, v2, v3, v4, v5, h0, h1, h2, h3, h4, h5, hr _ _ h6, hr _ _ h7⟩⟩
theorem VtxRow.nil (w : World) : VtxRow w [] [] := ⟨rfl, fun j hj => absurd hj (by simp)⟩
theorem VtxRow.snoc {w : World} {xs : List Value} {vs : List (Rat × Rat)} (h : VtxRow w xs vs) {v0 v1 v2 v3 v4 v5 : Value} {p q : Rat} (hp : IsRat w (.agg #[v0, v1, v2]) p) (hq : IsRat w (.agg #[v3, v4, v5]) q) :
  VtxRow w (xs ++ [v0, v1, v2, v3, v4, v5]) (vs ++ [(p, q)]) := by
 obtain ⟨hl, h⟩ := h
 refine ⟨by simp [hl]; omega, fun j hj => ?_⟩
 rcases Nat.lt_or_ge j vs.length with h1 | h1
 ·
  obtain ⟨u0, u1, u2, u3, u4, u5, k0, k1, k2, k3, k4, k5, k6, k7⟩ := h j h1
  have e : ∀ k, k < 6 → (xs ++ [v0, v1, v2, v3, v4, v5])[j * 6 + k]? = xs[j * 6 + k]? := fun k hk => List.getElem?_append_left (by omega)
  have e2 : (vs ++ [(p, q)]).getD j (0, 0) = vs.getD j (0, 0) := by simp [List.getD, List.getElem?_append_left h1]
  rw [e2]
  exact ⟨u0, u1, u2, u3, u4, u5, by rw [← k0]; exact e 0 (by omega), by rw [← k1]; exact e 1 (by omega), by rw [← k2]; exact e 2 (by omega), by rw [← k3]; exact e 3 (by omega), by rw [← k4]; exact e 4 (by omega), by rw [← k5]; exact e 5 (by omega), k6, k7⟩
 ·
  obtain rfl : j = vs.length := by simp at hj; omega
  have e : ∀ k, (xs ++ [v0, v1, v2, v3, v4, v5])[vs.length * 6 + k]? = ([v0, v1, v2, v3, v4, v5] : List Value)[k]? := fun k => by rw [List.getElem?_append_right (by omega), hl]; congr 1; omega
  have e2 : (vs ++ [(p, q)]).getD vs.length (0, 0) = (p, q) := by simp [List.getD]
  rw [e2]
  exact ⟨v0, v1, v2, v3, v4, v5, e 0, e 1, e 2, e 3, e 4, e 5, hp, hq⟩
theorem VtxOf.ofRow {w : World} {base : Nat} {e : TypeId} {v : Value} {xs : List Value} {vs : List (Rat × Rat)} (h : LRow w base e 6 v vs.length xs) (ht : VtxRow w xs vs) : VtxOf w v vs := by
 rcases Nat.eq_zero_or_pos vs.length with h0 | hp
 ·
  rcases h.1.2 with ⟨rfl, _⟩ | ⟨g, cap, cur, rfl, _⟩
  ·
   exact ⟨none, 0, by rw [h0], fun h => absurd h (by omega)⟩
  ·
   exact ⟨_, _, rfl, fun h => absurd h (by omega)⟩
 ·
  obtain ⟨g, cap, rfl⟩ := ownsRow_some h.1 hp
  have hc : ∀ j u, xs[j]? = some u → w.cell? ((⟨g, 0, none⟩ : Addr).add j) = some u := h.1.cells (g := g) rfl
  have hlt : g < w.heap.size := (h.lt rfl).1
  refine ⟨_, _, rfl, fun _ => ⟨g, 0, rfl, hlt, fun i hi => ?_⟩⟩
  obtain ⟨v0, v1, v2, v3, v4, v5, h0, h1, h2, h3, h4, h5, h6, h7⟩ := ht.2 i hi
  have ea : ∀ j, (⟨g, 0, none⟩ : Addr).add j = ⟨g, 0 + j, none⟩ := fun j => by unfold Addr.add; split <;> simp_all
  refine ⟨v0, v1, v2, v3, v4, v5, ?_, ?_, ?_, ?_, ?_, ?_, h6, h7⟩
  ·
   rw [← ea]; exact hc _ _ h0
  all_goals rw [Nat.add_assoc, ← ea]
  ·
   exact hc _ _ h1
  ·
   exact hc _ _ h2
  ·
   exact hc _ _ h3
  ·
   exact hc _ _ h4
  ·
   exact hc _ _ h5
structure VS (w0 w : World) (va : Value) (xs : List Value) (vs : List (Rat × Rat)) : Prop where
 x : Below w0.heap.size w0 w
 la : LRow w w0.heap.size 99 6 va vs.length xs
 ta : VtxRow w xs vs
theorem VS.below {w0 w w' : World} {va : Value} {xs : List Value} {vs : List (Rat × Rat)} (h : VS w0 w va xs vs) (hb : Below w.heap.size w w') : VS w0 w' va xs vs :=
 ⟨ext_trans h.x hb, h.la.below hb, h.ta.mono fun _ _ hr => hr.below hb⟩
theorem VS.alloc {w0 w : World} {va : Value} {xs : List Value} {vs : List (Rat × Rat)} (h : VS w0 w va xs vs) (o : Obj) : VS w0 (w.alloc o) va xs vs := h.below ((Below.refl _ _).alloc (Nat.le_refl _) _)
theorem VS.append {w0 w w' : World} {va va' : Value} {xs : List Value} {vs : List (Rat × Rat)} (h : VS w0 w va xs vs) {v0 v1 v2 v3 v4 v5 : Value} {p q : Rat} (hp : IsRat w (.agg #[v0, v1, v2]) p) (hq : IsRat w (.agg #[v3, v4, v5]) q)
  (hL : LRow w' w0.heap.size 99 6 va' (vs.length + 1) (xs ++ [v0, v1, v2, v3, v4, v5])) (hg : w.grownBy w' va.ownBlock) : VS w0 w' va' (xs ++ [v0, v1, v2, v3, v4, v5]) (vs ++ [(p, q)]) := by
 have hnd : ∀ g, va.ownBlock = some g → NoDig w g := h.la.2
 exact ⟨h.x.grown hg h.x.size (ownBlock_low h.la.1), by rw [List.length_append]; exact hL, (h.ta.mono fun _ _ hr => hr.grownL hg hnd).snoc (hp.grownL hg hnd) (hq.grownL hg hnd)⟩
theorem cell_new6 (w : World) (a b c d e f : Value) (t : TypeId) : ∀ j u, [a, b, c, d, e, f][j]? = some u → (w.alloc (.cells #[a, b, c, d, e, f] t)).cell? ((⟨w.heap.size, 0, none⟩ : Addr).add j) = some u := by
 intro j u hj
 match j, hj with
 | 0, hj => simp at hj; subst hj; simp [Addr.add]
 | 1, hj => simp at hj; subst hj; simp [Addr.add]
 | 2, hj => simp at hj; subst hj; simp [Addr.add]
 | 3, hj => simp at hj; subst hj; simp [Addr.add]
 | 4, hj => simp at hj; subst hj; simp [Addr.add]
 | 5, hj => simp at hj; subst hj; simp [Addr.add]
 | j + 6, hj => simp at hj
theorem info_vertex : (Tryz.prog.info? 99).map (fun i => (i.zero, i.size, i.bytes)) = some (some (.agg #[.bool false, .slice none 0 0, .slice none 0 0, .bool false, .slice none 0 0, .slice none 0 0]), 6, 112) := by kernel_rfl
def boxP (x y : Int) (B : Nat) (w : World) : Prop := w.heap[B]? = some (.cells #[.int .i64 x, .int .i64 y] 45 (0, 0))
theorem boxP.all {x y : Int} {B : Nat} {w : World} (h : boxP x y B w) : boxP x y B w ∧ w.cell? ⟨B, 0, none⟩ = some (.int .i64 x) ∧ w.cell? ⟨B, 1, none⟩ = some (.int .i64 y) := ⟨h, blk_cell h 0 _ rfl, blk_cell h 1 _ rfl⟩
theorem boxP.below {x y : Int} {B : Nat} {a b : World} (hb : Below a.heap.size a b) (h : boxP x y B a ∧ a.cell? ⟨B, 0, none⟩ = some (.int .i64 x) ∧ a.cell? ⟨B, 1, none⟩ = some (.int .i64 y)) : boxP x y B b ∧ b.cell? ⟨B, 0, none⟩ = some (.int .i64 x) ∧ b.cell? ⟨B, 1, none⟩ = some (.int .i64 y) :=
 boxP.all (blk_keep h.1 hb (blk_lt h.1))
theorem boxP.grown {x y : Int} {B : Nat} {a b : World} {row : Option Nat} (hg : a.grownBy b row) (hne : some B ≠ row) (h : boxP x y B a ∧ a.cell? ⟨B, 0, none⟩ = some (.int .i64 x) ∧ a.cell? ⟨B, 1, none⟩ = some (.int .i64 y)) : boxP x y B b ∧ b.cell? ⟨B, 0, none⟩ = some (.int .i64 x) ∧ b.cell? ⟨B, 1, none⟩ = some (.int .i64 y) :=
 boxP.all ((hg.block B (blk_lt h.1) hne).trans h.1)

def ratPt (p : Pt) : Rat × Rat := ((p.1 : Rat), (p.2 : Rat))
def ratPts (l : List Pt) : List (Rat × Rat) := l.map ratPt
theorem ratPts_take (l : List Pt) (i : Nat) (hi : i < l.length) : ratPts (l.take (i + 1)) = ratPts (l.take i) ++ [(((l.getD i (0, 0)).1 : Rat), ((l.getD i (0, 0)).2 : Rat))] := by
 unfold ratPts
 rw [List.take_add_one, List.map_append]
 simp [hi, ratPt]
theorem ratPts_length (l : List Pt) (i : Nat) (hi : i ≤ l.length) : (ratPts (l.take i)).length = i := by simp [ratPts]; omega
def RetVtx (vs : List (Rat × Rat)) (w : World) (e : Ending) (w' : World) : Prop := ∃ v, e = .returned v ∧ VtxOf w' v vs ∧ Below w.heap.size w w'

set_option maxRecDepth 100000 in
set_option maxHeartbeats 4000000 in
theorem vertices_any (l : List Pt) (v : Value) (w : World) (h : PairsOf w v l) (hr : ptsOk l = true) (hl : l.length ≤ 1000000) : Calls Tryz.prog 33 #[v] w (RetVtx (ratPts l) w) := by
 obtain ⟨ao, cap, rfl, hE⟩ := h
 have HE := Lib.hid hE
 have HR := Lib.hid hr
 obtain ⟨iA, hiA, hzA, hsA, hyA⟩ := info_parts info_vertex
 have hzd : ∀ u ∈ (Value.agg #[.bool false, .slice none 0 0, .slice none 0 0, .bool false, .slice none 0 0, .slice none 0 0]).cells.toList, noDig u := by
  intro u hu
  simp [Value.cells] at hu
  rcases hu with rfl | rfl | rfl | rfl
  ·
   exact noDig_bool _
  ·
   exact noDig_slice _ _ _
  ·
   exact noDig_bool _
  ·
   exact noDig_slice _ _ _
 clear hE hr
 go_enter Tryz.func33, Tryz.ntmps33
 go_wp2_with fail
 go_loopw [3, 8] (fun va iv wr => ∃ (i : Nat) (xs : List Value), i ≤ l.length ∧ iv = .int .i64 i ∧ VS w wr va xs (ratPts (l.take i)))
  (fun _ iv _ => l.length - (intOf iv).toNat)
 case atStart => exact ⟨0, [], Nat.zero_le _, rfl, Below.refl _ _, LRow.nil _ _ _ _, VtxRow.nil _⟩
 case round =>
  obtain ⟨i, xs, hi, rfl, hT⟩ := hrel
  have HT := Lib.hid hT
  by_cases hlt : i < l.length
  ·
   obtain ⟨b, off, rfl, hbl, hEE⟩ := HE.out (by omega)
   obtain ⟨g0, g1⟩ := (hEE i hlt).below hT.x hbl
   have hlt' : (i : Int) < l.length := by omega
   have hge' : (0 : Int) ≤ i := by omega
   have hbl2 : b < wr.heap.size := Nat.lt_of_lt_of_le hbl hT.x.size
   have Htk := Lib.hid (ratPts_take l i hlt)
   have hln := ratPts_length l i hi
   have hpo := ptOk_range (ptsOk_get HR.out i hlt)
   have hx1 : -4398046511104 ≤ (l.getD i (0, 0)).1 ∧ (l.getD i (0, 0)).1 ≤ 4398046511104 := hpo.1
   have hy1 : -4398046511104 ≤ (l.getD i (0, 0)).2 ∧ (l.getD i (0, 0)).2 ≤ 4398046511104 := hpo.2
   clear hEE hT hpo
   generalize (l.getD i (0, 0)).1 = x at *
   generalize (l.getD i (0, 0)).2 = y at *
   generalize ratPts (l.take i) = vs at *
   have HWX := Lib.hid (fun W => lwhole_any x W (by omega) (by omega))
   have HWY := Lib.hid (fun W => lwhole_any y W (by omega) (by omega))
   have hvs : vs.length ≤ 1000000 := by omega
   clear hln hx1 hy1
   have hN : boxP x y wr.heap.size (wr.alloc (.cells #[.int .i64 x, .int .i64 y] 45)).drew := blk_new wr #[.int .i64 x, .int .i64 y] 45
   have HT0 := Lib.hid (HT.out.below (((Below.refl wr.heap.size wr).alloc (Nat.le_refl _) (.cells #[.int .i64 x, .int .i64 y] 45)).drew))
   have hAlt := Lib.hid (fun g (hg : u3.ownBlock = some g) => (HT.out.la.lt hg).1)
   go_wp2_with fail
   go_region_held3 (fun w' => boxP x y wr.heap.size w' ∧ w'.cell? ⟨wr.heap.size, 0, none⟩ = some (.int .i64 x) ∧ w'.cell? ⟨wr.heap.size, 1, none⟩ = some (.int .i64 y))
    (first | exact hN.all | assumption | (refine boxP.below hbB ?_; assumption) | (refine boxP.below hbA ?_; assumption) | (refine boxP.below ((Below.refl _ _).alloc (Nat.le_refl _) _) ?_; assumption) | (refine boxP.grown hgrA (fun e => Nat.lt_irrefl _ (hAlt.out _ e.symm)) ?_; assumption))
    (first
     | (go_at_call_of 49 (Value.int .i64 x); refine (HWX.out _).mono ?_; rintro e wA ⟨vA, rfl, hvA, hbA⟩; obtain ⟨a1, c1, a2, c2, rfl, _, _⟩ := hvA.opened; have HVA := Lib.hid hvA; have HT1 := Lib.hid (HT0.out.below hbA); clear hvA)
     | (go_at_call_of 49 (Value.int .i64 y); refine (HWY.out _).mono ?_; rintro e wB ⟨vB, rfl, hvB, hbB⟩; obtain ⟨a3, c3, a4, c4, rfl, _, _⟩ := hvB.opened; have HVB := Lib.hid hvB; have HVA2 := Lib.hid (HVA.out.below hbB); have HT2 := Lib.hid (HT1.out.below hbB); clear hvB)
     | (refine step_append_lrow _ rfl (.tmp 12) (.tmp 20) 87 rfl w.heap.size 99 iA _ 6 112 Tryz.underlying87 hiA hzA hsA hyA rfl (by decide) hzd _ _ _ rfl (HT2.out.alloc _).la ⟨wB.heap.size, 0, none⟩ 1 1 [.bool (decide ((x : Rat).num < 0)), .slice a1 (dig b64 (x : Rat).num.natAbs).length c1, .slice a2 (dig b64 (dn (x : Rat).den)).length c2, .bool (decide ((y : Rat).num < 0)), .slice a3 (dig b64 (y : Rat).num.natAbs).length c3, .slice a4 (dig b64 (dn (y : Rat).den)).length c4] rfl rfl (cell_new6 _ _ _ _ _ _ _ _) (by simp [Value.oneCell']) (by intro u hu; simp at hu; rcases hu with rfl | rfl | rfl | rfl | rfl | rfl; exact noDig_bool _; exact noDig_slice _ _ _; exact noDig_slice _ _ _; exact noDig_bool _; exact noDig_slice _ _ _; exact noDig_slice _ _ _) (by omega) (by unfold maxLen; omega) (by omega) (HT2.out.alloc _).x.size ?_; intro gA capA w3 hL3 hgrA hatA; have HT3 := Lib.hid ((HT2.out.alloc _).append (HVA2.out.below ((Below.refl _ _).alloc (Nat.le_refl _) _)) (HVB.out.below ((Below.refl _ _).alloc (Nat.le_refl _) _)) hL3 hgrA)))
   clear HT HT0 HT1 HT2 HVA HVB HVA2 hL3 hgrA
   go_wp2_with fail
   exact ⟨⟨i + 1, _, by omega, by go_num, by rw [Htk.out]; exact HT3.out⟩, meas_up hlt⟩
  ·
   obtain rfl : i = l.length := by omega
   rw [List.take_length] at hT HT
   have hln : (ratPts l).length = l.length := by simp [ratPts]
   clear hT
   go_wp2_with fail
   go_ret
   exact ⟨_, rfl, VtxOf.ofRow HT.out.la HT.out.ta, HT.out.x⟩

def sumTo (vs : List (Rat × Rat)) : Nat → Rat
 | 0 => 0
 | i + 1 => sumTo vs i + (vs.getD i (0, 0)).1 * (vs.getD ((i + 1) % vs.length) (0, 0)).2 - (vs.getD i (0, 0)).2 * (vs.getD ((i + 1) % vs.length) (0, 0)).1
def SzV (vs : List (Rat × Rat)) : Prop := ∀ i, i < vs.length → szR (vs.getD i (0, 0)).1 1000 ∧ szR (vs.getD i (0, 0)).2 1000
theorem sumTo_size {vs : List (Rat × Rat)} (h : SzV vs) (i : Nat) (hi : i ≤ vs.length) : szR (sumTo vs i) (1 + 4002 * i) := by
 induction i with
 | zero => exact ⟨by simp [sumTo, dig_zero], dig_length_le b64_two 1 _ (by simp [sumTo]; unfold b64; omega)⟩
 | succ i ih =>
  have h1 := h i (by omega)
  have h2 := h ((i + 1) % vs.length) (Nat.mod_lt _ (by omega))
  have a := szR_add (ih (by omega)) (szR_mul h1.1 h2.2)
  have b := szR_sub a (szR_mul h1.2 h2.1)
  exact szR_mono b (by omega)
def BoxQ (w : World) (B : Nat) (q : Rat) : Prop := ∃ b x i j y k l T, w.heap[B]? = some (.cells #[.bool b, .slice x i j, .slice y k l] T (0, 0)) ∧ IsRat w (.agg #[.bool b, .slice x i j, .slice y k l]) q
theorem BoxQ.rb {w : World} {B : Nat} {q : Rat} (h : BoxQ w B q) : RB w B := by
 obtain ⟨b, x, i, j, y, k, l, T, h, _⟩ := h; exact ⟨b, x, i, j, y, k, l, T, h⟩
theorem BoxQ.stored {w : World} {B : Nat} {neg : Bool} {x1 y1 : Option Addr} {i1 j1 k1 l1 : Nat} {q : Rat} (hB : RB w B) (h : IsRat w (.agg #[.bool neg, .slice x1 i1 j1, .slice y1 k1 l1]) q) :
  BoxQ (((w.setCell ⟨B, 0, none⟩ (.bool neg)).setCell ⟨B, 1, none⟩ (.slice x1 i1 j1)).setCell ⟨B, 2, none⟩ (.slice y1 k1 l1)) B q := by
 obtain ⟨vn, vd, e, h1, h2⟩ := h
 simp only [Value.agg.injEq, Array.mk.injEq, List.cons.injEq, Value.bool.injEq, and_true] at e
 obtain ⟨rfl, rfl, rfl⟩ := e
 obtain ⟨b, x, i, j, y, k, l, T, hB⟩ := hB
 exact ⟨_, x1, i1, j1, y1, k1, l1, T, by exact blk_set (blk_set (blk_set hB 0 _) 1 _) 2 _, _, _, rfl, store3 hB h1, store3 hB h2⟩
theorem RB.other {w : World} {B B' : Nat} (h : RB w B') (hne : B' ≠ B) (u0 u1 u2 : Value) : RB (((w.setCell ⟨B, 0, none⟩ u0).setCell ⟨B, 1, none⟩ u1).setCell ⟨B, 2, none⟩ u2) B' := by
 obtain ⟨b, x, i, j, y, k, l, T, h⟩ := h
 refine ⟨b, x, i, j, y, k, l, T, ?_⟩
 rw [heap_setCell_other _ ⟨B, 2, none⟩ B' _ hne, heap_setCell_other _ ⟨B, 1, none⟩ B' _ hne, heap_setCell_other _ ⟨B, 0, none⟩ B' _ hne]
 exact h
theorem keep12 {n : Nat} {W a b : World} {VBl WB : Nat} {x0 x1 x2 x3 x4 x5 y0 y1 y2 y3 y4 y5 : Value} (hn : n ≤ W.heap.size) (hb : Below a.heap.size a b) (h : Below n W a ∧ a.cell? ⟨VBl, 0, none⟩ = some x0 ∧ a.cell? ⟨VBl, 1, none⟩ = some x1 ∧ a.cell? ⟨VBl, 2, none⟩ = some x2 ∧ a.cell? ⟨VBl, 3, none⟩ = some x3 ∧ a.cell? ⟨VBl, 4, none⟩ = some x4 ∧ a.cell? ⟨VBl, 5, none⟩ = some x5 ∧ a.cell? ⟨WB, 0, none⟩ = some y0 ∧ a.cell? ⟨WB, 1, none⟩ = some y1 ∧ a.cell? ⟨WB, 2, none⟩ = some y2 ∧ a.cell? ⟨WB, 3, none⟩ = some y3 ∧ a.cell? ⟨WB, 4, none⟩ = some y4 ∧ a.cell? ⟨WB, 5, none⟩ = some y5) : Below n W b ∧ b.cell? ⟨VBl, 0, none⟩ = some x0 ∧ b.cell? ⟨VBl, 1, none⟩ = some x1 ∧ b.cell? ⟨VBl, 2, none⟩ = some x2 ∧ b.cell? ⟨VBl, 3, none⟩ = some x3 ∧ b.cell? ⟨VBl, 4, none⟩ = some x4 ∧ b.cell? ⟨VBl, 5, none⟩ = some x5 ∧ b.cell? ⟨WB, 0, none⟩ = some y0 ∧ b.cell? ⟨WB, 1, none⟩ = some y1 ∧ b.cell? ⟨WB, 2, none⟩ = some y2 ∧ b.cell? ⟨WB, 3, none⟩ = some y3 ∧ b.cell? ⟨WB, 4, none⟩ = some y4 ∧ b.cell? ⟨WB, 5, none⟩ = some y5 := by
 obtain ⟨h0, h1, h2, h3, h4, h5, h6, k1, k2, k3, k4, k5, k6⟩ := h
 have e : ∀ B j v, a.cell? ⟨B, j, none⟩ = some v → b.cell? ⟨B, j, none⟩ = some v := fun B j v h => (hb.cell (p := ⟨B, j, none⟩) (World.block_lt_of_cell? (h := h))).trans h
 have := h0.size
 exact ⟨h0.trans (hb.mono (by omega)), e _ _ _ h1, e _ _ _ h2, e _ _ _ h3, e _ _ _ h4, e _ _ _ h5, e _ _ _ h6, e _ _ _ k1, e _ _ _ k2, e _ _ _ k3, e _ _ _ k4, e _ _ _ k5, e _ _ _ k6⟩
theorem keep12s {n : Nat} {W a : World} {VBl WB B : Nat} {x0 x1 x2 x3 x4 x5 y0 y1 y2 y3 y4 y5 u0 u1 u2 : Value} (hn : n ≤ B) (hv : VBl ≠ B) (hw : WB ≠ B) (h : Below n W a ∧ a.cell? ⟨VBl, 0, none⟩ = some x0 ∧ a.cell? ⟨VBl, 1, none⟩ = some x1 ∧ a.cell? ⟨VBl, 2, none⟩ = some x2 ∧ a.cell? ⟨VBl, 3, none⟩ = some x3 ∧ a.cell? ⟨VBl, 4, none⟩ = some x4 ∧ a.cell? ⟨VBl, 5, none⟩ = some x5 ∧ a.cell? ⟨WB, 0, none⟩ = some y0 ∧ a.cell? ⟨WB, 1, none⟩ = some y1 ∧ a.cell? ⟨WB, 2, none⟩ = some y2 ∧ a.cell? ⟨WB, 3, none⟩ = some y3 ∧ a.cell? ⟨WB, 4, none⟩ = some y4 ∧ a.cell? ⟨WB, 5, none⟩ = some y5) (b : World) (hb : b = ((a.setCell ⟨B, 0, none⟩ u0).setCell ⟨B, 1, none⟩ u1).setCell ⟨B, 2, none⟩ u2) : Below n W b ∧ b.cell? ⟨VBl, 0, none⟩ = some x0 ∧ b.cell? ⟨VBl, 1, none⟩ = some x1 ∧ b.cell? ⟨VBl, 2, none⟩ = some x2 ∧ b.cell? ⟨VBl, 3, none⟩ = some x3 ∧ b.cell? ⟨VBl, 4, none⟩ = some x4 ∧ b.cell? ⟨VBl, 5, none⟩ = some x5 ∧ b.cell? ⟨WB, 0, none⟩ = some y0 ∧ b.cell? ⟨WB, 1, none⟩ = some y1 ∧ b.cell? ⟨WB, 2, none⟩ = some y2 ∧ b.cell? ⟨WB, 3, none⟩ = some y3 ∧ b.cell? ⟨WB, 4, none⟩ = some y4 ∧ b.cell? ⟨WB, 5, none⟩ = some y5 := by
 subst hb
 obtain ⟨h0, h1, h2, h3, h4, h5, h6, k1, k2, k3, k4, k5, k6⟩ := h
 have e : ∀ B1 j v, B1 ≠ B → a.cell? ⟨B1, j, none⟩ = some v → (((a.setCell ⟨B, 0, none⟩ u0).setCell ⟨B, 1, none⟩ u1).setCell ⟨B, 2, none⟩ u2).cell? ⟨B1, j, none⟩ = some v := fun B1 j v hne h => by
  rw [World.cell?_setCell_other, World.cell?_setCell_other, World.cell?_setCell_other, h]
  all_goals intro e; cases e; exact hne rfl
 exact ⟨below_store3 h0 hn, e _ _ _ hv h1, e _ _ _ hv h2, e _ _ _ hv h3, e _ _ _ hv h4, e _ _ _ hv h5, e _ _ _ hv h6, e _ _ _ hw k1, e _ _ _ hw k2, e _ _ _ hw k3, e _ _ _ hw k4, e _ _ _ hw k5, e _ _ _ hw k6⟩

set_option maxRecDepth 100000 in
set_option maxHeartbeats 16000000 in
theorem area_any (vs : List (Rat × Rat)) (v : Value) (w : World) (h : VtxOf w v vs) (hs : SzV vs) (hl : vs.length ≤ 1000) : Calls Tryz.prog 32 #[v] w (RetRat (sumTo vs vs.length / 2) w) := by
 have H := Lib.hid h
 obtain ⟨ao, cap, rfl, hE⟩ := h
 have HE := Lib.hid hE
 have HS := Lib.hid hs
 have HSS := Lib.hid (fun i hi => sumTo_size hs i hi)
 clear hE hs
 have hB1 := blk_new w #[.bool false, .slice none 0 0, .slice none 0 0] 54
 have hA1 := (Below.refl w.heap.size w).alloc (Nat.le_refl _) (.cells #[.bool false, .slice none 0 0, .slice none 0 0] 54)
 have hB2 := blk_new (w.alloc (.cells #[.bool false, .slice none 0 0, .slice none 0 0] 54)) #[.bool false, .slice none 0 0, .slice none 0 0] 54
 rw [World.size_alloc] at hB2
 have hB12 := blk_keep hB1 ((Below.refl _ _).alloc (Nat.le_refl _) (.cells #[.bool false, .slice none 0 0, .slice none 0 0] 54)) (blk_lt hB1)
 have hA2 := hA1.alloc hA1.size (.cells #[.bool false, .slice none 0 0, .slice none 0 0] 54)
 go_enter Tryz.func32, Tryz.ntmps32
 go_wp2_with fail
 generalize (w.alloc (.cells #[.bool false, .slice none 0 0, .slice none 0 0] 54)).alloc (.cells #[.bool false, .slice none 0 0, .slice none 0 0] 54) = W0 at *
 have HRB0 : Hid (RB W0 w.heap.size) := ⟨false, none, 0, 0, none, 0, 0, _, hB12⟩
 have HBQ0 : Hid (BoxQ W0 (w.heap.size + 1) (sumTo vs 0)) := ⟨false, none, 0, 0, none, 0, 0, _, hB2, IsRat.zero _⟩
 clear hB1 hB2 hB12 hA1
 go_loopw [9] (fun iv wr => ∃ (i : Nat), i ≤ vs.length ∧ iv = .int .i64 i ∧ Hid (RB wr w.heap.size) ∧ Hid (BoxQ wr (w.heap.size + 1) (sumTo vs i)) ∧ Below w.heap.size w wr) (fun iv _ => vs.length - (intOf iv).toNat)
 case atStart => exact ⟨0, Nat.zero_le _, rfl, HRB0, HBQ0, hA2⟩
 case round =>
  clear HRB0 HBQ0 hA2
  obtain ⟨i, hi, rfl, hRB, hBQ, hbel⟩ := hrel
  have Hl1 := Lib.hid hRB.out.lt
  have Hl2 := Lib.hid hBQ.out.rb.lt
  by_cases hlt : i < vs.length
  ·
   obtain ⟨b, off, rfl, hbl, hEE⟩ := HE.out (by omega)
   have hjl : (i + 1) % vs.length < vs.length := Nat.mod_lt _ (by omega)
   obtain ⟨v0, v1, v2, v3, v4, v5, g0, g1, g2, g3, g4, g5, hr1, hr2⟩ := hEE i hlt
   obtain ⟨u0, u1, u2, u3, u4, u5, k0, k1, k2, k3, k4, k5, ht1, ht2⟩ := hEE ((i + 1) % vs.length) hjl
   have HsI := Lib.hid (HSS.out i (by omega))
   have HsJ := Lib.hid (HSS.out (i + 1) (by omega))
   have Hst : Hid (sumTo vs i + (vs.getD i (0, 0)).1 * (vs.getD ((i + 1) % vs.length) (0, 0)).2 - (vs.getD i (0, 0)).2 * (vs.getD ((i + 1) % vs.length) (0, 0)).1 = sumTo vs (i + 1)) := rfl
   have Hz1 := Lib.hid (HS.out i hlt)
   have Hz2 := Lib.hid (HS.out ((i + 1) % vs.length) hjl)
   have ej : IntKind.i64.wrap ((i : Int) + 1) = (i : Int) + 1 := IntWalk.i64_in _ (by omega)
   have em : ((i : Int) + 1) % (vs.length : Int) = (((i + 1) % vs.length : Nat) : Int) := by rw [Int.natCast_emod]; rfl
   have em2 : ((i : Int) + 1).tmod (vs.length : Int) = (((i + 1) % vs.length : Nat) : Int) := by rw [Int.tmod_eq_emod_of_nonneg (by omega)]; exact em
   have ew : IntKind.i64.wrap (((i + 1) % vs.length : Nat) : Int) = (((i + 1) % vs.length : Nat) : Int) := IntWalk.i64_in _ (by omega)
   have hnz : ((vs.length : Int) == 0) = false := beq_eq_false_iff_ne.2 (by omega)
   have hlt' : (i : Int) < vs.length := by omega
   have hge' : (0 : Int) ≤ i := by omega
   have hjl' : ((((i + 1) % vs.length : Nat)) : Int) < vs.length := by omega
   have hbl2 : b < wr.heap.size := Nat.lt_of_lt_of_le hbl hbel.size
   have hj0 : (0 : Int) ≤ (((i + 1) % vs.length : Nat) : Int) := by omega
   clear hEE
   generalize (vs.getD i (0, 0)).1 = x1 at *
   generalize (vs.getD i (0, 0)).2 = y1 at *
   generalize (vs.getD ((i + 1) % vs.length) (0, 0)).1 = x2 at *
   generalize (vs.getD ((i + 1) % vs.length) (0, 0)).2 = y2 at *
   generalize (i + 1) % vs.length = j at *
   obtain ⟨p1a, p1b, p1c, p1d, hag, _, _⟩ := hr1.opened
   simp only [Value.agg.injEq, Array.mk.injEq, List.cons.injEq, and_true] at hag
   obtain ⟨rfl, rfl, rfl⟩ := hag
   obtain ⟨q1a, q1b, q1c, q1d, hag, _, _⟩ := hr2.opened
   simp only [Value.agg.injEq, Array.mk.injEq, List.cons.injEq, and_true] at hag
   obtain ⟨rfl, rfl, rfl⟩ := hag
   obtain ⟨p2a, p2b, p2c, p2d, hag, _, _⟩ := ht1.opened
   simp only [Value.agg.injEq, Array.mk.injEq, List.cons.injEq, and_true] at hag
   obtain ⟨rfl, rfl, rfl⟩ := hag
   obtain ⟨q2a, q2b, q2c, q2d, hag, _, _⟩ := ht2.opened
   simp only [Value.agg.injEq, Array.mk.injEq, List.cons.injEq, and_true] at hag
   obtain ⟨rfl, rfl, rfl⟩ := hag
   have HV1 := Lib.hid hr1
   have HV2 := Lib.hid hr2
   have HW1 := Lib.hid ht1
   have HW2 := Lib.hid ht2
   have c : ∀ o v, w.cell? ⟨b, o, none⟩ = some v → wr.cell? ⟨b, o, none⟩ = some v := fun o v h => (hbel.cell (p := ⟨b, o, none⟩) hbl).trans h
   replace g0 := c _ _ g0
   replace g1 := c _ _ g1
   replace g2 := c _ _ g2
   replace g3 := c _ _ g3
   replace g4 := c _ _ g4
   replace g5 := c _ _ g5
   have hal1 := (Below.refl wr.heap.size wr).alloc (Nat.le_refl _) (.cells #[.bool (decide (x1.num < 0)), .slice p1a (dig b64 x1.num.natAbs).length p1b, .slice p1c (dig b64 (dn x1.den)).length p1d, .bool (decide (y1.num < 0)), .slice q1a (dig b64 y1.num.natAbs).length q1b, .slice q1c (dig b64 (dn y1.den)).length q1d] 99)
   have d : ∀ o v, w.cell? ⟨b, o, none⟩ = some v → (wr.alloc (.cells #[.bool (decide (x1.num < 0)), .slice p1a (dig b64 x1.num.natAbs).length p1b, .slice p1c (dig b64 (dn x1.den)).length p1d, .bool (decide (y1.num < 0)), .slice q1a (dig b64 y1.num.natAbs).length q1b, .slice q1c (dig b64 (dn y1.den)).length q1d] 99)).cell? ⟨b, o, none⟩ = some v := fun o v h => (hal1.cell (p := ⟨b, o, none⟩) hbl2).trans (c _ _ h)
   replace k0 := d _ _ k0
   replace k1 := d _ _ k1
   replace k2 := d _ _ k2
   replace k3 := d _ _ k3
   replace k4 := d _ _ k4
   replace k5 := d _ _ k5
   clear c d hr1 hr2 ht1 ht2
   have hV := blk_new wr #[.bool (decide (x1.num < 0)), .slice p1a (dig b64 x1.num.natAbs).length p1b, .slice p1c (dig b64 (dn x1.den)).length p1d, .bool (decide (y1.num < 0)), .slice q1a (dig b64 y1.num.natAbs).length q1b, .slice q1c (dig b64 (dn y1.den)).length q1d] 99
   have hV2 := blk_keep hV ((Below.refl _ _).alloc (Nat.le_refl _) (.cells #[.bool (decide (x2.num < 0)), .slice p2a (dig b64 x2.num.natAbs).length p2b, .slice p2c (dig b64 (dn x2.den)).length p2d, .bool (decide (y2.num < 0)), .slice q2a (dig b64 y2.num.natAbs).length q2b, .slice q2c (dig b64 (dn y2.den)).length q2d] 99)) (blk_lt hV)
   have hWb := blk_new (wr.alloc (.cells #[.bool (decide (x1.num < 0)), .slice p1a (dig b64 x1.num.natAbs).length p1b, .slice p1c (dig b64 (dn x1.den)).length p1d, .bool (decide (y1.num < 0)), .slice q1a (dig b64 y1.num.natAbs).length q1b, .slice q1c (dig b64 (dn y1.den)).length q1d] 99)) #[.bool (decide (x2.num < 0)), .slice p2a (dig b64 x2.num.natAbs).length p2b, .slice p2c (dig b64 (dn x2.den)).length p2d, .bool (decide (y2.num < 0)), .slice q2a (dig b64 y2.num.natAbs).length q2b, .slice q2c (dig b64 (dn y2.den)).length q2d] 99
   rw [World.size_alloc] at hWb
   have hal2 := hal1.alloc hal1.size (.cells #[.bool (decide (x2.num < 0)), .slice p2a (dig b64 x2.num.natAbs).length p2b, .slice p2c (dig b64 (dn x2.den)).length p2d, .bool (decide (y2.num < 0)), .slice q2a (dig b64 y2.num.natAbs).length q2b, .slice q2c (dig b64 (dn y2.den)).length q2d] 99)
   have hbl3 : b < (wr.alloc (.cells #[.bool (decide (x1.num < 0)), .slice p1a (dig b64 x1.num.natAbs).length p1b, .slice p1c (dig b64 (dn x1.den)).length p1d, .bool (decide (y1.num < 0)), .slice q1a (dig b64 y1.num.natAbs).length q1b, .slice q1c (dig b64 (dn y1.den)).length q1d] 99)).heap.size := by simp; omega
   clear hal1 hV
   go_wp2_with fail
   have hx2 : Below w.heap.size w ((wr.alloc (.cells #[.bool (decide (x1.num < 0)), .slice p1a (dig b64 x1.num.natAbs).length p1b, .slice p1c (dig b64 (dn x1.den)).length p1d, .bool (decide (y1.num < 0)), .slice q1a (dig b64 y1.num.natAbs).length q1b, .slice q1c (dig b64 (dn y1.den)).length q1d] 99)).alloc (.cells #[.bool (decide (x2.num < 0)), .slice p2a (dig b64 x2.num.natAbs).length p2b, .slice p2c (dig b64 (dn x2.den)).length p2d, .bool (decide (y2.num < 0)), .slice q2a (dig b64 y2.num.natAbs).length q2b, .slice q2c (dig b64 (dn y2.den)).length q2d] 99)).drew := (ext_trans hbel hal2).drew
   have HRB2 := Lib.hid (hRB.out.keep hal2 Hl1.out)
   obtain ⟨sb, sx, si, sj, sy, sk, sl, T, hbs, hqs⟩ := hBQ.out
   have hS2 := blk_keep hbs hal2 Hl2.out
   have HQ2 := Lib.hid (hqs.below hal2)
   have hVW : wr.heap.size ≠ w.heap.size + 1 ∧ wr.heap.size + 1 ≠ w.heap.size + 1 := by have := Hl2.out; omega
   generalize (wr.alloc (.cells #[.bool (decide (x1.num < 0)), .slice p1a (dig b64 x1.num.natAbs).length p1b, .slice p1c (dig b64 (dn x1.den)).length p1d, .bool (decide (y1.num < 0)), .slice q1a (dig b64 y1.num.natAbs).length q1b, .slice q1c (dig b64 (dn y1.den)).length q1d] 99)).alloc (.cells #[.bool (decide (x2.num < 0)), .slice p2a (dig b64 x2.num.natAbs).length p2b, .slice p2c (dig b64 (dn x2.den)).length p2d, .bool (decide (y2.num < 0)), .slice q2a (dig b64 y2.num.natAbs).length q2b, .slice q2c (dig b64 (dn y2.den)).length q2d] 99) = W2 at *
   generalize wr.heap.size + 1 = WB at *
   generalize wr.heap.size = VBl at *
   obtain ⟨hVn, hWn⟩ := hVW
   have z0 : W2.drew.cell? ⟨VBl, 0, none⟩ = some (.bool (decide (x1.num < 0))) := blk_cell hV2 0 _ rfl
   have z1 : W2.drew.cell? ⟨VBl, 1, none⟩ = some (.slice p1a (dig b64 x1.num.natAbs).length p1b) := blk_cell hV2 1 _ rfl
   have z2 : W2.drew.cell? ⟨VBl, 2, none⟩ = some (.slice p1c (dig b64 (dn x1.den)).length p1d) := blk_cell hV2 2 _ rfl
   have z3 : W2.drew.cell? ⟨VBl, 3, none⟩ = some (.bool (decide (y1.num < 0))) := blk_cell hV2 3 _ rfl
   have z4 : W2.drew.cell? ⟨VBl, 4, none⟩ = some (.slice q1a (dig b64 y1.num.natAbs).length q1b) := blk_cell hV2 4 _ rfl
   have z5 : W2.drew.cell? ⟨VBl, 5, none⟩ = some (.slice q1c (dig b64 (dn y1.den)).length q1d) := blk_cell hV2 5 _ rfl
   have t0 : W2.drew.cell? ⟨WB, 0, none⟩ = some (.bool (decide (x2.num < 0))) := blk_cell hWb 0 _ rfl
   have t1 : W2.drew.cell? ⟨WB, 1, none⟩ = some (.slice p2a (dig b64 x2.num.natAbs).length p2b) := blk_cell hWb 1 _ rfl
   have t2 : W2.drew.cell? ⟨WB, 2, none⟩ = some (.slice p2c (dig b64 (dn x2.den)).length p2d) := blk_cell hWb 2 _ rfl
   have t3 : W2.drew.cell? ⟨WB, 3, none⟩ = some (.bool (decide (y2.num < 0))) := blk_cell hWb 3 _ rfl
   have t4 : W2.drew.cell? ⟨WB, 4, none⟩ = some (.slice q2a (dig b64 y2.num.natAbs).length q2b) := blk_cell hWb 4 _ rfl
   have t5 : W2.drew.cell? ⟨WB, 5, none⟩ = some (.slice q2c (dig b64 (dn y2.den)).length q2d) := blk_cell hWb 5 _ rfl
   have hSd : W2.drew.heap[w.heap.size + 1]? = some (.cells #[.bool sb, .slice sx si sj, .slice sy sk sl] T (0, 0)) := hS2
   have s0 := blk_cell hSd 0 (.bool sb) rfl
   have s1 := blk_cell hSd 1 (.slice sx si sj) rfl
   have s2 := blk_cell hSd 2 (.slice sy sk sl) rfl
   have hn1 : w.heap.size ≤ w.heap.size + 1 := Nat.le_succ _
   have HZ1 := Lib.hid (szR_mono Hz1.out.1 (show 1000 ≤ 68719476736 by omega))
   have HZ2 := Lib.hid (szR_mono Hz1.out.2 (show 1000 ≤ 68719476736 by omega))
   have HZ3 := Lib.hid (szR_mono Hz2.out.1 (show 1000 ≤ 68719476736 by omega))
   have HZ4 := Lib.hid (szR_mono Hz2.out.2 (show 1000 ≤ 68719476736 by omega))
   have HZ5 := Lib.hid (szR_mono HsI.out (show 1 + 4002 * i ≤ 68719476736 by omega))
   have HZ6 := Lib.hid (szR_mono (szR_mul Hz1.out.1 Hz2.out.2) (show 1000 + 1000 ≤ 68719476736 by omega))
   have HZ7 := Lib.hid (szR_mono (szR_mul Hz1.out.2 Hz2.out.1) (show 1000 + 1000 ≤ 68719476736 by omega))
   have HZ8 := Lib.hid (szR_mono (szR_add HsI.out (szR_mul Hz1.out.1 Hz2.out.2)) (show 1 + 4002 * i + (1000 + 1000) + 1 ≤ 68719476736 by omega))
   clear hRB hBQ hbs hqs hal2 hV2 hWb g0 g1 g2 g3 g4 g5 k0 k1 k2 k3 k4 k5 hbl3 hS2 hbel
   generalize hss : sumTo vs i = s at *
   generalize hss2 : sumTo vs (i + 1) = s' at *
   have Hs2 := Lib.hid hss2
   clear hss hss2
   refine wp_region_held_drew (S := (fun w' => Below w.heap.size w w' ∧ w'.cell? ⟨VBl, 0, none⟩ = some (.bool (decide (x1.num < 0))) ∧ w'.cell? ⟨VBl, 1, none⟩ = some (.slice p1a (dig b64 x1.num.natAbs).length p1b) ∧ w'.cell? ⟨VBl, 2, none⟩ = some (.slice p1c (dig b64 (dn x1.den)).length p1d) ∧ w'.cell? ⟨VBl, 3, none⟩ = some (.bool (decide (y1.num < 0))) ∧ w'.cell? ⟨VBl, 4, none⟩ = some (.slice q1a (dig b64 y1.num.natAbs).length q1b) ∧ w'.cell? ⟨VBl, 5, none⟩ = some (.slice q1c (dig b64 (dn y1.den)).length q1d) ∧ w'.cell? ⟨WB, 0, none⟩ = some (.bool (decide (x2.num < 0))) ∧ w'.cell? ⟨WB, 1, none⟩ = some (.slice p2a (dig b64 x2.num.natAbs).length p2b) ∧ w'.cell? ⟨WB, 2, none⟩ = some (.slice p2c (dig b64 (dn x2.den)).length p2d) ∧ w'.cell? ⟨WB, 3, none⟩ = some (.bool (decide (y2.num < 0))) ∧ w'.cell? ⟨WB, 4, none⟩ = some (.slice q2a (dig b64 y2.num.natAbs).length q2b) ∧ w'.cell? ⟨WB, 5, none⟩ = some (.slice q2c (dig b64 (dn y2.den)).length q2d))) (by kernel_rfl) ⟨hx2, z0, z1, z2, z3, z4, z5, t0, t1, t2, t3, t4, t5⟩ (fun hh0 => ?_)
   refine tk0 (i := 1) (v := ?vp1) rfl (Or.inl ⟨by rfl, ?hyp1⟩) (by assumption) ?rep1
   case hyp1 => intro w hSw; (try dsimp only at hSw); (go_simp <;> with_reducible rfl)
   try simp only [na1, na2, na3, Act.put, na4, na5, na6]
   refine tk0 (i := 2) (v := ?vp2) rfl (Or.inl ⟨by rfl, ?hyp2⟩) (by assumption) ?rep2
   case hyp2 => intro w hSw; (try dsimp only at hSw); (go_simp <;> with_reducible rfl)
   try simp only [na1, na2, na3, Act.put, na4, na5, na6]
   refine tk0 (i := 3) (v := ?vp3) rfl (Or.inl ⟨by rfl, ?hyp3⟩) (by assumption) ?rep3
   case hyp3 => intro w hSw; (try dsimp only at hSw); (go_simp <;> with_reducible rfl)
   try simp only [na1, na2, na3, Act.put, na4, na5, na6]
   refine tk0 (i := 4) (v := ?vp4) rfl (Or.inl ⟨by rfl, ?hyp4⟩) (by assumption) ?rep4
   case hyp4 => intro w hSw; (try dsimp only at hSw); (go_simp <;> with_reducible rfl)
   try simp only [na1, na2, na3, Act.put, na4, na5, na6]
   refine tk0 (i := 7) (v := ?vp7) rfl (Or.inl ⟨by rfl, ?hyp7⟩) (by assumption) ?rep7
   case hyp7 => intro w hSw; (try dsimp only at hSw); (go_simp <;> with_reducible rfl)
   try simp only [na1, na2, na3, Act.put, na4, na5, na6]
   refine tk0 (i := 8) (v := ?vp8) rfl (Or.inl ⟨by rfl, ?hyp8⟩) (by assumption) ?rep8
   case hyp8 => intro w hSw; (try dsimp only at hSw); (go_simp <;> with_reducible rfl)
   try simp only [na1, na2, na3, Act.put, na4, na5, na6]
   refine tk0 (i := 9) (v := ?vp9) rfl (Or.inl ⟨by rfl, ?hyp9⟩) (by assumption) ?rep9
   case hyp9 => intro w hSw; (try dsimp only at hSw); (go_simp <;> with_reducible rfl)
   try simp only [na1, na2, na3, Act.put, na4, na5, na6]
   refine tk0 (i := 10) (v := ?vp10) rfl (Or.inl ⟨by rfl, ?hyp10⟩) (by assumption) ?rep10
   case hyp10 => intro w hSw; (try dsimp only at hSw); (go_simp <;> with_reducible rfl)
   try simp only [na1, na2, na3, Act.put, na4, na5, na6]
   refine wpAnyH_ready (rs := [0, 5]) (by kernel_rfl) (by simp) ?_
   refine AllReadyH.cons rfl (fun K hK => ?_) (AllReadyH.cons rfl (fun K hK => ?_) AllReadyH.nil)
   ·
    go_simp
    refine hK.out _ _ hh0 (fun hh1 => ?_)
    clear hK K hh0
    try simp only [na1, na2, na3, Act.put, na4, na5, na6]
    refine rd1 (i := 5) rfl (fun K hK => ?_)
    go_simp
    go_wp2_with (go_at_call_of 46 (Value.agg #[.bool (decide (x1.num < 0)), .slice p1a (dig b64 x1.num.natAbs).length p1b, .slice p1c (dig b64 (dn x1.den)).length p1d]); refine (mulRat_any x1 y2 _ _ _ (HV1.out.below (And.left (by assumption))) (HW2.out.below (And.left (by assumption))) HZ1.out HZ4.out).mono ?_; rintro e wA ⟨vA, rfl, hvA, hbA⟩; have kA := blk_keep hSd hbA (blk_lt hSd); have skA0 := blk_cell kA 0 (.bool sb) rfl; have skA1 := blk_cell kA 1 (.slice sx si sj) rfl; have skA2 := blk_cell kA 2 (.slice sy sk sl) rfl; have fkA0 := blk_frozen kA 0; have fkA1 := blk_frozen kA 1; have fkA2 := blk_frozen kA 2)
    refine hK.out _ _ (keep12 (Nat.le_refl _) hbA hh1) (fun hh2 => ?_)
    clear hK K hh1
    try simp only [na1, na2, na3, Act.put, na4, na5, na6]
    refine rd1 (i := 6) rfl (fun K hK => ?_)
    go_simp
    go_wp2_with (go_at_call 45; refine (addRat_any s (x1 * y2) _ _ _ (HQ2.out.below (ext_trans (show Below W2.heap.size W2 W2.drew from (Below.refl _ _).drew) hbA)) hvA HZ5.out HZ6.out).mono ?_; rintro e wB ⟨vB, rfl, hvB, hbB⟩; have kB := blk_keep kA hbB (blk_lt kA); have skB0 := blk_cell kB 0 (.bool sb) rfl; have skB1 := blk_cell kB 1 (.slice sx si sj) rfl; have skB2 := blk_cell kB 2 (.slice sy sk sl) rfl; have fkB0 := blk_frozen kB 0; have fkB1 := blk_frozen kB 1; have fkB2 := blk_frozen kB 2)
    refine hK.out _ _ (keep12 (Nat.le_refl _) hbB hh2) (fun hh3 => ?_)
    clear hK K hh2
    try simp only [na1, na2, na3, Act.put, na4, na5, na6]
    refine rd1 (i := 11) rfl (fun K hK => ?_)
    go_simp
    go_wp2_with (go_at_call_of 46 (Value.agg #[.bool (decide (y1.num < 0)), .slice q1a (dig b64 y1.num.natAbs).length q1b, .slice q1c (dig b64 (dn y1.den)).length q1d]); refine (mulRat_any y1 x2 _ _ _ (HV2.out.below (And.left (by assumption))) (HW1.out.below (And.left (by assumption))) HZ2.out HZ3.out).mono ?_; rintro e wC ⟨vC, rfl, hvC, hbC⟩; have kC := blk_keep kB hbC (blk_lt kB); have skC0 := blk_cell kC 0 (.bool sb) rfl; have skC1 := blk_cell kC 1 (.slice sx si sj) rfl; have skC2 := blk_cell kC 2 (.slice sy sk sl) rfl; have fkC0 := blk_frozen kC 0; have fkC1 := blk_frozen kC 1; have fkC2 := blk_frozen kC 2)
    refine hK.out _ _ (keep12 (Nat.le_refl _) hbC hh3) (fun hh4 => ?_)
    clear hK K hh3
    try simp only [na1, na2, na3, Act.put, na4, na5, na6]
    refine rd1 (i := 12) rfl (fun K hK => ?_)
    go_simp
    go_wp2_with (go_at_call 47; refine (subRat_any (s + x1 * y2) (y1 * x2) _ _ _ (hvB.below hbC) hvC HZ8.out HZ7.out).mono ?_; rw [Hst.out]; rintro e wD ⟨vD, rfl, hvD, hbD⟩; obtain ⟨r1, r2, r3, r4, rfl, _, _⟩ := IsRat.opened hvD; have kD := blk_keep kC hbD (blk_lt kC); have skD0 := blk_cell kD 0 (.bool sb) rfl; have skD1 := blk_cell kD 1 (.slice sx si sj) rfl; have skD2 := blk_cell kD 2 (.slice sy sk sl) rfl; have fkD0 := blk_frozen kD 0; have fkD1 := blk_frozen kD 1; have fkD2 := blk_frozen kD 2)
    refine hK.out _ _ (keep12 (Nat.le_refl _) hbD hh4) (fun hh5 => ?_)
    clear hK K hh4
    try simp only [na1, na2, na3, Act.put, na4, na5, na6]
    refine rd1 (i := 13) rfl (fun K hK => ?_)
    go_simp
    refine hK.out _ _ (keep12s hn1 hVn hWn hh5 _ rfl) (fun hS1 => ?_)
    clear hK K hh5
    try simp only [na1, na2, na3, Act.put, na4, na5, na6]
    refine wpAnyH_done (by kernel_rfl) ?_ _
    have HRB3 : Hid (RB wD w.heap.size) := RB.keep (a := W2.drew) HRB2.out (ext_trans (ext_trans (ext_trans hbA hbB) hbC) hbD) HRB2.out.lt
    have HRB4 := Lib.hid (RB.other HRB3.out (show w.heap.size ≠ w.heap.size + 1 by omega) (.bool (decide (s'.num < 0))) (.slice r1 (dig b64 s'.num.natAbs).length r2) (.slice r3 (dig b64 (dn s'.den)).length r4))
    have HBQ4 := Lib.hid (BoxQ.stored (B := w.heap.size + 1) ⟨sb, sx, si, sj, sy, sk, sl, T, kD⟩ hvD)
    have hx5 := hS1.1
    clear hS1
    go_wp2_with fail
    exact ⟨⟨i + 1, by omega, by go_num, HRB4.out, by rw [Hs2.out]; exact HBQ4.out, hx5⟩, meas_up hlt⟩
   ·
    go_simp
    go_wp2_with (go_at_call_of 46 (Value.agg #[.bool (decide (x1.num < 0)), .slice p1a (dig b64 x1.num.natAbs).length p1b, .slice p1c (dig b64 (dn x1.den)).length p1d]); refine (mulRat_any x1 y2 _ _ _ (HV1.out.below (And.left (by assumption))) (HW2.out.below (And.left (by assumption))) HZ1.out HZ4.out).mono ?_; rintro e wA ⟨vA, rfl, hvA, hbA⟩; have kA := blk_keep hSd hbA (blk_lt hSd); have skA0 := blk_cell kA 0 (.bool sb) rfl; have skA1 := blk_cell kA 1 (.slice sx si sj) rfl; have skA2 := blk_cell kA 2 (.slice sy sk sl) rfl; have fkA0 := blk_frozen kA 0; have fkA1 := blk_frozen kA 1; have fkA2 := blk_frozen kA 2)
    refine hK.out _ _ (keep12 (Nat.le_refl _) hbA hh0) (fun hh1 => ?_)
    clear hK K hh0
    try simp only [na1, na2, na3, Act.put, na4, na5, na6]
    refine rd1 (i := 0) rfl (fun K hK => ?_)
    go_simp
    refine hK.out _ _ hh1 (fun hh2 => ?_)
    clear hK K hh1
    try simp only [na1, na2, na3, Act.put, na4, na5, na6]
    refine rd1 (i := 6) rfl (fun K hK => ?_)
    go_simp
    go_wp2_with (go_at_call 45; refine (addRat_any s (x1 * y2) _ _ _ (HQ2.out.below (ext_trans (show Below W2.heap.size W2 W2.drew from (Below.refl _ _).drew) hbA)) hvA HZ5.out HZ6.out).mono ?_; rintro e wB ⟨vB, rfl, hvB, hbB⟩; have kB := blk_keep kA hbB (blk_lt kA); have skB0 := blk_cell kB 0 (.bool sb) rfl; have skB1 := blk_cell kB 1 (.slice sx si sj) rfl; have skB2 := blk_cell kB 2 (.slice sy sk sl) rfl; have fkB0 := blk_frozen kB 0; have fkB1 := blk_frozen kB 1; have fkB2 := blk_frozen kB 2)
    refine hK.out _ _ (keep12 (Nat.le_refl _) hbB hh2) (fun hh3 => ?_)
    clear hK K hh2
    try simp only [na1, na2, na3, Act.put, na4, na5, na6]
    refine rd1 (i := 11) rfl (fun K hK => ?_)
    go_simp
    go_wp2_with (go_at_call_of 46 (Value.agg #[.bool (decide (y1.num < 0)), .slice q1a (dig b64 y1.num.natAbs).length q1b, .slice q1c (dig b64 (dn y1.den)).length q1d]); refine (mulRat_any y1 x2 _ _ _ (HV2.out.below (And.left (by assumption))) (HW1.out.below (And.left (by assumption))) HZ2.out HZ3.out).mono ?_; rintro e wC ⟨vC, rfl, hvC, hbC⟩; have kC := blk_keep kB hbC (blk_lt kB); have skC0 := blk_cell kC 0 (.bool sb) rfl; have skC1 := blk_cell kC 1 (.slice sx si sj) rfl; have skC2 := blk_cell kC 2 (.slice sy sk sl) rfl; have fkC0 := blk_frozen kC 0; have fkC1 := blk_frozen kC 1; have fkC2 := blk_frozen kC 2)
    refine hK.out _ _ (keep12 (Nat.le_refl _) hbC hh3) (fun hh4 => ?_)
    clear hK K hh3
    try simp only [na1, na2, na3, Act.put, na4, na5, na6]
    refine rd1 (i := 12) rfl (fun K hK => ?_)
    go_simp
    go_wp2_with (go_at_call 47; refine (subRat_any (s + x1 * y2) (y1 * x2) _ _ _ (hvB.below hbC) hvC HZ8.out HZ7.out).mono ?_; rw [Hst.out]; rintro e wD ⟨vD, rfl, hvD, hbD⟩; obtain ⟨r1, r2, r3, r4, rfl, _, _⟩ := IsRat.opened hvD; have kD := blk_keep kC hbD (blk_lt kC); have skD0 := blk_cell kD 0 (.bool sb) rfl; have skD1 := blk_cell kD 1 (.slice sx si sj) rfl; have skD2 := blk_cell kD 2 (.slice sy sk sl) rfl; have fkD0 := blk_frozen kD 0; have fkD1 := blk_frozen kD 1; have fkD2 := blk_frozen kD 2)
    refine hK.out _ _ (keep12 (Nat.le_refl _) hbD hh4) (fun hh5 => ?_)
    clear hK K hh4
    try simp only [na1, na2, na3, Act.put, na4, na5, na6]
    refine rd1 (i := 13) rfl (fun K hK => ?_)
    go_simp
    refine hK.out _ _ (keep12s hn1 hVn hWn hh5 _ rfl) (fun hS1 => ?_)
    clear hK K hh5
    try simp only [na1, na2, na3, Act.put, na4, na5, na6]
    refine wpAnyH_done (by kernel_rfl) ?_ _
    have HRB3 : Hid (RB wD w.heap.size) := RB.keep (a := W2.drew) HRB2.out (ext_trans (ext_trans (ext_trans hbA hbB) hbC) hbD) HRB2.out.lt
    have HRB4 := Lib.hid (RB.other HRB3.out (show w.heap.size ≠ w.heap.size + 1 by omega) (.bool (decide (s'.num < 0))) (.slice r1 (dig b64 s'.num.natAbs).length r2) (.slice r3 (dig b64 (dn s'.den)).length r4))
    have HBQ4 := Lib.hid (BoxQ.stored (B := w.heap.size + 1) ⟨sb, sx, si, sj, sy, sk, sl, T, kD⟩ hvD)
    have hx5 := hS1.1
    clear hS1
    go_wp2_with fail
    exact ⟨⟨i + 1, by omega, by go_num, HRB4.out, by rw [Hs2.out]; exact HBQ4.out, hx5⟩, meas_up hlt⟩
  ·
   obtain rfl : i = vs.length := by omega
   obtain ⟨sb, sx, si, sj, sy, sk, sl, T, hbs, hqs⟩ := hBQ.out
   have s0 := blk_cell hbs 0 (.bool sb) rfl
   have s1 := blk_cell hbs 1 (.slice sx si sj) rfl
   have s2 := blk_cell hbs 2 (.slice sy sk sl) rfl
   have HH := Lib.hid (half_any (sumTo vs vs.length) (.agg #[.bool sb, .slice sx si sj, .slice sy sk sl]) wr hqs (szR_mono (HSS.out vs.length (Nat.le_refl _)) (by omega)))
   clear hbs hqs hBQ
   generalize sumTo vs vs.length / 2 = q at *
   go_wp2_with fail
   refine HH.out.mono ?_
   rintro e w3 ⟨vh, rfl, hvh, hbh⟩
   have hRB3 := hRB.out.keep hbh Hl1.out
   obtain ⟨a5, c5, a6, c6, rfl, n5, n6⟩ := IsRat.opened hvh
   have hx := ext_trans hbel hbh
   obtain ⟨g0, g1, g2, f0', f1', f2'⟩ := hRB3.cell
   have hBl := hRB3.lt
   clear hvh hbh s0 s1 s2
   go_wp2_with fail
   refine bodyPost_ret (v := .agg #[.bool (decide (q.num < 0)), .slice a5 (dig b64 q.num.natAbs).length _, .slice a6 (dig b64 (dn q.den)).length _]) (by simp [results, Tryz.results32, go_sem, g0, g1, g2]; first | done | exact ⟨rfl, rfl⟩ | rfl) rfl ⟨_, rfl, ?_, below_store3 hx (by omega)⟩
   exact IsRat.stored hRB3 n5 n6 rfl rfl

end Go.Proofs.YtofijjomfhmbjaaGreat

namespace Go.Proofs.YtofijjomfhmbjaaGreat
open Go.RowKit

theorem ratPts_get (l : List Pt) (i : Nat) (hi : i < l.length) : (ratPts l).getD i (0, 0) = (((ptAt l i).1 : Rat), ((ptAt l i).2 : Rat)) := by
 unfold ratPts ptAt ratPt
 simp [hi]
theorem sumTo_int (l : List Pt) (n : Nat) (hn : n ≤ l.length) : sumTo (ratPts l) n = ((areaTo l n : Int) : Rat) := by
 induction n with
 | zero => simp [sumTo, areaTo]
 | succ n ih =>
  have hl : (ratPts l).length = l.length := by simp [ratPts]
  have h1 : (n + 1) % l.length < l.length := Nat.mod_lt _ (by omega)
  simp only [sumTo, areaTo]
  rw [ih (by omega), hl, ratPts_get l n (by omega), ratPts_get l _ h1]
  unfold edgeI
  rw [Rat.intCast_add, Rat.intCast_sub, Rat.intCast_mul, Rat.intCast_mul]
  grind
theorem SzV_int (l : List Pt) (h : ptsOk l = true) : SzV (ratPts l) := by
 intro i hi
 have hi' : i < l.length := by simpa [ratPts] using hi
 rw [ratPts_get l i hi']
 have := ptOk_range (ptsOk_get h i hi')
 unfold far at this
 exact ⟨i64_szR _ (by omega) (by omega) 1000 (by omega), i64_szR _ (by omega) (by omega) 1000 (by omega)⟩
theorem outErr_good {l : List Pt} (h : outErr l = 0) : (3 ≤ l.length ∧ l.length ≤ 16) ∧ ptsOk l = true := by
 unfold outErr at h
 split at h
 ·
  cases h
 ·
  rename_i h1
  split at h
  ·
   cases h
  ·
   rename_i h2
   exact ⟨by omega, by simpa using h2⟩
def areaQ (l : List Pt) : Rat := ((areaI l : Int) : Rat) / 2

set_option maxRecDepth 100000 in
set_option maxHeartbeats 4000000 in
theorem layupArea_ok (l : List Pt) (v : Value) (w : World) (h : PairsOf w v l) (h0 : outErr l = 0) : Calls Tryz.prog 17 #[v] w (RetRatE (areaQ l) 0 w) := by
 have H := Lib.hid h
 obtain ⟨ao, cap, rfl, _⟩ := h
 obtain ⟨⟨_, hl16⟩, hok⟩ := outErr_good h0
 have HC := Lib.hid (fun W (hW : PairsOf W (.slice ao l.length cap) l) => checkOutline_any l _ W hW)
 have HV := Lib.hid (fun W (hW : PairsOf W (.slice ao l.length cap) l) => vertices_any l _ W hW hok (by omega))
 have hlen : (ratPts l).length = l.length := by simp [ratPts]
 have hsum := sumTo_int l l.length (Nat.le_refl _)
 have HA : Hid (∀ v W, VtxOf W v (ratPts l) → Calls Tryz.prog 32 #[v] W (RetRat (areaQ l) W)) := fun v W hW => by
  have := area_any (ratPts l) v W hW (SzV_int l hok) (by omega)
  rw [hlen, hsum] at this
  exact this
 rw [h0] at HC
 clear h0 hlen hsum hok
 have hB0 := blk_new w #[.bool false, .slice none 0 0, .slice none 0 0] 54
 have hal := (Below.refl w.heap.size w).alloc (Nat.le_refl _) (.cells #[.bool false, .slice none 0 0, .slice none 0 0] 54)
 go_enter Tryz.func17, Tryz.ntmps17
 go_wp2_with fail
 refine (HC.out _ (H.out.below hal)).mono ?_
 rintro e w1 ⟨rfl, hb1⟩
 have hB1 := blk_keep hB0 hb1 (blk_lt hB0)
 have hx1 := ext_trans hal hb1
 clear hB0 hal hb1
 go_wp2_with fail
 refine (HV.out _ (H.out.below hx1)).mono ?_
 rintro e w2 ⟨vv, rfl, hvv, hb2⟩
 have hB2 := blk_keep hB1 hb2 (blk_lt hB1)
 have hx2 := ext_trans hx1 hb2
 clear hB1 hx1 hb2
 go_wp2_with fail
 refine (HA.out _ _ hvv).mono ?_
 rintro e w3 ⟨va, rfl, hva, hb3⟩
 have hRB : RB w3 w.heap.size := ⟨false, none, 0, 0, none, 0, 0, _, blk_keep hB2 hb3 (blk_lt hB2)⟩
 obtain ⟨a5, c5, a6, c6, rfl, n5, n6⟩ := IsRat.opened hva
 have hx := ext_trans hx2 hb3
 obtain ⟨g0, g1, g2, f0', f1', f2'⟩ := hRB.cell
 have hBl := hRB.lt
 generalize areaQ l = q at *
 clear hva hvv hb3 hx2 hB2
 go_wp2_with fail
 refine bodyPost_ret (v := .tuple #[.agg #[.bool (decide (q.num < 0)), .slice a5 (dig b64 q.num.natAbs).length _, .slice a6 (dig b64 (dn q.den)).length _], .int .i64 0]) (by simp [results, Tryz.results17, go_sem, g0, g1, g2]; first | done | exact ⟨⟨rfl, rfl⟩, rfl⟩ | exact ⟨rfl, rfl⟩ | rfl) rfl ⟨_, rfl, ?_, below_store3 hx (by omega)⟩
 exact IsRat.stored hRB n5 n6 rfl rfl

end Go.Proofs.YtofijjomfhmbjaaGreat

namespace Go.Proofs.YtofijjomfhmbjaaGreat
open Go.RowKit

structure Crs where
 first : Int
 tows : Int
 width : Int
 gap : Int
 from_ : Int
 to_ : Int
def crs0 : Crs := ⟨0, 0, 0, 0, 0, 0⟩
def CrsAt (w : World) (b o : Nat) (c : Crs) : Prop := w.cell? ⟨b, o, none⟩ = some (.int .i64 c.first) ∧ w.cell? ⟨b, o + 1, none⟩ = some (.int .i64 c.tows) ∧ w.cell? ⟨b, o + 2, none⟩ = some (.int .i64 c.width) ∧
 w.cell? ⟨b, o + 3, none⟩ = some (.int .i64 c.gap) ∧ w.cell? ⟨b, o + 4, none⟩ = some (.int .i64 c.from_) ∧ w.cell? ⟨b, o + 5, none⟩ = some (.int .i64 c.to_)
def CrsOf (w : World) (v : Value) (cs : List Crs) : Prop :=
 ∃ ao cap, v = .slice ao cs.length cap ∧ (0 < cs.length → ∃ b off, ao = some ⟨b, off, none⟩ ∧ b < w.heap.size ∧ ∀ i, i < cs.length → CrsAt w b (off + i * 6) (cs.getD i crs0))
theorem CrsAt.below {w w' : World} {b o : Nat} {r : Crs} (h : CrsAt w b o r) (hb : Below w.heap.size w w') (hl : b < w.heap.size) : CrsAt w' b o r := by
 obtain ⟨h0, h1, h2, h3, h4, h5⟩ := h
 have c : ∀ j v, w.cell? ⟨b, j, none⟩ = some v → w'.cell? ⟨b, j, none⟩ = some v := fun j v h => (hb.cell (p := ⟨b, j, none⟩) hl).trans h
 exact ⟨c _ _ h0, c _ _ h1, c _ _ h2, c _ _ h3, c _ _ h4, c _ _ h5⟩
theorem CrsOf.below {w w' : World} {v : Value} {cs : List Crs} (h : CrsOf w v cs) (hb : Below w.heap.size w w') : CrsOf w' v cs := by
 obtain ⟨ao, cap, rfl, h⟩ := h
 refine ⟨ao, cap, rfl, fun hl => ?_⟩
 obtain ⟨b, off, rfl, hlt, h⟩ := h hl
 exact ⟨b, off, rfl, Nat.lt_of_lt_of_le hlt hb.size, fun i hi => (h i hi).below hb hlt⟩

def cE (a b c d e f : Bool) : Int := if a && b && c then (if d then (if e || f then 7 else 0) else 1) else 1
def crsErr (c : Crs) : Int := cE (inL c.tows 1 24) (inL c.width 1 1000000) (inL c.gap (-1000000) 1000000) (ptsOk [(c.from_, c.first), (c.to_, 0)]) (decide (c.from_ ≥ c.to_)) (decide (c.width + c.gap ≤ 0))
structure GoodCrs (c : Crs) : Prop where
 tows : 1 ≤ c.tows ∧ c.tows ≤ 24
 width : 1 ≤ c.width ∧ c.width ≤ 1000000
 gap : -1000000 ≤ c.gap ∧ c.gap ≤ 1000000
 first : -4398046511104 ≤ c.first ∧ c.first ≤ 4398046511104
 sum : 0 < c.width + c.gap
theorem inB_iff (n lo hi : Int) : inL n lo hi = true ↔ lo ≤ n ∧ n ≤ hi := by simp [inL]
theorem crs_good {c : Crs} (h : crsErr c = 0) : GoodCrs c := by
 unfold crsErr cE at h
 split at h
 ·
  rename_i h1
  simp only [Bool.and_eq_true, inB_iff] at h1
  split at h
  ·
   rename_i h2
   split at h
   ·
    cases h
   ·
    rename_i h3
    simp only [Bool.or_eq_true, decide_eq_true_eq, not_or] at h3
    have := ptOk_range (ptsOk_get h2 0 (by simp))
    simp [ptAt, far] at this
    exact ⟨h1.1.1, h1.1.2, h1.2, this.2, by omega⟩
  ·
   cases h
 ·
  cases h

theorem cell_new22 (w : World) (a b c d : Int) (t : TypeId) : PairsOf (w.alloc (.cells #[.int .i64 a, .int .i64 b, .int .i64 c, .int .i64 d] t)) (.slice (some ⟨w.heap.size, 0, none⟩) 2 2) [(a, b), (c, d)] := by
 have hB := blk_new w #[.int .i64 a, .int .i64 b, .int .i64 c, .int .i64 d] t
 refine ⟨_, 2, rfl, fun _ => ⟨w.heap.size, 0, rfl, blk_lt hB, fun i hi => ?_⟩⟩
 match i, hi with
 | 0, _ => exact ⟨blk_cell hB 0 _ rfl, blk_cell hB 1 _ rfl⟩
 | 1, _ => exact ⟨blk_cell hB 2 _ rfl, blk_cell hB 3 _ rfl⟩
 | i + 2, hi => simp at hi; omega

set_option maxRecDepth 100000 in
set_option maxHeartbeats 4000000 in
theorem check_any (c : Crs) (w : World) : Calls Tryz.prog 34 #[.agg #[.int .i64 c.first, .int .i64 c.tows, .int .i64 c.width, .int .i64 c.gap, .int .i64 c.from_, .int .i64 c.to_]] w (RetInt (crsErr c) w) := by
 have Hc : Hid (crsErr c = cE (inL c.tows 1 24) (inL c.width 1 1000000) (inL c.gap (-1000000) 1000000) (ptsOk [(c.from_, c.first), (c.to_, 0)]) (decide (c.from_ ≥ c.to_)) (decide (c.width + c.gap ≤ 0))) := rfl
 generalize crsErr c = r at *
 generalize c.first = a0 at *
 generalize c.tows = a1 at *
 generalize c.width = a2 at *
 generalize c.gap = a3 at *
 generalize c.from_ = a4 at *
 generalize c.to_ = a5 at *
 have Hw : Hid (inL a2 1 1000000 = true → inL a3 (-1000000) 1000000 = true → IntKind.i64.wrap (a2 + a3) = a2 + a3) := fun h1 h2 => by
  rw [inB_iff] at h1 h2
  exact IntWalk.i64_in _ (by omega)
 have hB := blk_new w #[.int .i64 a0, .int .i64 a1, .int .i64 a2, .int .i64 a3, .int .i64 a4, .int .i64 a5] 61
 have hal := (Below.refl w.heap.size w).alloc (Nat.le_refl _) (.cells #[.int .i64 a0, .int .i64 a1, .int .i64 a2, .int .i64 a3, .int .i64 a4, .int .i64 a5] 61)
 go_enter Tryz.func34, Tryz.ntmps34
 go_wp2_with fail
 refine (within_any a1 1 24 _).mono ?_
 rintro e w1 ⟨rfl, hb1⟩
 have hB1 := blk_keep hB hb1 (blk_lt hB)
 have hx1 := ext_trans hal hb1
 have c2 := blk_cell hB1 2 (.int .i64 a2) rfl
 clear hB hal hb1
 generalize inL a1 1 24 = p1 at *
 cases p1 with
 | false =>
  go_wp2_with fail
  go_ret
  exact ⟨by rw [Hc.out]; rfl, hx1⟩
 | true =>
  go_wp2_with fail
  refine (within_any a2 1 1000000 _).mono ?_
  rintro e w2 ⟨rfl, hb2⟩
  have hB2 := blk_keep hB1 hb2 (blk_lt hB1)
  have hx2 := ext_trans hx1 hb2
  have c3 := blk_cell hB2 3 (.int .i64 a3) rfl
  clear hB1 hx1 hb2 c2
  generalize inL a2 1 1000000 = p2 at *
  cases p2 with
  | false =>
   go_wp2_with fail
   go_ret
   exact ⟨by rw [Hc.out]; rfl, hx2⟩
  | true =>
   go_wp2_with fail
   refine (within_any a3 _ _ _).mono ?_
   rintro e w3 ⟨rfl, hb3⟩
   have hB3 := blk_keep hB2 hb3 (blk_lt hB2)
   have hx3 := ext_trans hx2 hb3
   have c4 := blk_cell hB3 4 (.int .i64 a4) rfl
   have c0 := blk_cell hB3 0 (.int .i64 a0) rfl
   have c5 := blk_cell hB3 5 (.int .i64 a5) rfl
   clear hB2 hx2 hb3 c3
   generalize inL a3 (-1000000) 1000000 = p3 at *
   cases p3 with
   | false =>
    go_wp2_with fail
    go_ret
    exact ⟨by rw [Hc.out]; rfl, hx3⟩
   | true =>
    have hw := Hw.out (by simp) (by simp)
    have HP := Lib.hid (cell_new22 w3 a4 a0 a5 0 45)
    have hx4 := hx3.alloc hx3.size (.cells #[.int .i64 a4, .int .i64 a0, .int .i64 a5, .int .i64 0] 45)
    have hB4 := blk_keep hB3 ((Below.refl _ _).alloc (Nat.le_refl _) (.cells #[.int .i64 a4, .int .i64 a0, .int .i64 a5, .int .i64 0] 45)) (blk_lt hB3)
    clear hB3 hx3
    go_wp2_with fail
    refine (isRight_any [(a4, a0), (a5, 0)] _ _ HP.out (by simp)).mono ?_
    rintro e w4 ⟨rfl, hb4⟩
    have hB5 := blk_keep hB4 hb4 (blk_lt hB4)
    have hx5 := ext_trans hx4 hb4
    have d2 := blk_cell hB5 2 (.int .i64 a2) rfl
    have d3 := blk_cell hB5 3 (.int .i64 a3) rfl
    have d4 := blk_cell hB5 4 (.int .i64 a4) rfl
    have d5 := blk_cell hB5 5 (.int .i64 a5) rfl
    clear hB4 hB5 hx4 hb4 HP c4 c0 c5
    generalize ptsOk [(a4, a0), (a5, 0)] = p4 at *
    cases p4 with
    | false =>
     go_wp2_with fail
     go_ret
     exact ⟨by rw [Hc.out]; rfl, hx5⟩
    | true =>
     by_cases h6 : a4 ≥ a5
     ·
      have t6 : decide (a4 ≥ a5) = true := decide_eq_true h6
      have Hr : Hid (r = 7) := by show _ = _; rw [Hc.out, t6]; rfl
      clear h6 Hc
      go_wp2_with fail
      go_ret
      exact ⟨by rw [Hr.out]; rfl, hx5⟩
     ·
      have t6 : decide (a4 ≥ a5) = false := decide_eq_false h6
      by_cases h7 : a2 + a3 ≤ 0
      ·
       have t7 : decide (a2 + a3 ≤ 0) = true := decide_eq_true h7
       have Hr : Hid (r = 7) := by show _ = _; rw [Hc.out, t6, t7]; rfl
       clear h6 h7 Hc
       go_wp2_with fail
       go_ret
       exact ⟨by rw [Hr.out]; rfl, hx5⟩
      ·
       have t7 : decide (a2 + a3 ≤ 0) = false := decide_eq_false h7
       have Hr : Hid (r = 0) := by show _ = _; rw [Hc.out, t6, t7]; rfl
       clear h6 h7 Hc
       go_wp2_with fail
       go_ret
       exact ⟨by rw [Hr.out]; rfl, hx5⟩

abbrev Bx4 := Int × Int × Int × Int
def bxI (c : Crs) (k : Nat) : Bx4 := (c.from_, c.first + k * (c.width + c.gap), c.to_, c.first + k * (c.width + c.gap) + c.width)
def bxsOf (c : Crs) (n : Nat) : List Bx4 := (List.range n).map (bxI c)
theorem bxsOf_succ (c : Crs) (n : Nat) : bxsOf c (n + 1) = bxsOf c n ++ [bxI c n] := by simp [bxsOf, List.range_succ]
def bxsTo (cs : List Crs) : Nat → List Bx4
 | 0 => []
 | n + 1 => bxsTo cs n ++ bxsOf (cs.getD n crs0) (cs.getD n crs0).tows.toNat
def bxCells : List Bx4 → List Value
 | [] => []
 | x :: l => .int .i64 x.1 :: .int .i64 x.2.1 :: .int .i64 x.2.2.1 :: .int .i64 x.2.2.2 :: bxCells l
theorem bxCells_append (a b : List Bx4) : bxCells (a ++ b) = bxCells a ++ bxCells b := by
 induction a with
 | nil => rfl
 | cons r a ih => simp [bxCells, ih]
theorem bxCells_get (ls : List Bx4) : ∀ i, i < ls.length → (bxCells ls)[i * 4]? = some (.int .i64 (ls.getD i (0, 0, 0, 0)).1) ∧ (bxCells ls)[i * 4 + 1]? = some (.int .i64 (ls.getD i (0, 0, 0, 0)).2.1) ∧ (bxCells ls)[i * 4 + 2]? = some (.int .i64 (ls.getD i (0, 0, 0, 0)).2.2.1) ∧ (bxCells ls)[i * 4 + 3]? = some (.int .i64 (ls.getD i (0, 0, 0, 0)).2.2.2) := by
 induction ls with
 | nil => intro i hi; simp at hi
 | cons r l ih =>
  intro i hi
  cases i with
  | zero => simp [bxCells]
  | succ i =>
   have := ih i (by simpa using hi)
   simpa [bxCells, Nat.succ_mul] using this
def BxAt (w : World) (b o : Nat) (r : Bx4) : Prop := w.cell? ⟨b, o, none⟩ = some (.int .i64 r.1) ∧ w.cell? ⟨b, o + 1, none⟩ = some (.int .i64 r.2.1) ∧ w.cell? ⟨b, o + 2, none⟩ = some (.int .i64 r.2.2.1) ∧ w.cell? ⟨b, o + 3, none⟩ = some (.int .i64 r.2.2.2)
def BxsOf (w : World) (v : Value) (ls : List Bx4) : Prop :=
 ∃ ao cap, v = .slice ao ls.length cap ∧ (0 < ls.length → ∃ b off, ao = some ⟨b, off, none⟩ ∧ b < w.heap.size ∧ ∀ i, i < ls.length → BxAt w b (off + i * 4) (ls.getD i (0, 0, 0, 0)))
theorem BxAt.below {w w' : World} {b o : Nat} {r : Bx4} (h : BxAt w b o r) (hb : Below w.heap.size w w') (hl : b < w.heap.size) : BxAt w' b o r := by
 obtain ⟨h0, h1, h2, h3⟩ := h
 have c : ∀ j v, w.cell? ⟨b, j, none⟩ = some v → w'.cell? ⟨b, j, none⟩ = some v := fun j v h => (hb.cell (p := ⟨b, j, none⟩) hl).trans h
 exact ⟨c _ _ h0, c _ _ h1, c _ _ h2, c _ _ h3⟩
theorem BxsOf.below {w w' : World} {v : Value} {cs : List Bx4} (h : BxsOf w v cs) (hb : Below w.heap.size w w') : BxsOf w' v cs := by
 obtain ⟨ao, cap, rfl, h⟩ := h
 refine ⟨ao, cap, rfl, fun hl => ?_⟩
 obtain ⟨b, off, rfl, hlt, h⟩ := h hl
 exact ⟨b, off, rfl, Nat.lt_of_lt_of_le hlt hb.size, fun i hi => (h i hi).below hb hlt⟩
theorem BxsOf.nil (w : World) : BxsOf w (.slice none 0 0) [] := ⟨none, 0, rfl, fun h => absurd h (by simp)⟩
theorem BxsOf.ofRow {w : World} {base : Nat} {e : TypeId} {v : Value} {ls : List Bx4} (h : LRow w base e 4 v ls.length (bxCells ls)) : BxsOf w v ls := by
 rcases Nat.eq_zero_or_pos ls.length with h0 | hp
 ·
  rcases h.1.2 with ⟨rfl, _⟩ | ⟨g, cap, cur, rfl, _⟩
  ·
   exact ⟨none, 0, by rw [h0], fun h => absurd h (by omega)⟩
  ·
   exact ⟨_, _, rfl, fun h => absurd h (by omega)⟩
 ·
  obtain ⟨g, cap, rfl⟩ := ownsRow_some h.1 hp
  have hc : ∀ j u, (bxCells ls)[j]? = some u → w.cell? ((⟨g, 0, none⟩ : Addr).add j) = some u := h.1.cells (g := g) rfl
  have hlt : g < w.heap.size := (h.lt rfl).1
  refine ⟨_, _, rfl, fun _ => ⟨g, 0, rfl, hlt, fun i hi => ?_⟩⟩
  obtain ⟨h0, h1, h2, h3⟩ := bxCells_get ls i hi
  have ea : ∀ j, (⟨g, 0, none⟩ : Addr).add j = ⟨g, 0 + j, none⟩ := fun j => by unfold Addr.add; split <;> simp_all
  refine ⟨?_, ?_, ?_, ?_⟩
  ·
   rw [← ea]; exact hc _ _ h0
  all_goals rw [Nat.add_assoc, ← ea]
  ·
   exact hc _ _ h1
  ·
   exact hc _ _ h2
  ·
   exact hc _ _ h3
theorem info_box : (Tryz.prog.info? 65).map (fun i => (i.zero, i.size, i.bytes)) = some (some (.agg #[.int .i64 0, .int .i64 0, .int .i64 0, .int .i64 0]), 4, 32) := by kernel_rfl
theorem cell_new4i (w : World) (a b c d : Value) (t : TypeId) : ∀ j u, [a, b, c, d][j]? = some u → (w.alloc (.cells #[a, b, c, d] t)).cell? ((⟨w.heap.size, 0, none⟩ : Addr).add j) = some u := by
 intro j u hj
 match j, hj with
 | 0, hj => simp at hj; subst hj; simp [Addr.add]
 | 1, hj => simp at hj; subst hj; simp [Addr.add]
 | 2, hj => simp at hj; subst hj; simp [Addr.add]
 | 3, hj => simp at hj; subst hj; simp [Addr.add]
 | j + 4, hj => simp at hj

def crsTo (cs : List Crs) : Nat → Int
 | 0 => 0
 | n + 1 => if crsTo cs n = 0 then crsErr (cs.getD n crs0) else crsTo cs n
theorem crsTo_stay (cs : List Crs) (k : Nat) : ∀ n, crsTo cs k ≠ 0 → k ≤ n → crsTo cs n = crsTo cs k := by
 intro n h hk
 induction n with
 | zero =>
  obtain rfl : k = 0 := by omega
  rfl
 | succ n ih =>
  rcases Nat.lt_or_ge k (n + 1) with h1 | h1
  ·
   rw [crsTo, ih (by omega), if_neg h]
  ·
   obtain rfl : k = n + 1 := by omega
   rfl
theorem crsTo_good (cs : List Crs) : ∀ n, crsTo cs n = 0 → ∀ i, i < n → crsErr (cs.getD i crs0) = 0
 | 0, _, i, hi => absurd hi (by omega)
 | n + 1, h, i, hi => by
  rw [crsTo] at h
  split at h
  ·
   rename_i h0
   rcases Nat.lt_or_ge i n with h1 | h1
   ·
    exact crsTo_good cs n h0 i h1
   ·
    obtain rfl : i = n := by omega
    exact h
  ·
   rename_i h0; exact absurd h h0
theorem bxsTo_length (cs : List Crs) : ∀ n, crsTo cs n = 0 → (bxsTo cs n).length ≤ 24 * n
 | 0, _ => by simp [bxsTo]
 | n + 1, h => by
  have hg := crs_good (crsTo_good cs (n + 1) h n (by omega))
  have h0 : crsTo cs n = 0 := by
   rw [crsTo] at h
   split at h
   ·
    assumption
   ·
    rename_i h0; exact absurd h h0
  have := bxsTo_length cs n h0
  have := hg.tows
  have e : (bxsOf (cs.getD n crs0) (cs.getD n crs0).tows.toNat).length = (cs.getD n crs0).tows.toNat := by simp [bxsOf]
  simp only [bxsTo, List.length_append]
  rw [e]
  omega
def towsErr (cs : List Crs) : Int := if 24 < cs.length then 4 else if crsTo cs cs.length ≠ 0 then crsTo cs cs.length else if 24 < (bxsTo cs cs.length).length then 9 else 0
def towsVal (cs : List Crs) : List Bx4 := if towsErr cs = 0 then bxsTo cs cs.length else []
def RetTows (cs : List Crs) (w : World) (e : Ending) (w' : World) : Prop := ∃ v, e = .returned (.tuple #[v, .int .i64 (towsErr cs)]) ∧ BxsOf w' v (towsVal cs) ∧ Below w.heap.size w w'
theorem towsVal_err {cs : List Crs} (h : towsErr cs ≠ 0) : towsVal cs = [] := by unfold towsVal; rw [if_neg h]

theorem ownBlock_low' {w : World} {base : Nat} {e : TypeId} {size : Nat} {v : Value} {n : Nat} {xs : List Value} (h : w.ownsRow base e size v n xs) : ∀ k, v.ownBlock = some k → base ≤ k := by
 intro k hk
 rcases h.2 with ⟨rfl, _⟩ | ⟨g, cap, cur, rfl, hb, _⟩
 ·
  simp [Value.ownBlock] at hk
 ·
  simp [Value.ownBlock] at hk
  omega
set_option maxRecDepth 100000 in
set_option maxHeartbeats 8000000 in
theorem tows_any (cs : List Crs) (v : Value) (w : World) (h : CrsOf w v cs) : Calls Tryz.prog 18 #[v] w (RetTows cs w) := by
 obtain ⟨ao, cap, rfl, hE⟩ := h
 have HE := Lib.hid hE
 clear hE
 by_cases c1 : 24 < cs.length
 ·
  have Hr : Hid (towsErr cs = 4) := by show _ = _; unfold towsErr; rw [if_pos c1]
  have t1 : decide ((cs.length : Int) > 24) = true := by simp; omega
  clear c1
  go_enter Tryz.func18, Tryz.ntmps18
  go_wp2_with fail
  go_ret2
  exact ⟨.slice none 0 0, by rw [Hr.out]; rfl, by rw [towsVal_err (by rw [Hr.out]; omega)]; exact BxsOf.nil _, Below.refl _ _⟩
 ·
  have t1 : decide ((cs.length : Int) > 24) = false := by simp; omega
  have h24 : cs.length ≤ 24 := by omega
  have Hc1 := Lib.hid c1
  obtain ⟨i0, hi0, hz0, hz1, hz2⟩ := info_parts info_box
  have hzd : ∀ u ∈ (Value.agg #[.int .i64 0, .int .i64 0, .int .i64 0, .int .i64 0]).cells.toList, noDig u := by
   intro u hu
   simp [Value.cells] at hu
   subst hu
   exact noDig_i64 _
  clear c1
  go_enter Tryz.func18, Tryz.ntmps18
  go_wp2_with fail
  go_loopw [4, 15] (fun ov iv wr => ∃ (i : Nat), i ≤ cs.length ∧ iv = .int .i64 i ∧ Hid (crsTo cs i = 0) ∧ Hid (LRow wr w.heap.size 65 4 ov (bxsTo cs i).length (bxCells (bxsTo cs i))) ∧ Below w.heap.size w wr) (fun _ iv _ => cs.length - (intOf iv).toNat)
  case atStart => exact ⟨0, Nat.zero_le _, rfl, rfl, LRow.nil _ _ _ _, Below.refl _ _⟩
  case round =>
   obtain ⟨i, hi, rfl, hC, hL, hbel⟩ := hrel
   by_cases hlt : i < cs.length
   ·
    obtain ⟨b, off, rfl, hbl, hEE⟩ := HE.out (by omega)
    obtain ⟨g0, g1, g2, g3, g4, g5⟩ := (hEE i hlt).below hbel hbl
    have hlt' : (i : Int) < cs.length := by omega
    have hge' : (0 : Int) ≤ i := by omega
    have hbl2 : b < wr.heap.size := Nat.lt_of_lt_of_le hbl hbel.size
    have hbs0 := hbel.size
    have Hst : Hid (crsTo cs (i + 1) = crsErr (cs.getD i crs0)) := by show _ = _; rw [crsTo, if_pos hC.out]
    have Hbs : Hid (bxsTo cs (i + 1) = bxsTo cs i ++ bxsOf (cs.getD i crs0) (cs.getD i crs0).tows.toNat) := rfl
    have Hbl := bxsTo_length cs i hC.out
    have HCK := Lib.hid (fun W => check_any (cs.getD i crs0) W)
    have Hbad : Hid (crsErr (cs.getD i crs0) ≠ 0 → towsErr cs = crsErr (cs.getD i crs0)) := fun h => by
     have h2 : crsTo cs cs.length = crsErr (cs.getD i crs0) := by rw [← Hst.out]; exact crsTo_stay cs (i + 1) cs.length (by rw [Hst.out]; exact h) hlt
     unfold towsErr
     rw [if_neg Hc1.out, h2, if_pos h]
    have HG := Lib.hid (fun h => crs_good (c := cs.getD i crs0) h)
    generalize cs.getD i crs0 = c at *
    have hN := blk_new wr #[.int .i64 c.first, .int .i64 c.tows, .int .i64 c.width, .int .i64 c.gap, .int .i64 c.from_, .int .i64 c.to_] 61
    have hal := (Below.refl wr.heap.size wr).alloc (Nat.le_refl _) (.cells #[.int .i64 c.first, .int .i64 c.tows, .int .i64 c.width, .int .i64 c.gap, .int .i64 c.from_, .int .i64 c.to_] 61)
    have HL0 := Lib.hid (hL.out.below hal)
    have hOlt := Lib.hid (fun g (hg : u4.ownBlock = some g) => (hL.out.lt hg).1)
    have hx0 := ext_trans hbel hal
    clear hEE hbel hL
    go_wp2_with fail
    refine (HCK.out _).mono ?_
    rintro e w1 ⟨rfl, hb1⟩
    have hN1 := blk_keep hN hb1 (blk_lt hN)
    have HL1 := Lib.hid (HL0.out.below hb1)
    have hx1 := ext_trans hx0 hb1
    have c1 := blk_cell hN1 1 (.int .i64 c.tows) rfl
    clear HL0 hx0 hb1 hN hal g0 g1 g2 g3 g4 g5
    by_cases he : crsErr c = 0
    ·
     have hg := HG.out he
     obtain ⟨⟨ht1, ht2⟩, hw, hgp, hf, _⟩ := hg
     have te : (crsErr c != 0) = false := by rw [he]; rfl
     have He := Lib.hid he
     clear he
     generalize crsErr c = er at *
     go_wp2_with fail
     have HNn := Lib.hid hN1
     have hCl := blk_lt hN1
     have hCB : w.heap.size ≤ wr.heap.size := hbs0
     clear hN1 c1 te
     generalize wr.heap.size = CB at *
     go_loopw [26, 4] (fun kv ov wx => ∃ (k : Nat), (k : Int) ≤ c.tows ∧ kv = .int .i64 k ∧ Hid (LRow wx w.heap.size 65 4 ov (bxsTo cs i ++ bxsOf c k).length (bxCells (bxsTo cs i ++ bxsOf c k))) ∧ Hid (wx.heap[CB]? = some (.cells #[.int .i64 c.first, .int .i64 c.tows, .int .i64 c.width, .int .i64 c.gap, .int .i64 c.from_, .int .i64 c.to_] 61 (0, 0))) ∧ Hid (∀ g, ov.ownBlock = some g → g ≠ CB) ∧ Below w.heap.size w wx) (fun kv _ _ => (c.tows - intOf kv).toNat)
     case atStart => exact ⟨0, by omega, rfl, by simp only [bxsOf, List.range_zero, List.map_nil, List.append_nil]; exact HL1.out, HNn.out, fun g hg e => Nat.lt_irrefl CB (by have := hOlt.out g hg; omega), hx1⟩
     case round =>
      clear HL1 HNn hx1
      obtain ⟨k, hk, rfl, hLk, hNk, hne, hbx⟩ := hrel
      have hCl' := blk_lt hNk.out
      by_cases hlk : (k : Int) < c.tows
      ·
       have tk : decide ((k : Int) < c.tows) = true := decide_eq_true hlk
       have m0 := blk_cell hNk.out 0 (.int .i64 c.first) rfl
       have m2 := blk_cell hNk.out 2 (.int .i64 c.width) rfl
       have m3 := blk_cell hNk.out 3 (.int .i64 c.gap) rfl
       have m4 := blk_cell hNk.out 4 (.int .i64 c.from_) rfl
       have m5 := blk_cell hNk.out 5 (.int .i64 c.to_) rfl
       have hbi : bxI c k = (c.from_, c.first + (k : Int) * (c.width + c.gap), c.to_, c.first + (k : Int) * (c.width + c.gap) + c.width) := rfl
       obtain ⟨S, hS⟩ : ∃ S, S = c.width + c.gap := ⟨_, rfl⟩
       have hS1 : -2000000 ≤ S ∧ S ≤ 2000000 := by omega
       have e1 : IntKind.i64.wrap (c.width + c.gap) = S := by rw [hS]; exact IntWalk.i64_in _ (by omega)
       rw [← hS] at hbi
       have hp := mul_absI (show -24 ≤ (k : Int) ∧ (k : Int) ≤ 24 by omega) hS1
       obtain ⟨P, hP⟩ : ∃ P, P = (k : Int) * S := ⟨_, rfl⟩
       rw [← hP] at hbi hp
       have e2 : IntKind.i64.wrap ((k : Int) * S) = P := by rw [← hP]; exact IntWalk.i64_in _ (by omega)
       obtain ⟨Y, hY⟩ : ∃ Y, Y = c.first + P := ⟨_, rfl⟩
       rw [← hY] at hbi
       have e3 : IntKind.i64.wrap (c.first + P) = Y := by rw [hY]; exact IntWalk.i64_in _ (by omega)
       obtain ⟨Y2, hY2⟩ : ∃ Y2, Y2 = Y + c.width := ⟨_, rfl⟩
       rw [← hY2] at hbi
       have e4 : IntKind.i64.wrap (Y + c.width) = Y2 := by rw [hY2]; exact IntWalk.i64_in _ (by omega)
       have Hsn : Hid (bxsTo cs i ++ bxsOf c (k + 1) = (bxsTo cs i ++ bxsOf c k) ++ [(c.from_, Y, c.to_, Y2)]) := by show _ = _; rw [bxsOf_succ, hbi, List.append_assoc]
       have hpl : (bxsTo cs i ++ bxsOf c k).length ≤ 1000 := by rw [List.length_append]; simp only [bxsOf, List.length_map, List.length_range]; omega
       have hbw := hbx.size
       clear hbi hS hS1 hp hP hY hY2
       generalize bxsTo cs i ++ bxsOf c k = pre at *
       have hal := (Below.refl wr.heap.size wr).alloc (Nat.le_refl _) (.cells #[.int .i64 c.from_, .int .i64 Y, .int .i64 c.to_, .int .i64 Y2] 65)
       have HLa := Lib.hid (hLk.out.below hal)
       have HNa := Lib.hid (blk_keep hNk.out hal hCl')
       have hxa := hbx.alloc hbx.size (.cells #[.int .i64 c.from_, .int .i64 Y, .int .i64 c.to_, .int .i64 Y2] 65)
       have HNE := Lib.hid hne.out
       clear hLk hNk hal hne hbx
       go_wp2_with (at_builtin; refine wpList_append_lrow _ rfl (.tmp 39) (.tmp 52) 57 rfl w.heap.size 65 i0 _ 4 32 Tryz.underlying57 hi0 hz0 hz1 hz2 rfl (by decide) hzd _ _ _ rfl HLa.out ⟨wr.heap.size, 0, none⟩ 1 1 [.int .i64 c.from_, .int .i64 Y, .int .i64 c.to_, .int .i64 Y2] rfl rfl (cell_new4i _ _ _ _ _ _) (by simp [Value.oneCell']) (by intro u hu; simp at hu; rcases hu with rfl | rfl | rfl | rfl <;> exact noDig_i64 _) (by omega) (by unfold maxLen; omega) (by omega) (by simp; omega) ?_)
       intro g' cap' w3 hL4 hgr hat
       have HL4 : Hid (LRow w3 w.heap.size 65 4 (.slice (some ⟨g', 0, none⟩) (pre.length + 1) cap') (pre ++ [(c.from_, Y, c.to_, Y2)]).length (bxCells (pre ++ [(c.from_, Y, c.to_, Y2)]))) := by
        show LRow _ _ _ _ _ _ _
        rw [bxCells_append, List.length_append]
        exact hL4
       have hx4 : Below w.heap.size w w3 := hxa.grown hgr (by simp; omega) (ownBlock_low' HLa.out.1)
       have HN4 : Hid (w3.heap[CB]? = some (.cells #[.int .i64 c.first, .int .i64 c.tows, .int .i64 c.width, .int .i64 c.gap, .int .i64 c.from_, .int .i64 c.to_] 61 (0, 0))) := (hgr.block CB (by simp; omega) (fun e => HNE.out CB e.symm rfl)).trans HNa.out
       have HE4 : Hid (∀ g, (Value.slice (some ⟨g', 0, none⟩) (pre.length + 1) cap').ownBlock = some g → g ≠ CB) := by
        intro g hg
        simp [Value.ownBlock] at hg
        subst hg
        rcases hat with h | h
        ·
         exact HNE.out _ h
        ·
         rw [h]; simp; omega
       clear hL4 hgr hat HLa HNa hxa
       go_wp2_with fail
       exact ⟨⟨k + 1, by omega, by go_num, by rw [Hsn.out]; exact HL4.out, HN4.out, HE4.out, hx4⟩, by simp [intOf]; omega⟩
      ·
       have tk : decide ((k : Int) < c.tows) = false := decide_eq_false hlk
       have hkt : c.tows.toNat = k := by omega
       have Hfin : Hid (bxsTo cs (i + 1) = bxsTo cs i ++ bxsOf c k) := by show _ = _; rw [Hbs.out, hkt]
       have Hc0 : Hid (crsTo cs (i + 1) = 0) := by show _ = _; rw [Hst.out]; exact He.out
       clear hkt hlk hne hNk
       go_wp2_with fail
       exact ⟨⟨i + 1, by omega, by go_num, Hc0.out, by rw [Hfin.out]; exact hLk.out, hbx⟩, meas_up hlt⟩
    ·
     have te : (crsErr c != 0) = true := bne_iff_ne.2 he
     have Hr := Lib.hid (Hbad.out he)
     have He := Lib.hid he
     clear he
     generalize crsErr c = er at *
     go_wp2_with fail
     go_ret2
     exact ⟨.slice none 0 0, by rw [Hr.out]; rfl, by rw [towsVal_err (by rw [Hr.out]; exact He.out)]; exact BxsOf.nil _, hx1⟩
   ·
    obtain rfl : i = cs.length := by omega
    have hform : ∃ ao2 cap2, u4 = .slice ao2 (bxsTo cs cs.length).length cap2 := by
     rcases hL.out.1.2 with ⟨e, h0⟩ | ⟨g, cap, cur, e, _⟩
     ·
      exact ⟨none, 0, by rw [e, h0]⟩
     ·
      exact ⟨_, _, e⟩
    obtain ⟨ao2, cap2, rfl⟩ := hform
    have HB := Lib.hid (BxsOf.ofRow hL.out)
    have Hte : Hid (towsErr cs = if 24 < (bxsTo cs cs.length).length then 9 else 0) := by show _ = _; unfold towsErr; rw [if_neg Hc1.out, hC.out, if_neg (by simp)]
    have Htv : Hid (towsVal cs = if towsErr cs = 0 then bxsTo cs cs.length else []) := rfl
    by_cases c2 : 24 < (bxsTo cs cs.length).length
    ·
     have t2 : decide (((bxsTo cs cs.length).length : Int) > 24) = true := by simp; omega
     have Hr : Hid (towsErr cs = 9) := by show _ = _; rw [Hte.out, if_pos c2]
     clear c2 hL
     generalize bxsTo cs cs.length = bl at *
     go_wp2_with fail
     go_ret2
     exact ⟨.slice none 0 0, by rw [Hr.out]; rfl, by rw [towsVal_err (by rw [Hr.out]; omega)]; exact BxsOf.nil _, hbel⟩
    ·
     have t2 : decide (((bxsTo cs cs.length).length : Int) > 24) = false := by simp; omega
     have Hr : Hid (towsErr cs = 0) := by show _ = _; rw [Hte.out, if_neg c2]
     have Hv : Hid (towsVal cs = bxsTo cs cs.length) := by show _ = _; rw [Htv.out, if_pos Hr.out]
     clear c2 hL
     generalize bxsTo cs cs.length = bl at *
     go_wp2_with fail
     go_ret2
     exact ⟨.slice ao2 bl.length cap2, by rw [Hr.out]; rfl, by rw [Hv.out]; exact HB.out, hbel⟩

end Go.Proofs.YtofijjomfhmbjaaGreat

namespace Go.Proofs.YtofijjomfhmbjaaGreat

theorem ten_two : 2 ≤ 10 := by omega
def chD (d : Nat) : UInt8 := UInt8.ofNat (48 + d)
def decP (n m : Nat) : List UInt8 := ((dig 10 n).take m).reverse.map chD
def decL (n : Nat) : List UInt8 := (dig 10 n).reverse.map chD
def decT (n : Nat) : List UInt8 := if n = 0 then [48] else decL n

theorem dig_drop {B : Nat} (hB : 2 ≤ B) : ∀ (k n : Nat), (dig B n).drop k = dig B (n / B ^ k)
 | 0, n => by simp
 | k + 1, n => by
  by_cases h : n = 0
  ·
   subst h; simp [dig_zero]
  ·
   rw [dig_pos hB h, List.drop_succ_cons, dig_drop hB k, Nat.div_div_eq_div_mul, Nat.pow_succ, Nat.mul_comm B]
theorem dig_length_gt {B : Nat} (hB : 2 ≤ B) (k n : Nat) : k < (dig B n).length ↔ n / B ^ k ≠ 0 := by
 rw [Ne, ← dig_nil_iff hB, ← dig_drop hB, List.drop_eq_nil_iff]
 omega
theorem dig_getD {B : Nat} (hB : 2 ≤ B) (k n : Nat) : (dig B n).getD k 0 = n / B ^ k % B := by
 by_cases h : n / B ^ k = 0
 ·
  have := (not_congr (dig_length_gt hB k n)).2 (fun hne => hne h)
  rw [h, List.getD_eq_getElem?_getD, List.getElem?_eq_none (by omega)]
  simp
 ·
  have hl := (dig_length_gt hB k n).2 h
  have e := dig_drop hB k n
  rw [dig_pos hB h, List.drop_eq_getElem_cons hl] at e
  rw [List.getD_eq_getElem?_getD, List.getElem?_eq_getElem hl]
  exact (List.cons.inj e).1
theorem decP_step (n m : Nat) (h : n / 10 ^ m ≠ 0) : decP n (m + 1) = chD (n / 10 ^ m % 10) :: decP n m := by
 have hl := (dig_length_gt ten_two m n).2 h
 have e := dig_getD ten_two m n
 rw [List.getD_eq_getElem?_getD, List.getElem?_eq_getElem hl] at e
 unfold decP
 rw [List.take_succ_eq_append_getElem hl, List.reverse_append]
 simp at e ⊢
 rw [e]
theorem decP_all (n m : Nat) (h : n / 10 ^ m = 0) : decP n m = decL n := by
 have := (not_congr (dig_length_gt ten_two m n)).2 (fun hne => hne h)
 unfold decP decL
 rw [List.take_of_length_le (by omega)]
theorem decP_length (n m : Nat) (h : m = 0 ∨ n / 10 ^ (m - 1) ≠ 0) : (decP n m).length = m := by
 rcases h with rfl | h
 ·
  simp [decP]
 ·
  rcases Nat.eq_zero_or_pos m with rfl | hp
  ·
   simp [decP]
  ·
   have := (dig_length_gt ten_two (m - 1) n).2 h
   simp [decP]
   omega
theorem decL_zero : decL 0 = [] := rfl
theorem decL_length (n : Nat) : (decL n).length = (dig 10 n).length := by simp [decL]
theorem lv_inj {B : Nat} : ∀ {a b : List Nat}, Dgs B a → Dgs B b → a.length = b.length → lv B a = lv B b → a = b
 | [], [], _, _, _, _ => rfl
 | x :: a, y :: b, ha, hb, hl, hv => by
  rw [lv_cons, lv_cons] at hv
  have hx := ha.head
  have hy := hb.head
  have e1 : x = y := by
   have h1 : (x + B * lv B a) % B = x := by rw [Nat.add_mul_mod_self_left, Nat.mod_eq_of_lt hx]
   have h2 : (y + B * lv B b) % B = y := by rw [Nat.add_mul_mod_self_left, Nat.mod_eq_of_lt hy]
   rw [← h1, ← h2, hv]
  subst e1
  have e2 : lv B a = lv B b := Nat.eq_of_mul_eq_mul_left (show 0 < B by omega) (Nat.add_left_cancel hv)
  rw [lv_inj ha.tail hb.tail (by simpa using hl) e2]
theorem dig_take {B : Nat} (hB : 2 ≤ B) (k n : Nat) (h : n / B ^ k ≠ 0) : (dig B n).take k = dig B (n % B ^ k) ++ List.replicate (k - (dig B (n % B ^ k)).length) 0 := by
 have hl := (dig_length_gt hB k n).2 h
 have hp : 0 < B ^ k := Nat.pow_pos (by omega)
 have hm := dig_length_le hB k (n % B ^ k) (Nat.mod_lt _ hp)
 have htk : ((dig B n).take k).length = k := by simp; omega
 refine lv_inj ((dgs_dig hB n).take k) ((dgs_dig hB _).append (Dgs.replicate (by omega) _)) (by simp; omega) ?_
 have hv := lv_take_drop B (dig B n) k (by omega)
 have ht := lv_lt ((dgs_dig hB n).take k)
 rw [lv_dig hB, dig_drop hB, lv_dig hB] at hv
 rw [htk] at ht
 have e : n % B ^ k = lv B ((dig B n).take k) := by
  have h1 : n % B ^ k = (lv B ((dig B n).take k) + B ^ k * (n / B ^ k)) % B ^ k := by rw [← hv]
  rw [h1, Nat.add_mul_mod_self_left, Nat.mod_eq_of_lt ht]
 rw [lv_append, lv_replicate, lv_dig hB, Nat.mul_zero, Nat.add_zero, e]
def decZ (k n : Nat) : List UInt8 := List.replicate (k - (decL n).length) 48 ++ decL n
theorem decL_split (k n : Nat) (h : n / 10 ^ k ≠ 0) : decL n = decL (n / 10 ^ k) ++ decZ k (n % 10 ^ k) := by
 have e : dig 10 n = (dig 10 n).take k ++ dig 10 (n / 10 ^ k) := by
  rw [← dig_drop ten_two, List.take_append_drop]
 unfold decL decZ
 rw [e, dig_take ten_two k n h, decL_length]
 simp [decL, chD, List.map_reverse]
theorem chD_toNat (d : Nat) (h : d < 10) : (chD d).toNat = 48 + d := by
 unfold chD
 rw [UInt8.toNat_ofNat', Nat.mod_eq_of_lt (by omega)]

def txtQ (q : Rat) : List UInt8 := (if q.num < 0 then [45] else []) ++ (decT q.num.natAbs ++ (if q.den = 1 then [] else 47 :: decT q.den))

end Go.Proofs.YtofijjomfhmbjaaGreat

namespace Go.Proofs.YtofijjomfhmbjaaGreat
open Go.RowKit Go.Shelf

def strB (l : List UInt8) : ByteArray := ⟨l.toArray⟩
theorem strB_size (l : List UInt8) : (strB l).size = l.length := rfl
theorem strB_append (a b : List UInt8) : strB a ++ strB b = strB (a ++ b) := by
 apply ByteArray.ext
 simp [strB, ByteArray.data_append]
def RetStr (l : List UInt8) (w : World) (e : Ending) (w' : World) : Prop := e = .returned (.string (strB l)) ∧ Below w.heap.size w w'
theorem repeat_zero (c : Nat) : Lib.repeatL [48] c = List.replicate c 48 := by
 induction c with
 | zero => rfl
 | succ c ih => rw [Lib.repeatL, ih]; rfl

def DecRow (w : World) (B n m : Nat) : Prop := ∃ cs : List Value, cs.length = 20 ∧ w.heap[B]? = some (.cells cs.toArray 133 (0, 0)) ∧ cs.drop (20 - m) = (decP n m).map fun c => Value.int .u8 c.toNat
theorem DecRow.bytes {w : World} {B n m : Nat} (h : DecRow w B n m) (hm : m ≤ 20) (hl : (decP n m).length = m) : Lib.Bytes w B (20 - m) (strB (decP n m)) := by
 obtain ⟨cs, hc, hh, hd⟩ := h
 intro i hi
 rw [strB_size] at hi
 rw [cell_of_row w B _ _ _ (0, 0) hh]
 have e : cs[20 - m + i]? = ((decP n m).map fun c => Value.int .u8 c.toNat)[i]? := by rw [← hd, List.getElem?_drop]
 simp only [List.getElem?_toArray]
 rw [e, List.getElem?_map, List.getElem?_eq_getElem hi]
 rfl
theorem DecRow.step {w : World} {B n m k : Nat} (h : DecRow w B n m) (hk : k + 1 + m = 20) (h0 : n / 10 ^ m ≠ 0) (v : Value) (hv : v = .int .u8 (chD (n / 10 ^ m % 10)).toNat) : DecRow (w.setCell ⟨B, k, none⟩ v) B n (m + 1) := by
 obtain ⟨cs, hc, hh, hd⟩ := h
 refine ⟨cs.set k v, by simp [hc], ?_, ?_⟩
 ·
  rw [heap_setCell_same w B k _ _ _ hh]
  simp
 ·
  rw [decP_step n m h0, List.map_cons, ← hd, hv]
  rw [show 20 - (m + 1) = k by omega, show 20 - m = k + 1 by omega]
  rw [List.drop_eq_getElem_cons (by simp [hc]; omega)]
  simp [List.drop_set]
theorem DecRow.cell {w : World} {B n m : Nat} (h : DecRow w B n m) (k : Nat) (hk : k < 20) : ∃ v, w.cell? ⟨B, k, none⟩ = some v ∧ w.frozen? ⟨B, k, none⟩ = false := by
 obtain ⟨cs, hc, hh, hd⟩ := h
 refine ⟨cs[k], ?_, frozen_of_row w B k _ _ hh⟩
 rw [cell_of_row w B k _ _ (0, 0) hh]
 simp [hc, hk]

theorem arr20 : Tryz.prog.arrayLen 133 = 20 := by kernel_rfl
theorem und20 : Tryz.prog.underlying 133 = some (.array (Tryz.prog.arrayLen 133) (Tryz.prog.elem 133)) := by kernel_rfl
theorem size20 (w : World) : (sizeOf (Tryz.prog.elem 133)).run Tryz.prog w = .ok 1 w := by kernel_rfl
theorem slice20 (B a : Nat) (ha : a < 20) (w : World) : (Instr.sliceAt 133 (.pointer (some ⟨B, 0, none⟩)) (some (.int .i64 (a : Int))) none none).run Tryz.prog w = .ok (.slice (some ⟨B, a, none⟩) (20 - a) (20 - a)) w := by
 rw [run_sliceAt_array_l w _ _ und20 .i64 a (by omega) (by rw [arr20]; omega), size20, arr20]
 have h : ¬ 20 = a := by omega
 have e : (⟨B, 0, none⟩ : Addr).add (a * 1) = ⟨B, a, none⟩ := by unfold Addr.add; split <;> simp_all
 simp only [Result.andThen_ok, slicedAt, Int.toNat_natCast, if_neg h, e]
theorem slice20_end (B : Nat) (w : World) : (Instr.sliceAt 133 (.pointer (some ⟨B, 0, none⟩)) (some (.int .i64 ((20 : Nat) : Int))) none none).run Tryz.prog w = .ok (.slice (some ⟨B, 0, none⟩) 0 0) w := by
 rw [run_sliceAt_array_l w _ _ und20 .i64 _ (by omega) (by rw [arr20]; omega), size20, arr20]
 simp [slicedAt]

set_option maxRecDepth 100000 in
set_option maxHeartbeats 4000000 in
theorem decimal_any (n : Nat) (w : World) (hn : n < b64) : Calls Tryz.prog 51 #[.int .u64 n] w (RetStr (decL n) w) := by
 have h20 : n / 10 ^ 20 = 0 := Nat.div_eq_of_lt (by unfold b64 at hn; omega)
 have H20 := Lib.hid h20
 have hN : DecRow (w.alloc (.cells #[.int .u8 0, .int .u8 0, .int .u8 0, .int .u8 0, .int .u8 0, .int .u8 0, .int .u8 0, .int .u8 0, .int .u8 0, .int .u8 0, .int .u8 0, .int .u8 0, .int .u8 0, .int .u8 0, .int .u8 0, .int .u8 0, .int .u8 0, .int .u8 0, .int .u8 0, .int .u8 0] 133)) w.heap.size n 0 :=
  ⟨List.replicate 20 (.int .u8 0), by simp, blk_new w _ _, by simp [decP]⟩
 have hal : Below w.heap.size w (w.alloc (.cells #[.int .u8 0, .int .u8 0, .int .u8 0, .int .u8 0, .int .u8 0, .int .u8 0, .int .u8 0, .int .u8 0, .int .u8 0, .int .u8 0, .int .u8 0, .int .u8 0, .int .u8 0, .int .u8 0, .int .u8 0, .int .u8 0, .int .u8 0, .int .u8 0, .int .u8 0, .int .u8 0] 133)) := (Below.refl _ _).alloc (Nat.le_refl _) _
 have HN := Lib.hid hN
 clear h20 hN
 go_enter Tryz.func51, Tryz.ntmps51
 go_wp2_with fail
 go_loopw [0, 4] (fun nv av wr => ∃ (m a : Nat), a + m = 20 ∧ nv = .int .u64 ((n / 10 ^ m : Nat) : Int) ∧ av = .int .i64 a ∧ (m = 0 ∨ n / 10 ^ (m - 1) ≠ 0) ∧ Hid (DecRow wr w.heap.size n m) ∧ Below w.heap.size w wr)
  (fun _ av _ => (intOf av).toNat)
 case atStart => exact ⟨0, 20, rfl, by simp, rfl, .inl rfl, HN.out, hal⟩
 case round =>
  clear hal HN
  obtain ⟨m, a, ha, rfl, rfl, hm, hD, hbel⟩ := hrel
  have HM := Lib.hid hm
  have HA := Lib.hid ha
  clear hm
  by_cases h0 : n / 10 ^ m = 0
  ·
   have Hh := Lib.hid h0
   by_cases ha20 : a = 20
   ·
    have h00 : n = 0 := by
     obtain rfl : m = 0 := by omega
     simpa using h0
    have hw := Lib.run_convert_whole (P := Tryz.prog) wr 109 5 9 Tryz.underlying109 Tryz.underlying5 Tryz.underlying9 w.heap.size 0 (strB []) (fun i hi => absurd hi (Nat.not_lt_zero i)) 0
    rw [strB_size, List.length_nil] at hw
    have hsl := slice20_end w.heap.size
    have Hn0 : Hid (decL n = []) := by show _ = _; rw [h00]; rfl
    rw [h0]
    subst ha20
    clear h0 h00 ha
    go_wp2_with fail
    go_ret
    exact ⟨by rw [Hn0.out]; rfl, hbel⟩
   ·
    have hl := decP_length n m HM.out
    have hm2 : m = 20 - a := by omega
    have hw := Lib.run_convert_whole (P := Tryz.prog) wr 109 5 9 Tryz.underlying109 Tryz.underlying5 Tryz.underlying9 w.heap.size (20 - m) (strB (decP n m)) (hD.out.bytes (by omega) hl) (20 - a)
    rw [strB_size, hl, decP_all n m h0, show 20 - m = a by omega, hm2] at hw
    have hsl := slice20 w.heap.size a (by omega)
    rw [h0]
    clear h0 hl hm2
    go_wp2_with fail
    go_ret
    exact ⟨rfl, hbel⟩
  ·
   have hq : ((n / 10 ^ m : Nat) : Int) > 0 := Int.natCast_pos.2 (Nat.pos_of_ne_zero h0)
   have t1 : decide (((n / 10 ^ m : Nat) : Int) > 0) = true := decide_eq_true hq
   have hm20 : m < 20 := by
    rcases Nat.lt_or_ge m 20 with h | h
    ·
     exact h
    ·
     obtain rfl : m = 20 := by omega
     exact absurd H20.out h0
   obtain ⟨k, rfl⟩ : ∃ k, a = k + 1 := ⟨a - 1, by omega⟩
   obtain ⟨v0, g0, f0⟩ := hD.out.cell k (by omega)
   have hst := fun v hv => hD.out.step (k := k) (by omega) h0 v hv
   have HST := Lib.hid hst
   have Hm1 : Hid (n / 10 ^ (m + 1 - 1) ≠ 0) := by show _ ≠ _; rw [Nat.add_sub_cancel]; exact h0
   have hdv : Hid (n / 10 ^ m / 10 = n / 10 ^ (m + 1)) := by show _ = _; rw [Nat.div_div_eq_div_mul, Nat.pow_succ]
   have hch : Hid (((chD (n / 10 ^ m % 10)).toNat : Int) = 48 + ((n / 10 ^ m % 10 : Nat) : Int)) := by show _ = _; rw [chD_toNat _ (Nat.mod_lt _ (by omega))]; omega
   have hqb : n / 10 ^ m < b64 := Nat.lt_of_le_of_lt (Nat.div_le_self _ _) hn
   have e1 : IntKind.i64.wrap (((k + 1 : Nat) : Int) - 1) = (k : Int) := by rw [show (((k + 1 : Nat) : Int) - 1) = (k : Int) by omega]; exact IntWalk.i64_in _ (by omega)
   have e2 : IntKind.i64.wrap ((k : Int) + 1 - 1) = (k : Int) := by rw [show ((k : Int) + 1 - 1) = (k : Int) by omega]; exact IntWalk.i64_in _ (by omega)
   have hk20 : (k : Int) < 20 := by omega
   have hk0 : (0 : Int) ≤ k := by omega
   clear hst h0 hD
   generalize n / 10 ^ m = q at *
   unfold b64 at hqb
   clear hn
   go_wp2_with fail
   refine ⟨⟨m + 1, k, by have := HA.out; omega, by rw [← hdv.out, Int.natCast_ediv]; rfl, rfl, .inr Hm1.out, HST.out _ (by rw [hch.out, Int.natCast_emod]; rfl), hbel.setCell (p := ⟨w.heap.size, k, none⟩) (Nat.le_refl _) _⟩, by simp [intOf]⟩

def decC : Nat := 10000000000000000000
theorem decC_eq : decC = 10 ^ 19 := by unfold decC; omega
def partL (n i : Nat) : List UInt8 := if n / decC ^ i / decC = 0 then decL (n / decC ^ i) else decZ 19 (n / decC ^ i % decC)
theorem partL_step (n i : Nat) : decL (n / decC ^ (i + 1)) ++ partL n i = decL (n / decC ^ i) := by
 have e : n / decC ^ (i + 1) = n / decC ^ i / decC := by rw [Nat.div_div_eq_div_mul, Nat.pow_succ]
 rw [e]
 unfold partL
 by_cases h : n / decC ^ i / decC = 0
 ·
  rw [if_pos h, h, decL_zero]; rfl
 ·
  rw [if_neg h]
  rw [decC_eq] at *
  exact (decL_split 19 _ h).symm
def partCells (n k : Nat) : List Value := (List.range k).map fun i => Value.string (strB (partL n i))
theorem partCells_succ (n k : Nat) : partCells n (k + 1) = partCells n k ++ [Value.string (strB (partL n k))] := by
 simp [partCells, List.range_succ]

theorem digits_len (n : Nat) : (dig 10 n).length ≤ 20 * (dig b64 n).length := by
 refine dig_length_le ten_two _ _ (Nat.lt_of_lt_of_le (lt_pow_dig_length b64_two n) ?_)
 rw [Nat.pow_mul]
 exact Nat.pow_le_pow_left (by unfold b64; omega) _
theorem parts_len (n k : Nat) (h : n / decC ^ k ≠ 0) : 19 * k < 20 * (dig b64 n).length := by
 have h1 : n / 10 ^ (19 * k) ≠ 0 := by rw [Nat.pow_mul, ← decC_eq]; exact h
 have := (dig_length_gt ten_two (19 * k) n).2 h1
 have := digits_len n
 omega
theorem decC_pos : 0 < decC := by unfold decC; omega
theorem partL_len (n i : Nat) : (partL n i).length ≤ 19 + (dig 10 n).length := by
 unfold partL
 split
 ·
  rw [decL_length]
  have : (dig 10 (n / decC ^ i)).length ≤ (dig 10 n).length := dig_length_mono ten_two (Nat.div_le_self _ _)
  omega
 ·
  unfold decZ
  have h1 : (decL (n / decC ^ i % decC)).length ≤ 19 := by
   rw [decL_length]
   refine dig_length_le ten_two 19 _ ?_
   rw [← decC_eq]
   exact Nat.mod_lt _ decC_pos
  simp
  omega
theorem LRow.cellAt {w : World} {base : Nat} {e : TypeId} {g n cap : Nat} {xs : List Value} (h : LRow w base e 1 (.slice (some ⟨g, 0, none⟩) n cap) n xs) (j : Nat) (v : Value) (hj : xs[j]? = some v) : w.cell? ⟨g, j, none⟩ = some v := by
 have hc : ∀ j u, xs[j]? = some u → w.cell? ((⟨g, 0, none⟩ : Addr).add j) = some u := h.1.cells (g := g) rfl
 have := hc j v hj
 have e : (⟨g, 0, none⟩ : Addr).add j = ⟨g, j, none⟩ := by unfold Addr.add; split <;> simp_all
 rwa [e] at this
theorem noDig_string (s : ByteArray) : noDig (.string s) := fun _ => ⟨by simp, by simp⟩
theorem info_string : (Tryz.prog.info? 9).map (fun i => (i.zero, i.size, i.bytes)) = some (some (.string .empty), 1, 16) := by kernel_rfl
theorem cell_new1 (w : World) (a : Value) (t : TypeId) : ∀ j u, [a][j]? = some u → (w.alloc (.cells #[a] t)).cell? ((⟨w.heap.size, 0, none⟩ : Addr).add j) = some u := by
 intro j u hj
 match j, hj with
 | 0, hj => simp at hj; subst hj; simp [Addr.add]
 | j + 1, hj => simp at hj
def sliceLen : Value → Nat | .slice _ n _ => n | _ => 0
theorem LRow.form {w : World} {base : Nat} {e : TypeId} {size : Nat} {v : Value} {n : Nat} {xs : List Value} (h : LRow w base e size v n xs) : ∃ ao cap, v = .slice ao n cap ∧ (0 < n → ∃ g, ao = some ⟨g, 0, none⟩ ∧ g < w.heap.size ∧ base ≤ g) := by
 rcases h.1.2 with ⟨rfl, h0⟩ | ⟨g, cap, cur, rfl, hb, hg, _⟩
 ·
  exact ⟨none, 0, by rw [h0], fun h => absurd h (by omega)⟩
 ·
  exact ⟨_, _, rfl, fun _ => ⟨g, rfl, (Array.getElem?_eq_some_iff.1 hg).1, hb⟩⟩
theorem bw_any (q : Nat) (v : Value) (W : World) (h : IsNat .u64 b64 W v q) (hl : (dig b64 q).length ≤ 1099511627776) : Calls Tryz.prog 50 #[v, .int .u64 10000000000000000000] W (RetNatWord (q / decC) (q % decC) W) := by
 have h2 := byWord_any q decC v W h hl decC_pos (by unfold decC b64; omega)
 have e : ((decC : Nat) : Int) = 10000000000000000000 := rfl
 rw [e] at h2
 exact h2
theorem rep_any (c : Nat) (W : World) (hc : c ≤ 19) : Calls Tryz.prog 52 #[.string { data := #[48] }, .int .i64 (c : Int)] W (fun e w' => e = .returned (.string (strB (List.replicate c 48))) ∧ Below W.heap.size W w') := by
 have h := Tryz.strings_Repeat { data := #[48] } c W (by omega) (by show 1 * c ≤ _; omega)
 rw [show Lib.repeatL (ByteArray.mk #[48]).data.toList c = List.replicate c 48 from repeat_zero c] at h
 exact h
theorem write_any (B b : Nat) (l m : List UInt8) (W : World) (h : Lib.IsBuilder 111 5 B b (Lib.byteCells l) W) (hl : l.length + m.length ≤ 140737488355328) (hB : B ≤ W.heap.size) :
  Calls Tryz.prog 53 #[.pointer (some ⟨b, 0, none⟩), .string (strB m)] W (fun e w' => e = .returned (.tuple #[.int .i64 ((strB m).size : Int), .nilIface]) ∧ Lib.IsBuilder 111 5 B b (Lib.byteCells (l ++ m)) w' ∧ Below B W w') := by
 refine (Any.Builder_WriteString { Tryz.lays105 with } Tryz.Builder_Extra_105 B b (Lib.byteCells l) (strB m) W h (by rw [Lib.byteCells_length, strB_size]; exact hl) hB).mono fun e w' he => ?_
 obtain ⟨he, h1, h2⟩ := he
 refine ⟨he, .inr ?_, h2⟩
 have e2 : Lib.byteCells (l ++ m) = Lib.byteCells l ++ Lib.strCells (strB m) := by simp [Lib.byteCells, Lib.strCells, strB]
 rw [e2]
 exact h1
theorem new_builder (w : World) : Lib.IsBuilder 111 5 w.heap.size w.heap.size (Lib.byteCells []) (w.alloc (.cells #[.pointer none, .slice none 0 0] 111)) :=
 .inl ⟨Nat.le_refl _, _, blk_new w _ _, World.ownsRow_nil _ _ _ _, by simp [Value.ownBlock]⟩

theorem own_base {w : World} {base : Nat} {e : TypeId} {size : Nat} {v : Value} {n : Nat} {xs : List Value} (h : w.ownsRow base e size v n xs) : ∀ k, v.ownBlock = some k → base ≤ k := by
 intro k hk
 rcases h.2 with ⟨rfl, _⟩ | ⟨g, cap, cur, rfl, hb, _⟩
 ·
  simp [Value.ownBlock] at hk
 ·
  simp [Value.ownBlock] at hk
  omega
theorem decT_pos (n : Nat) (h : n ≠ 0) : decT n = decL n := by unfold decT; rw [if_neg h]
set_option maxRecDepth 100000 in
set_option maxHeartbeats 8000000 in
theorem text_any (n : Nat) (v : Value) (w : World) (h : IsNat .u64 b64 w v n) (hsz : (dig b64 n).length ≤ 68719476736) : Calls Tryz.prog 35 #[v] w (RetStr (decT n) w) := by
 have H := Lib.hid h
 have hd := digits_len n
 have HD := Lib.hid hd
 have HSZ := Lib.hid hsz
 obtain ⟨iS, hiS, hzS, hsS, hyS⟩ := info_parts info_string
 have hzd : ∀ u ∈ (Value.string ByteArray.empty).cells.toList, noDig u := by
  intro u hu
  simp [Value.cells] at hu
  subst hu
  exact noDig_string _
 clear h hd hsz
 have HN1 : Hid (n / decC ^ 0 = n) := by show _ = _; rw [Nat.pow_zero, Nat.div_one]
 have hvs : ∃ ao cap, v = .slice ao (dig b64 n).length cap := by obtain ⟨ao, cap, e, _⟩ := IsRow.opened H.out; exact ⟨ao, cap, e⟩
 obtain ⟨ao0, cap0, rfl⟩ := hvs
 go_enter Tryz.func35, Tryz.ntmps35
 go_wp2_with fail
 go_loopw [0, 3] (fun av pv wr => ∃ (k : Nat), IsNat .u64 b64 wr av (n / decC ^ k) ∧ (k = 0 ∨ n / decC ^ (k - 1) ≠ 0) ∧ Hid (LRow wr w.heap.size 9 1 pv k (partCells n k)) ∧ Below w.heap.size w wr)
  (fun _ pv _ => 1374389534721 - sliceLen pv)
 case atStart => exact ⟨0, by rw [HN1.out]; exact H.out, .inl rfl, LRow.nil _ _ _ _, Below.refl _ _⟩
 case round =>
  clear H
  obtain ⟨k, hA, hk, hL, hbel⟩ := hrel
  have HK := Lib.hid hk
  obtain ⟨ao, cap, rfl, hg⟩ := hL.out.form
  have HA := Lib.hid hA
  obtain ⟨aa, ca, rfl, _⟩ := IsRow.opened hA
  clear hA hk
  by_cases h0 : n / decC ^ k = 0
  ·
   have Hq0 := Lib.hid h0
   rw [h0, dig_zero, List.length_nil]
   clear h0 HA
   by_cases hk0 : k = 0
   ·
    have Hn : Hid (decT n = [48]) := by
     show _ = _
     have : n = 0 := by have := Hq0.out; rw [hk0, HN1.out] at this; exact this
     rw [this]; rfl
    subst hk0
    go_wp2_with fail
    go_ret
    exact ⟨by rw [Hn.out]; rfl, hbel⟩
   ·
    have hn0 : Hid (n ≠ 0) := by
     show n ≠ 0
     rintro rfl
     rcases HK.out with h | h
     ·
      exact hk0 h
     ·
      exact h (Nat.zero_div _)
    have Hkb : Hid (k ≤ 1374389534720) := by
     show _ ≤ _
     rcases HK.out with h | h
     ·
      omega
     ·
      have := parts_len n (k - 1) h; have := HSZ.out; omega
    have tk : ((k : Int) == 0) = false := beq_eq_false_iff_ne.2 (by omega)
    obtain ⟨g, rfl, hgl, hgb⟩ := hg (by omega)
    have hkb := Hkb.out
    have ek : IntKind.i64.wrap ((k : Int) - 1) = (k : Int) - 1 := IntWalk.i64_in _ (by omega)
    obtain ⟨kp, hkp⟩ : ∃ z : Int, z = (k : Int) - 1 := ⟨_, rfl⟩
    have HKP := Lib.hid hkp
    rw [← hkp] at ek
    have ek2 : IntKind.i64.wrap ((k : Int) - 1) = kp := by rw [hkp]; exact IntWalk.i64_in _ (by omega)
    have hnb := new_builder wr
    have hal := (Below.refl wr.heap.size wr).alloc (Nat.le_refl _) (.cells #[.pointer none, .slice none 0 0] 111)
    have HL1 := Lib.hid (hL.out.below hal)
    have hx1 := ext_trans hbel hal
    have hBs : wr.heap.size < (wr.alloc (.cells #[.pointer none, .slice none 0 0] 111)).heap.size := by simp
    have HNB := Lib.hid hnb
    have hwB := hbel.size
    clear ek hkp hkb hL hbel hnb
    go_wp2_with fail
    generalize wr.alloc (.cells #[.pointer none, .slice none 0 0] 111) = W1 at *
    generalize wr.heap.size = B at *
    go_loopw [8] (fun iv wx => ∃ (j : Nat) (z : Int), z = (j : Int) - 1 ∧ j ≤ k ∧ iv = .int .i64 z ∧ Hid (Lib.IsBuilder 111 5 B B (Lib.byteCells (decL (n / decC ^ j))) wx) ∧ Below B W1 wx) (fun iv _ => (intOf iv + 1).toNat)
    case atStart => exact ⟨k, _, HKP.out, Nat.le_refl _, rfl, by rw [Hq0.out]; exact HNB.out, Below.refl _ _⟩
    case round =>
     clear HNB hal
     obtain ⟨j, z, hz, hj, rfl, hIB, hbx⟩ := hrel
     have hBx : B < wr.heap.size := Nat.lt_of_lt_of_le hBs hbx.size
     have hgx : g < B := hgl
     have hxx : Below w.heap.size w wr := hx1.trans (hbx.mono hwB)
     by_cases hj0 : j = 0
     ·
      have t9 : decide (z ≥ 0) = false := decide_eq_false (by omega)
      have hs := fun h => Tryz.Builder_String_any B B (decL n) wr h (Nat.le_of_lt hBx)
      have HS := Lib.hid (hs (by have := hIB.out; rw [hj0, HN1.out] at this; exact this))
      have HT := Lib.hid (decT_pos n hn0.out)
      clear hs hz hj0 hIB
      go_wp2_with fail
      refine HS.out.mono ?_
      rintro e w3 ⟨rfl, hb3⟩
      go_wp2_with fail
      go_ret
      exact ⟨by rw [HT.out]; rfl, hxx.trans (hb3.mono (by omega))⟩
     ·
      obtain ⟨i, rfl⟩ : ∃ i, j = i + 1 := ⟨j - 1, by omega⟩
      obtain rfl : z = (i : Int) := by omega
      have t9 : decide ((i : Int) ≥ 0) = true := decide_eq_true (by omega)
      have hi0 : (0 : Int) ≤ i := by omega
      have hik : (i : Int) < k := by omega
      have hce : (partCells n k)[i]? = some (.string (strB (partL n i))) := by
       unfold partCells
       rw [List.getElem?_map, List.getElem?_range (by omega)]
       rfl
      have c0 := HL1.out.cellAt i _ hce
      have c1 : wr.cell? ⟨g, i, none⟩ = some (.string (strB (partL n i))) := (hbx.cell (p := ⟨g, i, none⟩) hgx).trans c0
      have c2 : wr.cell? ⟨g, 0 + i, none⟩ = some (.string (strB (partL n i))) := by rw [Nat.zero_add]; exact c1
      have hps := Lib.hid (partL_step n i)
      have hlen1 := partL_len n i
      have hlen2 : (decL (n / decC ^ (i + 1))).length ≤ (dig 10 n).length := by rw [decL_length]; exact dig_length_mono ten_two (Nat.div_le_self _ _)
      have HW := Lib.hid (write_any B B (decL (n / decC ^ (i + 1))) (partL n i) wr hIB.out (by have := HD.out; have := HSZ.out; omega) (Nat.le_of_lt hBx))
      clear c0 hce hz hj0 hIB hlen1 hlen2
      generalize partL n i = pp at *
      go_wp2_with fail
      refine HW.out.mono ?_
      rintro e w3 ⟨rfl, hib3, hb3⟩
      rw [hps.out] at hib3
      have HIB := Lib.hid hib3
      have e1 : IntKind.i64.wrap ((i : Int) - 1) = (i : Int) - 1 := IntWalk.i64_in _ (by have := Hkb.out; omega)
      have e2 : Hid (((intOf (.int .i64 ((i : Int) - 1))) + 1).toNat < ((intOf (.int .i64 (i : Int))) + 1).toNat) := by show _ < _; simp [intOf] <;> omega
      clear hib3
      go_wp2_with fail
      exact ⟨⟨i, (i : Int) - 1, rfl, by omega, rfl, HIB.out, hbx.trans hb3⟩, e2.out⟩
  ·
   have hlen : 0 < (dig b64 (n / decC ^ k)).length := by
    rcases Nat.eq_zero_or_pos (dig b64 (n / decC ^ k)).length with h | h
    ·
     exact absurd ((dig_nil_iff b64_two _).1 (List.eq_nil_of_length_eq_zero h)) h0
    ·
     exact h
   have t1 : decide (0 < (dig b64 (n / decC ^ k)).length) = true := decide_eq_true hlen
   have hLq : (dig b64 (n / decC ^ k)).length ≤ (dig b64 n).length := dig_length_mono b64_two (Nat.div_le_self _ _)
   have hpl := parts_len n k h0
   have Hk1 : Hid (n / decC ^ (k + 1 - 1) ≠ 0) := by show _ ≠ _; rw [Nat.add_sub_cancel]; exact h0
   have Hsu := Lib.hid (partCells_succ n k)
   have Hpd : Hid (n / decC ^ (k + 1) = n / decC ^ k / decC) := by show _ = _; rw [Nat.div_div_eq_div_mul, Nat.pow_succ]
   have Hpl : Hid (partL n k = if n / decC ^ k / decC = 0 then decL (n / decC ^ k) else decZ 19 (n / decC ^ k % decC)) := rfl
   have hkb : k ≤ 1374389534720 := by have := HSZ.out; omega
   have HBW := Lib.hid (fun W h => bw_any (n / decC ^ k) (.slice aa (dig b64 (n / decC ^ k)).length ca) W h (by have := HSZ.out; omega))
   clear hlen hLq hpl h0 hg
   generalize hPK : partL n k = pk at *
   generalize n / decC ^ k = q at *
   clear hPK
   go_wp2_with fail
   refine (HBW.out _ HA.out).mono ?_
   rintro e w1 ⟨vq, rfl, hvq, hb1⟩
   have HVQ := Lib.hid hvq
   obtain ⟨aq, cq, rfl, _⟩ := IsRow.opened hvq
   have hr : q % decC < decC := Nat.mod_lt _ decC_pos
   have HL1 := Lib.hid (hL.out.below hb1)
   have hx1 := ext_trans hbel hb1
   clear hvq hb1 hL hbel HBW t1
   go_wp2_with fail
   refine (decimal_any (q % decC) _ (Nat.lt_trans hr (by unfold decC b64; omega))).mono ?_
   rintro e w2 ⟨rfl, hb2⟩
   have HL2 := Lib.hid (HL1.out.below hb2)
   have HVQ2 := Lib.hid (HVQ.out.below hb2)
   have hx2 := ext_trans hx1 hb2
   clear HL1 HVQ hx1 hb2
   by_cases h1 : q / decC = 0
   ·
    have hL0 : (dig b64 (q / decC)).length = 0 := by rw [h1]; rfl
    have Hpk : Hid (pk = decL (q % decC)) := by
     show _ = _
     rw [Hpl.out, if_pos h1]
     rcases Nat.lt_or_ge q decC with h | h
     ·
      rw [Nat.mod_eq_of_lt h]
     ·
      exact absurd (Nat.div_pos h decC_pos) (by omega)
    rw [hL0] at HVQ2 ⊢
    generalize decL (q % decC) = m at *
    have HL3 := Lib.hid (HL2.out.below ((Below.refl w2.heap.size w2).alloc (Nat.le_refl _) (.cells #[.string (strB m)] 9)))
    have hx3 := hx2.alloc hx2.size (.cells #[.string (strB m)] 9)
    have hsz2 := hx2.size
    clear hr h1 hL0
    have HVQ3 := Lib.hid (HVQ2.out.below ((Below.refl w2.heap.size w2).alloc (Nat.le_refl _) (.cells #[.string (strB m)] 9)))
    go_wp2_with (at_builtin; refine wpList_append_lrow _ rfl (.tmp 28) (.tmp 30) 102 rfl w.heap.size 9 iS _ 1 16 Tryz.underlying102 hiS hzS hsS hyS rfl (by decide) hzd _ _ _ rfl HL3.out ⟨w2.heap.size, 0, none⟩ 1 1 [.string (strB m)] rfl rfl (cell_new1 _ _ _) (by simp [Value.oneCell']) (by intro u hu; simp at hu; subst hu; exact noDig_string _) (by omega) (by unfold maxLen; omega) (by omega) (by simp; omega) ?_)
    intro g' cap' w3 hL4 hgr hat
    have HL4 := Lib.hid hL4
    have hx4 : Below w.heap.size w w3 := hx3.grown hgr (by simp; omega) (own_base HL3.out.1)
    have HVQ4 := Lib.hid (IsRow.grown (.inl rfl) (HVQ3.out) hgr HL3.out.2)
    clear hL4 hx3
    go_wp2_with fail
    exact ⟨⟨k + 1, by rw [Hpd.out]; exact HVQ4.out, .inr Hk1.out, by rw [Hsu.out, Hpk.out]; exact HL4.out, hx4⟩, by show 1374389534721 - (k + 1) < 1374389534721 - k; omega⟩
   ·
    have hl2 : 0 < (dig b64 (q / decC)).length := by
     rcases Nat.eq_zero_or_pos (dig b64 (q / decC)).length with h | h
     ·
      exact absurd ((dig_nil_iff b64_two _).1 (List.eq_nil_of_length_eq_zero h)) h1
     ·
      exact h
    have t2 : decide (0 < (dig b64 (q / decC)).length) = true := decide_eq_true hl2
    have Hpk : Hid (pk = decZ 19 (q % decC)) := by show _ = _; rw [Hpl.out, if_neg h1]
    have hm19 : (decL (q % decC)).length ≤ 19 := by
     rw [decL_length]
     exact dig_length_le ten_two 19 _ (by rw [← decC_eq]; exact hr)
    have Hz : Hid (decZ 19 (q % decC) = List.replicate (19 - (decL (q % decC)).length) 48 ++ decL (q % decC)) := rfl
    generalize decL (q % decC) = m at *
    obtain ⟨c, hc⟩ : ∃ c, m.length + c = 19 := ⟨19 - m.length, by omega⟩
    have hsm : (strB m).size = m.length := rfl
    have e1 : IntKind.i64.wrap (19 - ((strB m).size : Int)) = (c : Int) := by rw [hsm, show (19 : Int) - (m.length : Int) = (c : Int) by omega]; exact IntWalk.i64_in _ (by omega)
    have hcat : strB (List.replicate c 48) ++ strB m = strB pk := by rw [strB_append, Hpk.out, Hz.out, show 19 - m.length = c by omega]
    have hc19 : c ≤ 19 := by omega
    have hz1 : (strB (List.replicate c 48)).size ≤ 19 := by rw [strB_size, List.length_replicate]; exact hc19
    have hz2 : (strB m).size ≤ 19 := by rw [strB_size]; omega
    clear hr h1 hl2 hm19 hc hsm Hz
    go_wp2_with fail
    refine (rep_any c _ hc19).mono ?_
    rintro e w2' ⟨rfl, hb3⟩
    have HL3 := Lib.hid ((HL2.out.below hb3).below ((Below.refl w2'.heap.size w2').alloc (Nat.le_refl _) (.cells #[.string (strB pk)] 9)))
    have HVQ3 := Lib.hid ((HVQ2.out.below hb3).below ((Below.refl w2'.heap.size w2').alloc (Nat.le_refl _) (.cells #[.string (strB pk)] 9)))
    have hx2' := ext_trans hx2 hb3
    have hx3 := hx2'.alloc hx2'.size (.cells #[.string (strB pk)] 9)
    have hsz2 := hx2'.size
    clear hb3 hx2 hx2'
    go_wp2_with (at_builtin; refine wpList_append_lrow _ rfl (.tmp 28) (.tmp 30) 102 rfl w.heap.size 9 iS _ 1 16 Tryz.underlying102 hiS hzS hsS hyS rfl (by decide) hzd _ _ _ rfl HL3.out ⟨w2'.heap.size, 0, none⟩ 1 1 [.string (strB pk)] rfl rfl (cell_new1 _ _ _) (by simp [Value.oneCell']) (by intro u hu; simp at hu; subst hu; exact noDig_string _) (by omega) (by unfold maxLen; omega) (by omega) (by simp; omega) ?_)
    intro g' cap' w3 hL4 hgr hat
    have HL4 := Lib.hid hL4
    have hx4 : Below w.heap.size w w3 := hx3.grown hgr (by simp; omega) (own_base HL3.out.1)
    have HVQ4 := Lib.hid (IsRow.grown (.inl rfl) (HVQ3.out) hgr HL3.out.2)
    clear hL4 hx3
    go_wp2_with fail
    exact ⟨⟨k + 1, by rw [Hpd.out]; exact HVQ4.out, .inr Hk1.out, by rw [Hsu.out]; exact HL4.out, hx4⟩, by show 1374389534721 - (k + 1) < 1374389534721 - k; omega⟩

theorem decT_len (n : Nat) (h : (dig b64 n).length ≤ 68719476736) : (strB (decT n)).size ≤ 1374389534720 := by
 have := digits_len n
 rw [strB_size]
 unfold decT
 split
 ·
  simp
 ·
  rw [decL_length]; omega

set_option maxRecDepth 100000 in
set_option maxHeartbeats 4000000 in
theorem textRat_any (q : Rat) (v : Value) (w : World) (h : IsRat w v q) (hs : szR q 68719476736) : Calls Tryz.prog 19 #[v] w (RetStr (txtQ q) w) := by
 obtain ⟨a1, c1, a2, c2, rfl, n1, n2⟩ := h.opened
 have N1 := Lib.hid n1
 have N2 := Lib.hid n2
 have HS := Lib.hid hs
 have hB := blk_new w #[.bool (decide (q.num < 0)), .slice a1 (dig b64 q.num.natAbs).length c1, .slice a2 (dig b64 (dn q.den)).length c2] 54
 have hal := (Below.refl w.heap.size w).alloc (Nat.le_refl _) (.cells #[.bool (decide (q.num < 0)), .slice a1 (dig b64 q.num.natAbs).length c1, .slice a2 (dig b64 (dn q.den)).length c2] 54)
 have hT1 := text_any q.num.natAbs (.slice a1 (dig b64 q.num.natAbs).length c1) _ (n1.below hal) hs.1
 have HT1 := Lib.hid hT1
 clear h n1 n2 hs hT1
 have Htx : Hid (txtQ q = (if q.num < 0 then [45] else []) ++ (decT q.num.natAbs ++ (if q.den = 1 then [] else 47 :: decT q.den))) := rfl
 go_enter Tryz.func19, Tryz.ntmps19
 go_wp2_with fail
 refine HT1.out.mono ?_
 rintro e w1 ⟨rfl, hb1⟩
 have hB1 := blk_keep hB hb1 (blk_lt hB)
 have hx1 := ext_trans hal hb1
 have p0 := blk_cell hB1 0 (.bool (decide (q.num < 0))) rfl
 have p2 := blk_cell hB1 2 (.slice a2 (dig b64 (dn q.den)).length c2) rfl
 have HN2 := Lib.hid (N2.out.below hx1)
 clear hB hB1 hal hb1 HT1
 have hz1 := decT_len q.num.natAbs HS.out.1
 have ho1 : (ByteArray.mk #[45]).size = 1 := rfl
 have ho2 : (ByteArray.mk #[47]).size = 1 := rfl
 by_cases hneg : q.num < 0
 ·
  have tn : decide (q.num < 0) = true := decide_eq_true hneg
  have Hneg := Lib.hid hneg
  rw [tn] at p0 ⊢
  clear hneg tn
  by_cases hd : q.den = 1
  ·
   have hdn : dn q.den = 0 := by simp [dn, hd]
   rw [hdn] at p2 ⊢
   rw [dig_zero, List.length_nil] at p2 ⊢
   have Htx2 : Hid (txtQ q = [45] ++ decT q.num.natAbs) := by show _ = _; rw [Htx.out, if_pos Hneg.out, if_pos hd, List.append_nil]
   clear hd hdn Htx HN2 N2
   have hcat : ByteArray.mk #[45] ++ strB (decT q.num.natAbs) = strB (txtQ q) := by rw [show ByteArray.mk #[45] = strB [45] from rfl, strB_append, Htx2.out]
   go_wp2_with fail
   go_ret
   exact ⟨rfl, hx1⟩
  ·
   have hdn : dn q.den = q.den := by simp [dn, hd]
   rw [hdn] at p2 HN2 ⊢
   have hlen : 0 < (dig b64 q.den).length := by
    rcases Nat.eq_zero_or_pos (dig b64 q.den).length with h | h
    ·
     exact absurd ((dig_nil_iff b64_two _).1 (List.eq_nil_of_length_eq_zero h)) (by have := q.den_pos; omega)
    ·
     exact h
   have tl : decide (0 < (dig b64 q.den).length) = true := decide_eq_true hlen
   have Htx2 : Hid (txtQ q = [45] ++ (decT q.num.natAbs ++ 47 :: decT q.den)) := by show _ = _; rw [Htx.out, if_pos Hneg.out, if_neg hd]
   have hz2 := decT_len q.den HS.out.2
   have HT2 := Lib.hid (text_any q.den _ _ HN2.out HS.out.2)
   have hcat2 : ByteArray.mk #[47] ++ strB (decT q.den) = strB (47 :: decT q.den) := by rw [show ByteArray.mk #[47] = strB [47] from rfl, strB_append]; rfl
   have hz3 : (strB (47 :: decT q.den)).size ≤ 1374389534721 := by rw [strB_size] at hz2 ⊢; rw [List.length_cons]; omega
   have hcat1 : ByteArray.mk #[45] ++ strB (decT q.num.natAbs) = strB (45 :: decT q.num.natAbs) := by rw [show ByteArray.mk #[45] = strB [45] from rfl, strB_append]; rfl
   have hcat3 : strB (45 :: decT q.num.natAbs) ++ strB (47 :: decT q.den) = strB (txtQ q) := by rw [strB_append, Htx2.out]; rfl
   have hz4 : (strB (45 :: decT q.num.natAbs)).size ≤ 1374389534721 := by rw [strB_size] at hz1 ⊢; rw [List.length_cons]; omega
   clear hd hdn Htx hlen HN2 N2
   go_wp2_with fail
   refine HT2.out.mono ?_
   rintro e w2 ⟨rfl, hb2⟩
   go_wp2_with fail
   go_ret
   exact ⟨rfl, ext_trans hx1 hb2⟩
 ·
  have tn : decide (q.num < 0) = false := decide_eq_false hneg
  have Hneg := Lib.hid hneg
  rw [tn] at p0 ⊢
  clear hneg tn
  by_cases hd : q.den = 1
  ·
   have hdn : dn q.den = 0 := by simp [dn, hd]
   rw [hdn] at p2 ⊢
   rw [dig_zero, List.length_nil] at p2 ⊢
   have Htx2 : Hid (txtQ q = decT q.num.natAbs) := by show _ = _; rw [Htx.out, if_neg Hneg.out, if_pos hd, List.append_nil]; rfl
   clear hd hdn Htx HN2 N2
   go_wp2_with fail
   go_ret
   exact ⟨by rw [Htx2.out]; rfl, hx1⟩
  ·
   have hdn : dn q.den = q.den := by simp [dn, hd]
   rw [hdn] at p2 HN2 ⊢
   have hlen : 0 < (dig b64 q.den).length := by
    rcases Nat.eq_zero_or_pos (dig b64 q.den).length with h | h
    ·
     exact absurd ((dig_nil_iff b64_two _).1 (List.eq_nil_of_length_eq_zero h)) (by have := q.den_pos; omega)
    ·
     exact h
   have tl : decide (0 < (dig b64 q.den).length) = true := decide_eq_true hlen
   have Htx2 : Hid (txtQ q = decT q.num.natAbs ++ 47 :: decT q.den) := by show _ = _; rw [Htx.out, if_neg Hneg.out, if_neg hd]; rfl
   have hz2 := decT_len q.den HS.out.2
   have HT2 := Lib.hid (text_any q.den _ _ HN2.out HS.out.2)
   have hcat2 : ByteArray.mk #[47] ++ strB (decT q.den) = strB (47 :: decT q.den) := by rw [show ByteArray.mk #[47] = strB [47] from rfl, strB_append]; rfl
   have hz3 : (strB (47 :: decT q.den)).size ≤ 1374389534721 := by rw [strB_size] at hz2 ⊢; rw [List.length_cons]; omega
   have hcat3 : strB (decT q.num.natAbs) ++ strB (47 :: decT q.den) = strB (txtQ q) := by rw [strB_append, Htx2.out]
   clear hd hdn Htx hlen HN2 N2
   go_wp2_with fail
   refine HT2.out.mono ?_
   rintro e w2 ⟨rfl, hb2⟩
   go_wp2_with fail
   go_ret
   exact ⟨rfl, ext_trans hx1 hb2⟩

end Go.Proofs.YtofijjomfhmbjaaGreat

namespace Go.Proofs.YtofijjomfhmbjaaGreat
open Go.RowKit

theorem pt_fields : (Tryz.prog.fieldsOf 45).toList = [{ name := "X", type := 3, offset := 0, embedded := false, tag := "", pkgPath := "", byteOffset := 0 }, { name := "Y", type := 3, offset := 1, embedded := false, tag := "", pkgPath := "", byteOffset := 8 }] := by kernel_rfl
set_option maxRecDepth 100000 in
theorem eql_pt (a b c d : Int) (w : World) : (binOp .eql 45 (.agg #[.int .i64 a, .int .i64 b]) (.agg #[.int .i64 c, .int .i64 d])).run Tryz.prog w = .ok (.bool (a == c && b == d)) w := by
 rw [run_eql_struct, run_equalIn_struct w 9999 45 _ _ (by kernel_rfl) (by kernel_rfl), pt_fields]
 have n0 : ("X" ≠ "_") := by decide
 have n1 : ("Y" ≠ "_") := by decide
 unfold Op.eqFields
 rw [if_pos n0]
 simp only [Sem.run_bind, (part2 _ _ _).1, eqInt, Result.andThen_ok, Sem.run_ite]
 cases a == c with
 | false => simp
 | true =>
  unfold Op.eqFields
  rw [if_pos n1]
  simp only [Sem.run_bind, (part2 _ _ _).2, eqInt, Result.andThen_ok, Sem.run_ite]
  unfold Op.eqFields
  by_cases h : b = d <;> simp [h]

def ptsA : List Pt := [(0, 0), (10, 0), (0, 10)]
def crsA : Crs := ⟨0, 2, 6, 1, 0, 10⟩
theorem outErr_A : outErr ptsA = 0 := by
 refine outErr_ok _ (by decide) (by decide) ?_
 intro k hk j hj i hi
 have : k = 2 := by simp [ptsA] at hk; omega
 subst this
 obtain rfl : j = 1 := by omega
 obtain rfl : i = 0 := by omega
 decide
theorem areaQ_A : areaQ ptsA = 50 := by decide +kernel
theorem txt_50 : strB (txtQ 50) = { data := #[53, 48] } := by decide +kernel
theorem towsErr_A : towsErr [crsA] = 0 := by decide +kernel
theorem towsVal_A : towsVal [crsA] = [(0, 0, 10, 6), (0, 7, 10, 13)] := by decide +kernel
theorem pts_new3 (w : World) (a b c d e f : Int) (t : TypeId) : PairsOf (w.alloc (.cells #[.int .i64 a, .int .i64 b, .int .i64 c, .int .i64 d, .int .i64 e, .int .i64 f] t)) (.slice (some ⟨w.heap.size, 0, none⟩) 3 3) [(a, b), (c, d), (e, f)] := by
 have hB := blk_new w #[.int .i64 a, .int .i64 b, .int .i64 c, .int .i64 d, .int .i64 e, .int .i64 f] t
 refine ⟨_, 3, rfl, fun _ => ⟨w.heap.size, 0, rfl, blk_lt hB, fun i hi => ?_⟩⟩
 match i, hi with
 | 0, _ => exact ⟨blk_cell hB 0 _ rfl, blk_cell hB 1 _ rfl⟩
 | 1, _ => exact ⟨blk_cell hB 2 _ rfl, blk_cell hB 3 _ rfl⟩
 | 2, _ => exact ⟨blk_cell hB 4 _ rfl, blk_cell hB 5 _ rfl⟩
 | i + 3, hi => simp at hi; omega
theorem crs_new1 (w : World) (c : Crs) (t : TypeId) : CrsOf (w.alloc (.cells #[.int .i64 c.first, .int .i64 c.tows, .int .i64 c.width, .int .i64 c.gap, .int .i64 c.from_, .int .i64 c.to_] t)) (.slice (some ⟨w.heap.size, 0, none⟩) 1 1) [c] := by
 have hB := blk_new w #[.int .i64 c.first, .int .i64 c.tows, .int .i64 c.width, .int .i64 c.gap, .int .i64 c.from_, .int .i64 c.to_] t
 refine ⟨_, 1, rfl, fun _ => ⟨w.heap.size, 0, rfl, blk_lt hB, fun i hi => ?_⟩⟩
 match i, hi with
 | 0, _ => exact ⟨blk_cell hB 0 _ rfl, blk_cell hB 1 _ rfl, blk_cell hB 2 _ rfl, blk_cell hB 3 _ rfl, blk_cell hB 4 _ rfl, blk_cell hB 5 _ rfl⟩
 | i + 1, hi => simp at hi

set_option maxRecDepth 100000 in
set_option maxHeartbeats 1000000 in
theorem awake03_any (w : World) : Calls Tryz.prog 4 #[] w (RetBool true w) := by
 have HT : Hid (∀ W, Calls Tryz.prog 16 #[.agg #[.int .i64 3, .int .i64 4], .agg #[.int .i64 2, .int .i64 1]] W (fun e w' => e = .returned (.tuple #[.agg #[.int .i64 10, .int .i64 (-5)], .int .i64 0]) ∧ Below W.heap.size W w')) := fun W => turned_ok (3, 4) (2, 1) W (by decide) (by decide) (by decide) (by decide) (by decide)
 have HA : Hid (∀ W v, PairsOf W v ptsA → Calls Tryz.prog 17 #[v] W (RetRatE 50 0 W)) := fun W v h => by
  have := layupArea_ok ptsA v W h outErr_A
  rw [areaQ_A] at this
  exact this
 have HW : Hid (∀ W v, CrsOf W v [crsA] → Calls Tryz.prog 18 #[v] W (fun e w' => ∃ v, e = .returned (.tuple #[v, .int .i64 0]) ∧ BxsOf w' v [(0, 0, 10, 6), (0, 7, 10, 13)] ∧ Below W.heap.size W w')) := fun W v h => by
  have := tows_any [crsA] v W h
  unfold RetTows at this
  rw [towsErr_A, towsVal_A] at this
  exact this
 have HX : Hid (∀ W v, IsRat W v 50 → Calls Tryz.prog 19 #[v] W (fun e w' => e = .returned (.string { data := #[53, 48] }) ∧ Below W.heap.size W w')) := fun W v h => by
  have := textRat_any 50 v W h (i64_szR 50 (by omega) (by omega) _ (by omega))
  unfold RetStr at this
  rw [txt_50] at this
  exact this
 have he := eql_pt 10 (-5) 10 (-5)
 rw [show ((10 : Int) == 10 && (-5 : Int) == -5) = true from rfl] at he
 go_enter Tryz.func4, Tryz.ntmps4
 go_wp2_with fail
 refine (HT.out _).mono ?_
 rintro e w1 ⟨rfl, hb1⟩
 have hP := blk_new w1 #[.int .i64 10, .int .i64 (-5)] 45
 have hx1 := hb1.alloc hb1.size (.cells #[.int .i64 10, .int .i64 (-5)] 45)
 have hPl : w1.heap.size < (w1.alloc (.cells #[.int .i64 10, .int .i64 (-5)] 45)).heap.size := by simp
 clear hb1
 have hPA := pts_new3 (w1.alloc (.cells #[.int .i64 10, .int .i64 (-5)] 45)) 0 0 10 0 0 10 45
 rw [World.size_alloc] at hPA
 have HPA := Lib.hid hPA
 clear hPA
 have hP2 := blk_keep hP ((Below.refl _ _).alloc (Nat.le_refl _) (.cells #[.int .i64 0, .int .i64 0, .int .i64 10, .int .i64 0, .int .i64 0, .int .i64 10] 45)) hPl
 have hx2 := hx1.alloc hx1.size (.cells #[.int .i64 0, .int .i64 0, .int .i64 10, .int .i64 0, .int .i64 0, .int .i64 10] 45)
 clear hx1 hP hPl
 go_wp2_with fail
 refine (HA.out _ _ HPA.out).mono ?_
 rintro e w2 ⟨va, rfl, hva, hb2⟩
 have hP3 := blk_keep hP2 hb2 (blk_lt hP2)
 have hx3 := ext_trans hx2 hb2
 obtain ⟨a5, c5, a6, c6, rfl, _, _⟩ := hva.opened
 have HVA := Lib.hid hva
 clear hP2 hb2 hx2 hva HPA
 generalize hq : (50 : Rat) = q at *
 clear hq
 have hal4 := (Below.refl w2.heap.size w2).alloc (Nat.le_refl _) (.cells #[.bool (decide (q.num < 0)), .slice a5 (dig b64 q.num.natAbs).length c5, .slice a6 (dig b64 (dn q.den)).length c6] 54)
 have hQ := blk_new w2 #[.bool (decide (q.num < 0)), .slice a5 (dig b64 q.num.natAbs).length c5, .slice a6 (dig b64 (dn q.den)).length c6] 54
 have hP4 := blk_keep hP3 hal4 (blk_lt hP3)
 have hx4 := ext_trans hx3 hal4
 have HVA4 := Lib.hid (HVA.out.below hal4)
 clear hP3 hx3 hal4 HVA
 have hCA := (crs_new1 (w2.alloc (.cells #[.bool (decide (q.num < 0)), .slice a5 (dig b64 q.num.natAbs).length c5, .slice a6 (dig b64 (dn q.den)).length c6] 54)) crsA 61)
 rw [World.size_alloc] at hCA
 have HCA := Lib.hid hCA
 clear hCA
 have hal5 := (Below.refl (w2.alloc (.cells #[.bool (decide (q.num < 0)), .slice a5 (dig b64 q.num.natAbs).length c5, .slice a6 (dig b64 (dn q.den)).length c6] 54)).heap.size (w2.alloc (.cells #[.bool (decide (q.num < 0)), .slice a5 (dig b64 q.num.natAbs).length c5, .slice a6 (dig b64 (dn q.den)).length c6] 54))).alloc (Nat.le_refl _) (.cells #[.int .i64 0, .int .i64 2, .int .i64 6, .int .i64 1, .int .i64 0, .int .i64 10] 61)
 have hQ5 := blk_keep hQ hal5 (blk_lt hQ)
 have hP5 := blk_keep hP4 hal5 (blk_lt hP4)
 have hx5 := ext_trans hx4 hal5
 have HVA5 := Lib.hid (HVA4.out.below hal5)
 clear hQ hP4 hx4 hal5 HVA4
 go_wp2_with fail
 refine (HW.out _ _ HCA.out).mono ?_
 rintro e w6 ⟨vt, rfl, hvt, hb6⟩
 obtain ⟨ao, cap, rfl, hB⟩ := hvt
 obtain ⟨b, off, rfl, hbl, hBB⟩ := hB (by simp)
 obtain ⟨_, hy, _, _⟩ := hBB 1 (by simp)
 have hy2 : w6.cell? ⟨b, off + 4 + 1, none⟩ = some (.int .i64 7) := hy
 have hQ6 := blk_keep hQ5 hb6 (blk_lt hQ5)
 have hP6 := blk_keep hP5 hb6 (blk_lt hP5)
 have hx6 := ext_trans hx5 hb6
 have HVA6 := Lib.hid (HVA5.out.below hb6)
 have p0 := blk_cell hP6 0 (.int .i64 10) rfl
 have p1 := blk_cell hP6 1 (.int .i64 (-5)) rfl
 have q0 := blk_cell hQ6 0 (.bool (decide (q.num < 0))) rfl
 have q1 := blk_cell hQ6 1 (.slice a5 (dig b64 q.num.natAbs).length c5) rfl
 have q2 := blk_cell hQ6 2 (.slice a6 (dig b64 (dn q.den)).length c6) rfl
 clear hQ5 hP5 hx5 hb6 HVA5 HCA hQ6 hP6 hBB hB hy
 go_wp2_with fail
 refine (HX.out _ _ HVA6.out).mono ?_
 rintro e w7 ⟨rfl, hb7⟩
 have hy3 := (hb7.cell (p := ⟨b, off + 4 + 1, none⟩) hbl).trans hy2
 have hx7 := ext_trans hx6 hb7
 clear p0 p1 q0 q1 q2 hy2 hx6 hb7
 go_wp2_with fail
 go_ret
 exact ⟨rfl, hx7⟩

end Go.Proofs.YtofijjomfhmbjaaGreat

namespace Go.Proofs.YtofijjomfhmbjaaGreat
open Go.RowKit

theorem IsRat.al {w : World} {v : Value} {q : Rat} {p : Obj} (h : IsRat w v q) : IsRat (w.alloc p) v q := h.below ((Below.refl _ _).alloc (Nat.le_refl _) _)
end Go.Proofs.YtofijjomfhmbjaaGreat

namespace Go.Proofs.YtofijjomfhmbjaaGreat
open Go.RowKit

theorem cross_cast (a b c : Pt) : ((b.1 : Rat) - (a.1 : Rat)) * ((c.2 : Rat) - (a.2 : Rat)) - ((b.2 : Rat) - (a.2 : Rat)) * ((c.1 : Rat) - (a.1 : Rat)) = ((crossI a b c : Int) : Rat) := by
 unfold crossI
 rw [Rat.intCast_sub, Rat.intCast_mul, Rat.intCast_mul, Rat.intCast_sub, Rat.intCast_sub, Rat.intCast_sub, Rat.intCast_sub]
end Go.Proofs.YtofijjomfhmbjaaGreat

namespace Go.Proofs.YtofijjomfhmbjaaGreat
open Go.RowKit

/-! The plain part: the reference's tests of a course. -/
set_option maxHeartbeats 1000000 in
theorem rwithin_any (x m : Int) (w : World) (hm : 0 ≤ m ∧ m ≤ 4398046511104) : Calls Tryz.prog 39 #[.int .i64 x, .int .i64 m] w (RetBool (inL x (-m) m) w) := by
 have en : IntKind.i64.wrap (-m) = -m := IntWalk.i64_in _ (by omega)
 by_cases h1 : -m ≤ x
 ·
  by_cases h2 : x ≤ m
  ·
   have Hr : Hid (inL x (-m) m = true) := by show _ = _; simp [inL, h1, h2]
   have t1 : decide (x ≥ -m) = true := decide_eq_true h1
   have t2 : decide (x ≤ m) = true := decide_eq_true h2
   clear h1 h2
   go_enter Tryz.func39, Tryz.ntmps39
   go_wp2_with fail
   go_ret
   exact ⟨by rw [Hr.out]; rfl, Below.refl _ _⟩
  ·
   have Hr : Hid (inL x (-m) m = false) := by show _ = _; simp [inL, h1, h2]
   have t1 : decide (x ≥ -m) = true := decide_eq_true h1
   have t2 : decide (x ≤ m) = false := decide_eq_false h2
   clear h1 h2
   go_enter Tryz.func39, Tryz.ntmps39
   go_wp2_with fail
   go_ret
   exact ⟨by rw [Hr.out]; rfl, Below.refl _ _⟩
 ·
  have Hr : Hid (inL x (-m) m = false) := by show _ = _; simp [inL, h1]
  have t1 : decide (x ≥ -m) = false := decide_eq_false h1
  clear h1
  go_enter Tryz.func39, Tryz.ntmps39
  go_wp2_with fail
  go_ret
  exact ⟨by rw [Hr.out]; rfl, Below.refl _ _⟩

def crsCells : List Crs → List Value
 | [] => []
 | c :: l => .int .i64 c.first :: .int .i64 c.tows :: .int .i64 c.width :: .int .i64 c.gap :: .int .i64 c.from_ :: .int .i64 c.to_ :: crsCells l
theorem crsCells_get (ls : List Crs) : ∀ i, i < ls.length → (crsCells ls)[i * 6]? = some (.int .i64 (ls.getD i crs0).first) ∧ (crsCells ls)[i * 6 + 1]? = some (.int .i64 (ls.getD i crs0).tows) ∧ (crsCells ls)[i * 6 + 2]? = some (.int .i64 (ls.getD i crs0).width) ∧ (crsCells ls)[i * 6 + 3]? = some (.int .i64 (ls.getD i crs0).gap) ∧ (crsCells ls)[i * 6 + 4]? = some (.int .i64 (ls.getD i crs0).from_) ∧ (crsCells ls)[i * 6 + 5]? = some (.int .i64 (ls.getD i crs0).to_) := by
 induction ls with
 | nil => intro i hi; simp at hi
 | cons r l ih =>
  intro i hi
  cases i with
  | zero => simp [crsCells]
  | succ i =>
   have := ih i (by simpa using hi)
   simpa [crsCells, Nat.succ_mul] using this
theorem CrsOf.ofRow {w : World} {base : Nat} {e : TypeId} {v : Value} {ls : List Crs} (h : LRow w base e 6 v ls.length (crsCells ls)) : CrsOf w v ls := by
 rcases Nat.eq_zero_or_pos ls.length with h0 | hp
 ·
  rcases h.1.2 with ⟨rfl, _⟩ | ⟨g, cap, cur, rfl, _⟩
  ·
   exact ⟨none, 0, by rw [h0], fun h => absurd h (by omega)⟩
  ·
   exact ⟨_, _, rfl, fun h => absurd h (by omega)⟩
 ·
  obtain ⟨g, cap, rfl⟩ := ownsRow_some h.1 hp
  have hc : ∀ j u, (crsCells ls)[j]? = some u → w.cell? ((⟨g, 0, none⟩ : Addr).add j) = some u := h.1.cells (g := g) rfl
  have hlt : g < w.heap.size := (h.lt rfl).1
  refine ⟨_, _, rfl, fun _ => ⟨g, 0, rfl, hlt, fun i hi => ?_⟩⟩
  obtain ⟨h0, h1, h2, h3, h4, h5⟩ := crsCells_get ls i hi
  have ea : ∀ j, (⟨g, 0, none⟩ : Addr).add j = ⟨g, 0 + j, none⟩ := fun j => by unfold Addr.add; split <;> simp_all
  refine ⟨?_, ?_, ?_, ?_, ?_, ?_⟩
  ·
   rw [← ea]; exact hc _ _ h0
  all_goals rw [Nat.add_assoc, ← ea]
  ·
   exact hc _ _ h1
  ·
   exact hc _ _ h2
  ·
   exact hc _ _ h3
  ·
   exact hc _ _ h4
  ·
   exact hc _ _ h5
end Go.Proofs.YtofijjomfhmbjaaGreat

namespace Go.Proofs.YtofijjomfhmbjaaGreat
open Go.RowKit

def FrcAt (R : World → Value → Rat → Prop) (w : World) (b o : Nat) (q : Rat) : Prop :=
 ∃ v0 vn vd, w.cell? ⟨b, o, none⟩ = some v0 ∧ w.cell? ⟨b, o + 1, none⟩ = some vn ∧ w.cell? ⟨b, o + 2, none⟩ = some vd ∧ R w (.agg #[v0, vn, vd]) q
def FrcsOf (R : World → Value → Rat → Prop) (w : World) (v : Value) (qs : List Rat) : Prop :=
 ∃ ao cap, v = .slice ao qs.length cap ∧ (0 < qs.length → ∃ b off, ao = some ⟨b, off, none⟩ ∧ b < w.heap.size ∧ ∀ i, i < qs.length → FrcAt R w b (off + i * 3) (qs.getD i 0))
theorem FrcAt.below {R : World → Value → Rat → Prop} (hR : ∀ w w' v q, R w v q → Below w.heap.size w w' → R w' v q) {w w' : World} {b o : Nat} {q : Rat} (h : FrcAt R w b o q) (hb : Below w.heap.size w w') (hl : b < w.heap.size) : FrcAt R w' b o q := by
 obtain ⟨v0, vn, vd, h0, h1, h2, h4⟩ := h
 have c : ∀ j v, w.cell? ⟨b, j, none⟩ = some v → w'.cell? ⟨b, j, none⟩ = some v := fun j v h => (hb.cell (p := ⟨b, j, none⟩) hl).trans h
 exact ⟨v0, vn, vd, c _ _ h0, c _ _ h1, c _ _ h2, hR _ _ _ _ h4 hb⟩
theorem FrcsOf.below {R : World → Value → Rat → Prop} (hR : ∀ w w' v q, R w v q → Below w.heap.size w w' → R w' v q) {w w' : World} {v : Value} {qs : List Rat} (h : FrcsOf R w v qs) (hb : Below w.heap.size w w') : FrcsOf R w' v qs := by
 obtain ⟨ao, cap, rfl, h⟩ := h
 refine ⟨ao, cap, rfl, fun hl => ?_⟩
 obtain ⟨b, off, rfl, hlt, h⟩ := h hl
 exact ⟨b, off, rfl, Nat.lt_of_lt_of_le hlt hb.size, fun i hi => (h i hi).below hR hb hlt⟩

theorem dig32_le (n : Nat) : (dig b32 n).length ≤ 2 * (dig b64 n).length := by
 refine dig_length_le b32_two _ _ ?_
 rw [Nat.pow_mul, show b32 ^ 2 = b64 from by unfold b32 b64; decide]
 rcases Nat.lt_or_ge n (b64 ^ (dig b64 n).length) with h | h
 ·
  exact h
 ·
  exfalso
  have h0 : n / b64 ^ (dig b64 n).length ≠ 0 := by
   have hp : 0 < b64 ^ (dig b64 n).length := Nat.pow_pos (by unfold b64; omega)
   have := Nat.div_pos h hp
   omega
  have := (dig_length_gt b64_two (dig b64 n).length n).2 h0
  omega
theorem szQ_of {x : Rat} {k : Nat} (h : szR x k) : szQ x (2 * k) := ⟨Nat.le_trans (dig32_le _) (by have := h.1; omega), Nat.le_trans (dig32_le _) (by have := h.2; omega)⟩

end Go.Proofs.YtofijjomfhmbjaaGreat

namespace Go.Proofs.YtofijjomfhmbjaaGreat

structure Rn where
 ph : Int
 be : Int
 mi : Int
 wa : Int
 l0 : Bool
 l1 : Bool
 l2 : Bool
 te : Bool
structure Ru where
 m0 : Int
 m1 : Int
 m2 : Int
 pa : Int
 t00 : Int
 t01 : Int
 t02 : Int
 t10 : Int
 t11 : Int
 t12 : Int
 t20 : Int
 t21 : Int
 t22 : Int

def Ru.mn (r : Ru) (p : Int) : Int := if p = 1 then r.m0 else if p = 2 then r.m1 else r.m2
def Ru.tb (r : Ru) (p : Int) (d : Nat) : Int :=
 if p = 1 then (if d = 0 then r.t00 else if d = 1 then r.t01 else r.t02)
 else if p = 2 then (if d = 0 then r.t10 else if d = 1 then r.t11 else r.t12)
 else (if d = 0 then r.t20 else if d = 1 then r.t21 else r.t22)
def Rn.lost (x : Rn) (d : Nat) : Bool := if d = 0 then x.l0 else if d = 1 then x.l1 else x.l2
def Rn.lose (x : Rn) (d : Nat) (b : Bool) : Rn := if d = 0 then { x with l0 := b } else if d = 1 then { x with l1 := b } else { x with l2 := b }

def inR (n lo hi : Int) : Bool := decide (lo ≤ n) && decide (n ≤ hi)
structure GoodRules (r : Ru) : Prop where
 pa : 0 ≤ r.pa ∧ r.pa ≤ 256
 m0 : 1 ≤ r.m0 ∧ r.m0 ≤ 256
 m1 : 1 ≤ r.m1 ∧ r.m1 ≤ 256
 m2 : 1 ≤ r.m2 ∧ r.m2 ≤ 256
 t00 : 0 ≤ r.t00 ∧ r.t00 ≤ 3
 t01 : 0 ≤ r.t01 ∧ r.t01 ≤ 3
 t02 : 0 ≤ r.t02 ∧ r.t02 ≤ 3
 t10 : 0 ≤ r.t10 ∧ r.t10 ≤ 3
 t11 : 0 ≤ r.t11 ∧ r.t11 ≤ 3
 t12 : 0 ≤ r.t12 ∧ r.t12 ≤ 3
 t20 : 0 ≤ r.t20 ∧ r.t20 ≤ 3
 t21 : 0 ≤ r.t21 ∧ r.t21 ≤ 3
 t22 : 0 ≤ r.t22 ∧ r.t22 ≤ 3
theorem GoodRules.mn {r : Ru} (h : GoodRules r) (p : Int) : 1 ≤ r.mn p ∧ r.mn p ≤ 256 := by
 unfold Ru.mn
 split
 ·
  exact h.m0
 ·
  split
  ·
   exact h.m1
  ·
   exact h.m2
theorem GoodRules.tb {r : Ru} (h : GoodRules r) (p : Int) (d : Nat) : 0 ≤ r.tb p d ∧ r.tb p d ≤ 3 := by
 have ⟨_, _, _, _, a, b, c, d', e, f, g, i, j⟩ := h
 unfold Ru.tb
 split
 ·
  split
  ·
   exact a
  ·
   split
   ·
    exact b
   ·
    exact c
 ·
  split
  ·
   split
   ·
    exact d'
   ·
    split
    ·
     exact e
    ·
     exact f
  ·
   split
   ·
    exact g
   ·
    split
    ·
     exact i
    ·
     exact j

def goes (p : Int) : Bool := inR p 1 3
def heldAt (r : Ru) (x : Rn) (p : Int) : Bool := x.l0 && decide (r.tb p 0 = 2) || (x.l1 && decide (r.tb p 1 = 2) || x.l2 && decide (r.tb p 2 = 2))
def right (r : Ru) (x : Rn) : Bool :=
 if inR x.ph 0 7 then
  if x.ph = 4 then inR x.be 1 3 && (inR x.mi 0 (r.mn x.be - 1) && (inR x.wa 0 r.pa && heldAt r x x.be))
  else if x.be = 0 ∧ x.wa = 0 then (if goes x.ph then inR x.mi 0 (r.mn x.ph - 1) else decide (x.mi = 0))
  else false
 else false
def Right (r : Ru) (x : Rn) : Prop :=
 (x.ph = 4 ∧ (1 ≤ x.be ∧ x.be ≤ 3) ∧ (0 ≤ x.mi ∧ x.mi < r.mn x.be) ∧ (0 ≤ x.wa ∧ x.wa ≤ r.pa) ∧ heldAt r x x.be = true)
 ∨ (x.be = 0 ∧ x.wa = 0 ∧ (1 ≤ x.ph ∧ x.ph ≤ 3) ∧ (0 ≤ x.mi ∧ x.mi < r.mn x.ph))
 ∨ (x.be = 0 ∧ x.wa = 0 ∧ x.mi = 0 ∧ (x.ph = 0 ∨ x.ph = 5 ∨ x.ph = 6 ∨ x.ph = 7))
def ended (x : Rn) (p : Int) : Rn := { x with ph := p, be := 0, mi := 0, wa := 0 }
def inPh (x : Rn) : Int := if x.ph = 4 then x.be else x.ph
def meet (r : Ru) (x : Rn) (d : Nat) : Rn :=
 if goes (inPh x) then
  if r.tb (inPh x) d = 3 then ended x 7
  else if r.tb (inPh x) d = 1 then { x with te := true }
  else if r.tb (inPh x) d = 2 then (if goes x.ph then { x with be := x.ph, ph := 4 } else x)
  else x
 else x
def meetIf (r : Ru) (x : Rn) (d : Nat) : Rn := if x.lost d then meet r x d else x
def begin (r : Ru) (x : Rn) (p : Int) : Rn := meetIf r (meetIf r (meetIf r { x with ph := p, mi := 0 } 0) 1) 2
def tick (r : Ru) (x : Rn) : Rn :=
 if x.ph = 4 then (if r.pa < x.wa + 1 then ended { x with wa := x.wa + 1 } 7 else { x with wa := x.wa + 1 })
 else if goes x.ph then
  if x.mi + 1 < r.mn x.ph then { x with mi := x.mi + 1 }
  else if x.ph < 3 then begin r { x with mi := x.mi + 1 } (x.ph + 1)
  else if x.te then ended { x with mi := x.mi + 1 } 6
  else ended { x with mi := x.mi + 1 } 5
 else x
def dOf (e : Int) : Nat := ((e - 2) / 2).toNat
def lostOf (e : Int) : Bool := decide (e % 2 = 0)
def unheld (r : Ru) (x : Rn) : Rn := if x.ph = 4 ∧ heldAt r x x.be = false then { x with ph := x.be, be := 0, wa := 0 } else x
def next (r : Ru) (x : Rn) (e : Int) : Option Rn :=
 if e = 0 then some (tick r x)
 else if e = 1 then (if x.ph = 0 then some (begin r { x with te := false } 1) else none)
 else if inR x.ph 0 4 = false ∨ x.lost (dOf e) = lostOf e then none
 else if lostOf e then some (meet r (x.lose (dOf e) true) (dOf e))
 else some (unheld r (x.lose (dOf e) false))
end Go.Proofs.YtofijjomfhmbjaaGreat

namespace Go.Proofs.YtofijjomfhmbjaaGreat

theorem Right.wa {r : Ru} {x : Rn} (h : Right r x) : x.ph ≠ 4 → x.wa = 0 := by
 rcases h with ⟨a, b, c, d, e⟩ | ⟨a, b, c, d⟩ | ⟨a, b, c, d⟩ <;> omega
end Go.Proofs.YtofijjomfhmbjaaGreat

namespace Go.Proofs.YtofijjomfhmbjaaGreat
open Go.RowKit

theorem below1 (w : World) (o : Obj) : Below w.heap.size w (w.alloc o) := (Below.refl w.heap.size w).alloc (Nat.le_refl _) o
end Go.Proofs.YtofijjomfhmbjaaGreat

namespace Go.Proofs.YtofijjomfhmbjaaGreat
open Go.RowKit

def hB (r : Ru) (x : Rn) (p : Int) (d : Nat) : Bool := x.lost d && decide (r.tb p d = 2)
end Go.Proofs.YtofijjomfhmbjaaGreat

namespace Go.Proofs.YtofijjomfhmbjaaGreat
open Go.RowKit

def IntsOf (w : World) (v : Value) (es : List Int) : Prop :=
 ∃ ao cap, v = .slice ao es.length cap ∧ (0 < es.length → ∃ b off, ao = some ⟨b, off, none⟩ ∧ b < w.heap.size ∧ ∀ i, i < es.length → w.cell? ⟨b, off + i, none⟩ = some (.int .i64 (es.getD i 0)))
theorem IntsOf.below {w w' : World} {v : Value} {es : List Int} (h : IntsOf w v es) (hb : Below w.heap.size w w') : IntsOf w' v es := by
 obtain ⟨ao, cap, rfl, h⟩ := h
 refine ⟨ao, cap, rfl, fun hl => ?_⟩
 obtain ⟨b, off, rfl, hlt, h⟩ := h hl
 exact ⟨b, off, rfl, Nat.lt_of_lt_of_le hlt hb.size, fun i hi => (hb.cell (p := ⟨b, off + i, none⟩) hlt).trans (h i hi)⟩
end Go.Proofs.YtofijjomfhmbjaaGreat

namespace Go.Proofs.YtofijjomfhmbjaaGreat
open Go.RowKit

structure R3 where
 b : Bool
 a : Option Addr
 n : Nat
 c : Nat
 d : Option Addr
 m : Nat
 e : Nat
abbrev R3.arr (x : R3) : Array Value := #[.bool x.b, .slice x.a x.n x.c, .slice x.d x.m x.e]
abbrev R3.val (x : R3) : Value := .agg #[.bool x.b, .slice x.a x.n x.c, .slice x.d x.m x.e]
abbrev rngV (x y : R3) : Value := .agg #[.bool x.b, .slice x.a x.n x.c, .slice x.d x.m x.e, .bool y.b, .slice y.a y.n y.c, .slice y.d y.m y.e]
def r30 : R3 := ⟨false, none, 0, 0, none, 0, 0⟩
theorem IsRat.open3 {w : World} {v : Value} {q : Rat} (h : IsRat w v q) : ∃ x : R3, v = x.val := by
 obtain ⟨a1, c1, a2, c2, rfl, _, _⟩ := h.opened
 exact ⟨⟨_, _, _, _, _, _, _⟩, rfl⟩
def IsRng (w : World) (v : Value) (lo hi : Rat) : Prop := ∃ x y : R3, v = rngV x y ∧ IsRat w x.val lo ∧ IsRat w y.val hi
theorem IsRng.below {w w' : World} {v : Value} {lo hi : Rat} (h : IsRng w v lo hi) (hb : Below w.heap.size w w') : IsRng w' v lo hi := by
 obtain ⟨x, y, rfl, h1, h2⟩ := h
 exact ⟨x, y, rfl, h1.below hb, h2.below hb⟩
theorem IsRat.setj {w : World} {v : Value} {q : Rat} {B T : Nat} {cs : Array Value} (h : IsRat w v q) (hB : w.heap[B]? = some (.cells cs T (0, 0))) (hn : noInt cs) (j : Nat) (u : Value) : IsRat (w.setCell ⟨B, j, none⟩ u) v q := by
 obtain ⟨vn, vd, rfl, h1, h2⟩ := h
 exact ⟨vn, vd, rfl, IsRow.set_other h1 hB hn j u, IsRow.set_other h2 hB hn j u⟩
theorem ni3 (b1 : Bool) (a1 : Option Addr) (n1 c1 : Nat) (d1 : Option Addr) (m1 e1 : Nat) : noInt #[.bool b1, .slice a1 n1 c1, .slice d1 m1 e1] := by
 intro i k x
 match i with
 | 0 => simp
 | 1 => simp
 | 2 => simp
 | i + 3 => simp
theorem set3r {w : World} {B T : Nat} {p x : R3} (h : w.heap[B]? = some (.cells #[.bool p.b, .slice p.a p.n p.c, .slice p.d p.m p.e] T (0, 0))) : ((((w.setCell ⟨B, 0, none⟩ (.bool x.b)).setCell ⟨B, 1, none⟩ (.slice x.a x.n x.c)).setCell ⟨B, 2, none⟩ (.slice x.d x.m x.e))).heap[B]? = some (.cells #[.bool x.b, .slice x.a x.n x.c, .slice x.d x.m x.e] T (0, 0)) := by
 have h0 : (w.setCell ⟨B, 0, none⟩ (.bool x.b)).heap[B]? = some (.cells #[.bool x.b, .slice p.a p.n p.c, .slice p.d p.m p.e] T (0, 0)) := blk_set h 0 _
 have h1 : ((w.setCell ⟨B, 0, none⟩ (.bool x.b)).setCell ⟨B, 1, none⟩ (.slice x.a x.n x.c)).heap[B]? = some (.cells #[.bool x.b, .slice x.a x.n x.c, .slice p.d p.m p.e] T (0, 0)) := blk_set h0 1 _
 have h2 : (((w.setCell ⟨B, 0, none⟩ (.bool x.b)).setCell ⟨B, 1, none⟩ (.slice x.a x.n x.c)).setCell ⟨B, 2, none⟩ (.slice x.d x.m x.e)).heap[B]? = some (.cells #[.bool x.b, .slice x.a x.n x.c, .slice x.d x.m x.e] T (0, 0)) := blk_set h1 2 _
 exact h2
theorem IsRat.set3r {w : World} {v : Value} {r : Rat} {B T : Nat} {p x : R3} (i : IsRat w v r) (h : w.heap[B]? = some (.cells #[.bool p.b, .slice p.a p.n p.c, .slice p.d p.m p.e] T (0, 0))) : IsRat ((((w.setCell ⟨B, 0, none⟩ (.bool x.b)).setCell ⟨B, 1, none⟩ (.slice x.a x.n x.c)).setCell ⟨B, 2, none⟩ (.slice x.d x.m x.e))) v r := by
 have h0 : (w.setCell ⟨B, 0, none⟩ (.bool x.b)).heap[B]? = some (.cells #[.bool x.b, .slice p.a p.n p.c, .slice p.d p.m p.e] T (0, 0)) := blk_set h 0 _
 have h1 : ((w.setCell ⟨B, 0, none⟩ (.bool x.b)).setCell ⟨B, 1, none⟩ (.slice x.a x.n x.c)).heap[B]? = some (.cells #[.bool x.b, .slice x.a x.n x.c, .slice p.d p.m p.e] T (0, 0)) := blk_set h0 1 _
 have h2 : (((w.setCell ⟨B, 0, none⟩ (.bool x.b)).setCell ⟨B, 1, none⟩ (.slice x.a x.n x.c)).setCell ⟨B, 2, none⟩ (.slice x.d x.m x.e)).heap[B]? = some (.cells #[.bool x.b, .slice x.a x.n x.c, .slice x.d x.m x.e] T (0, 0)) := blk_set h1 2 _
 have i0 := i.setj h (by exact ni3 _ _ _ _ _ _ _) 0 (.bool x.b)
 have i1 := i0.setj h0 (by exact ni3 _ _ _ _ _ _ _) 1 (.slice x.a x.n x.c)
 have i2 := i1.setj h1 (by exact ni3 _ _ _ _ _ _ _) 2 (.slice x.d x.m x.e)
 exact i2
theorem below3r {n : Nat} {w0 w : World} {B : Nat} {x : R3} (h : Below n w0 w) (hB : n ≤ B) : Below n w0 ((((w.setCell ⟨B, 0, none⟩ (.bool x.b)).setCell ⟨B, 1, none⟩ (.slice x.a x.n x.c)).setCell ⟨B, 2, none⟩ (.slice x.d x.m x.e))) :=
 ((h.setCell (p := ⟨B, 0, none⟩) hB _).setCell (p := ⟨B, 1, none⟩) hB _).setCell (p := ⟨B, 2, none⟩) hB _
theorem fac3 {w : World} {B T : Nat} {x : R3} (h : w.heap[B]? = some (.cells #[.bool x.b, .slice x.a x.n x.c, .slice x.d x.m x.e] T (0, 0))) : w.cell? ⟨B, 0, none⟩ = some (.bool x.b) ∧ w.cell? ⟨B, 1, none⟩ = some (.slice x.a x.n x.c) ∧ w.cell? ⟨B, 2, none⟩ = some (.slice x.d x.m x.e) ∧ w.frozen? ⟨B, 0, none⟩ = false ∧ w.frozen? ⟨B, 1, none⟩ = false ∧ w.frozen? ⟨B, 2, none⟩ = false :=
 ⟨blk_cell h 0 _ rfl, blk_cell h 1 _ rfl, blk_cell h 2 _ rfl, blk_frozen h 0, blk_frozen h 1, blk_frozen h 2⟩
end Go.Proofs.YtofijjomfhmbjaaGreat

namespace Go.Proofs.YtofijjomfhmbjaaGreat
open Go.RowKit

theorem szQ_mono {x : Rat} {j k : Nat} (h : szQ x j) (hjk : j ≤ k) : szQ x k := ⟨Nat.le_trans h.1 hjk, Nat.le_trans h.2 hjk⟩
theorem IsR.open3 {w : World} {v : Value} {q : Rat} (h : IsR w v q) : ∃ x : R3, v = x.val := by
 obtain ⟨d', a1, c1, a2, c2, rfl, _⟩ := h.opened
 exact ⟨⟨_, _, _, _, _, _, _⟩, rfl⟩
end Go.Proofs.YtofijjomfhmbjaaGreat

namespace Go.Proofs.YtofijjomfhmbjaaGreat
open Go.RowKit

def FrcRow (R : World → Value → Rat → Prop) (w : World) (xs : List Value) (es : List Rat) : Prop :=
 xs.length = es.length * 3 ∧ ∀ j, j < es.length → ∃ v0 vn vd, xs[j * 3]? = some v0 ∧ xs[j * 3 + 1]? = some vn ∧ xs[j * 3 + 2]? = some vd ∧ R w (.agg #[v0, vn, vd]) (es.getD j 0)
theorem FrcRow.mono {R : World → Value → Rat → Prop} {w w' : World} {xs : List Value} {es : List Rat} (h : FrcRow R w xs es) (hr : ∀ v q, R w v q → R w' v q) : FrcRow R w' xs es :=
 ⟨h.1, fun j hj => by obtain ⟨v0, vn, vd, h0, h1, h2, h4⟩ := h.2 j hj; exact ⟨v0, vn, vd, h0, h1, h2, hr _ _ h4⟩⟩
theorem FrcRow.nil (R : World → Value → Rat → Prop) (w : World) : FrcRow R w [] [] := ⟨rfl, fun j hj => absurd hj (by simp)⟩
theorem FrcRow.snoc {R : World → Value → Rat → Prop} {w : World} {xs : List Value} {es : List Rat} (h : FrcRow R w xs es) {v0 vn vd : Value} {q : Rat} (hq : R w (.agg #[v0, vn, vd]) q) :
  FrcRow R w (xs ++ [v0, vn, vd]) (es ++ [q]) := by
 obtain ⟨hl, h⟩ := h
 refine ⟨by simp [hl]; omega, fun j hj => ?_⟩
 rcases Nat.lt_or_ge j es.length with h1 | h1
 ·
  obtain ⟨u0, un, ud, h0, h2, h3, h5⟩ := h j h1
  have e : ∀ k, k < 3 → (xs ++ [v0, vn, vd])[j * 3 + k]? = xs[j * 3 + k]? := fun k hk => List.getElem?_append_left (by omega)
  have e2 : (es ++ [q]).getD j 0 = es.getD j 0 := by simp [List.getD, List.getElem?_append_left h1]
  rw [e2]
  exact ⟨u0, un, ud, by rw [← h0]; exact e 0 (by omega), by rw [← h2]; exact e 1 (by omega), by rw [← h3]; exact e 2 (by omega), h5⟩
 ·
  obtain rfl : j = es.length := by simp at hj; omega
  have e : ∀ k, (xs ++ [v0, vn, vd])[es.length * 3 + k]? = ([v0, vn, vd] : List Value)[k]? := fun k => by rw [List.getElem?_append_right (by omega), hl]; congr 1; omega
  have e2 : (es ++ [q]).getD es.length 0 = q := by simp [List.getD]
  rw [e2]
  exact ⟨v0, vn, vd, e 0, e 1, e 2, hq⟩
theorem FrcsOf.ofRow {R : World → Value → Rat → Prop} {w : World} {base : Nat} {e : TypeId} {v : Value} {xs : List Value} {es : List Rat} (h : LRow w base e 3 v es.length xs) (ht : FrcRow R w xs es) : FrcsOf R w v es := by
 rcases Nat.eq_zero_or_pos es.length with h0 | hp
 ·
  rcases h.1.2 with ⟨rfl, _⟩ | ⟨g, cap, cur, rfl, _⟩
  ·
   exact ⟨none, 0, by rw [h0], fun h => absurd h (by omega)⟩
  ·
   exact ⟨_, _, rfl, fun h => absurd h (by omega)⟩
 ·
  obtain ⟨g, cap, rfl⟩ := ownsRow_some h.1 hp
  have hc : ∀ j u, xs[j]? = some u → w.cell? ((⟨g, 0, none⟩ : Addr).add j) = some u := h.1.cells (g := g) rfl
  have hlt : g < w.heap.size := (h.lt rfl).1
  refine ⟨_, _, rfl, fun _ => ⟨g, 0, rfl, hlt, fun i hi => ?_⟩⟩
  obtain ⟨v0, vn, vd, h0, h1, h2, h4⟩ := ht.2 i hi
  have ea : ∀ j, (⟨g, 0, none⟩ : Addr).add j = ⟨g, 0 + j, none⟩ := fun j => by unfold Addr.add; split <;> simp_all
  refine ⟨v0, vn, vd, ?_, ?_, ?_, h4⟩
  ·
   rw [← ea]; exact hc _ _ h0
  ·
   rw [show 0 + i * 3 + 1 = 0 + (i * 3 + 1) by omega, ← ea]; exact hc _ _ h1
  ·
   rw [show 0 + i * 3 + 2 = 0 + (i * 3 + 2) by omega, ← ea]; exact hc _ _ h2
structure TF (w0 w : World) (va vb : Value) (xsA xsB : List Value) (esA esB : List Rat) : Prop where
 x : Below w0.heap.size w0 w
 la : LRow w w0.heap.size 54 3 va esA.length xsA
 lb : LRow w w0.heap.size 70 3 vb esB.length xsB
 ta : FrcRow IsRat w xsA esA
 tb : FrcRow IsR w xsB esB
theorem TF.below {w0 w w' : World} {va vb : Value} {xsA xsB : List Value} {esA esB : List Rat} (h : TF w0 w va vb xsA xsB esA esB) (hb : Below w.heap.size w w') : TF w0 w' va vb xsA xsB esA esB :=
 ⟨ext_trans h.x hb, h.la.below hb, h.lb.below hb, h.ta.mono fun _ _ hr => hr.below hb, h.tb.mono fun _ _ hr => hr.below hb⟩
theorem TF.alloc {w0 w : World} {va vb : Value} {xsA xsB : List Value} {esA esB : List Rat} (h : TF w0 w va vb xsA xsB esA esB) (o : Obj) : TF w0 (w.alloc o) va vb xsA xsB esA esB := h.below ((Below.refl _ _).alloc (Nat.le_refl _) _)
end Go.Proofs.YtofijjomfhmbjaaGreat

namespace Go.Proofs.YtofijjomfhmbjaaGreat
open Go.RowKit

theorem IsR.setj {w : World} {v : Value} {q : Rat} {B T : Nat} {cs : Array Value} (h : IsR w v q) (hB : w.heap[B]? = some (.cells cs T (0, 0))) (hn : noInt cs) (j : Nat) (u : Value) : IsR (w.setCell ⟨B, j, none⟩ u) v q := by
 obtain ⟨vn, vd, d', rfl, h1, h2, h3⟩ := h
 exact ⟨vn, vd, d', rfl, IsRow.set_other h1 hB hn j u, IsRow.set_other h2 hB hn j u, h3⟩
theorem IsR.set3r {w : World} {v : Value} {r : Rat} {B T : Nat} {p x : R3} (i : IsR w v r) (h : w.heap[B]? = some (.cells #[.bool p.b, .slice p.a p.n p.c, .slice p.d p.m p.e] T (0, 0))) : IsR ((((w.setCell ⟨B, 0, none⟩ (.bool x.b)).setCell ⟨B, 1, none⟩ (.slice x.a x.n x.c)).setCell ⟨B, 2, none⟩ (.slice x.d x.m x.e))) v r := by
 have h0 : (w.setCell ⟨B, 0, none⟩ (.bool x.b)).heap[B]? = some (.cells #[.bool x.b, .slice p.a p.n p.c, .slice p.d p.m p.e] T (0, 0)) := blk_set h 0 _
 have h1 : ((w.setCell ⟨B, 0, none⟩ (.bool x.b)).setCell ⟨B, 1, none⟩ (.slice x.a x.n x.c)).heap[B]? = some (.cells #[.bool x.b, .slice x.a x.n x.c, .slice p.d p.m p.e] T (0, 0)) := blk_set h0 1 _
 have h2 : (((w.setCell ⟨B, 0, none⟩ (.bool x.b)).setCell ⟨B, 1, none⟩ (.slice x.a x.n x.c)).setCell ⟨B, 2, none⟩ (.slice x.d x.m x.e)).heap[B]? = some (.cells #[.bool x.b, .slice x.a x.n x.c, .slice x.d x.m x.e] T (0, 0)) := blk_set h1 2 _
 have i0 := i.setj h (by exact ni3 _ _ _ _ _ _ _) 0 (.bool x.b)
 have i1 := i0.setj h0 (by exact ni3 _ _ _ _ _ _ _) 1 (.slice x.a x.n x.c)
 have i2 := i1.setj h1 (by exact ni3 _ _ _ _ _ _ _) 2 (.slice x.d x.m x.e)
 exact i2
def IsRngQ (w : World) (v : Value) (lo hi : Rat) : Prop := ∃ x y : R3, v = rngV x y ∧ IsR w x.val lo ∧ IsR w y.val hi
theorem IsRngQ.below {w w' : World} {v : Value} {lo hi : Rat} (h : IsRngQ w v lo hi) (hb : Below w.heap.size w w') : IsRngQ w' v lo hi := by
 obtain ⟨x, y, rfl, h1, h2⟩ := h
 exact ⟨x, y, rfl, h1.below hb, h2.below hb⟩
def hiQ (a b : Rat) : Rat := if cmpR a b ≥ 0 then a else b
end Go.Proofs.YtofijjomfhmbjaaGreat
