/- Part g of the lemmas and walks. -/
import Derived.Test.YtofijjomfhmbjaaGreatAf

namespace Go.Proofs.YtofijjomfhmbjaaGreat
open Go.RowKit

theorem qsignB_any (z : Int) (v : Value) (w : World) (h : IsR w v (z : Rat)) : Calls Tryz.prog 22 #[v] w (RetInt (sgI z) w) := by
 obtain ⟨d', a1, c1, a2, c2, rfl, _⟩ := h.opened
 rw [← sgnI_int]
 exact qsign_any _ _ _ _ _ _ _ _ (fun hb => by have := of_decide_eq_true hb; omega)

/-! ### Outline: triples i < j < k, i first -/
def OkA (l : List Pt) (i : Nat) : Prop := ∀ i', i' < i → ∀ j, i' < j → ∀ k, j < k → k < l.length → 0 < crossI (ptAt l i') (ptAt l j) (ptAt l k)
def OkB (l : List Pt) (i j : Nat) : Prop := ∀ j', i < j' → j' < j → ∀ k, j' < k → k < l.length → 0 < crossI (ptAt l i) (ptAt l j') (ptAt l k)
def OkC (l : List Pt) (i j k : Nat) : Prop := ∀ k', j < k' → k' < k → 0 < crossI (ptAt l i) (ptAt l j) (ptAt l k')
theorem OkC.step {l : List Pt} {i j k : Nat} (h : OkC l i j k) (h1 : 0 < crossI (ptAt l i) (ptAt l j) (ptAt l k)) : OkC l i j (k + 1) := fun k' h2 h3 => by
 rcases Nat.lt_or_ge k' k with c | c
 ·
  exact h k' h2 c
 ·
  obtain rfl : k' = k := by omega
  exact h1
theorem OkB.step {l : List Pt} {i j : Nat} (h : OkB l i j) (h1 : OkC l i j l.length) : OkB l i (j + 1) := fun j' h2 h3 => by
 rcases Nat.lt_or_ge j' j with c | c
 ·
  exact h j' h2 c
 ·
  obtain rfl : j' = j := by omega
  exact h1
theorem OkA.step {l : List Pt} {i : Nat} (h : OkA l i) (h1 : OkB l i l.length) : OkA l (i + 1) := fun i' h2 j h3 k h4 h5 => by
 rcases Nat.lt_or_ge i' i with c | c
 ·
  exact h i' c j h3 k h4 h5
 ·
  obtain rfl : i' = i := by omega
  exact h1 j h3 (by omega) k h4 h5
theorem OkA.round {l : List Pt} (h : OkA l l.length) : Round3 l := fun k hk j hj i hi => h i (by omega) j hi k hj hk

set_option maxRecDepth 100000 in
set_option maxHeartbeats 8000000 in
theorem qoutline_any (l : List Pt) (v : Value) (w : World) (h : PairsOf w v l) : Calls Tryz.prog 6 #[v] w (RetInt (outErr l) w) := by
 obtain ⟨ao, cap, rfl, hE⟩ := h
 have HE := Lib.hid hE
 clear hE
 by_cases c1 : l.length < 3
 ·
  have Hr := Lib.hid (outErr_size l (.inl c1))
  have t1 : decide ((l.length : Int) < 3) = true := by simp; omega
  clear c1
  go_enter Tryz.func6, Tryz.ntmps6
  go_wp2_with fail
  go_ret
  exact ⟨by rw [Hr.out]; rfl, Below.refl _ _⟩
 ·
  have t1 : decide ((l.length : Int) < 3) = false := by simp; omega
  by_cases c2 : 16 < l.length
  ·
   have Hr := Lib.hid (outErr_size l (.inr c2))
   have t2 : decide ((l.length : Int) > 16) = true := by simp; omega
   clear c1 c2
   go_enter Tryz.func6, Tryz.ntmps6
   go_wp2_with fail
   go_ret
   exact ⟨by rw [Hr.out]; rfl, Below.refl _ _⟩
  ·
   have t2 : decide ((l.length : Int) > 16) = false := by simp; omega
   have hl16 : l.length ≤ 16 := by omega
   have Hsz : Hid (¬ (l.length < 3 ∨ 16 < l.length)) := by show ¬ _; omega
   clear c1 c2
   go_enter Tryz.func6, Tryz.ntmps6
   go_wp2_with fail
   clear t1 t2
   go_loopw [3] (fun iv wr => ∃ (i : Nat), i ≤ l.length ∧ iv = .int .i64 i ∧ Hid (ptsOk (l.take i) = true) ∧ Below w.heap.size w wr) (fun iv _ => l.length - (intOf iv).toNat)
   case atStart => exact ⟨0, Nat.zero_le _, rfl, rfl, Below.refl _ _⟩
   case round =>
    obtain ⟨i, hi, rfl, hF, hbel⟩ := hrel
    by_cases hlt : i < l.length
    ·
     obtain ⟨b, off, rfl, hbl, hEE⟩ := HE.out (by omega)
     obtain ⟨g0, g1⟩ := (hEE i hlt).below hbel hbl
     have hlt' : (i : Int) < l.length := by omega
     have hge' : (0 : Int) ≤ i := by omega
     have hbl2 : b < wr.heap.size := Nat.lt_of_lt_of_le hbl hbel.size
     have Hst : Hid (ptsOk (l.take (i + 1)) = ptOk (ptAt l i)) := by show _ = _; rw [ptsOk_take l i hlt, hF.out]; rfl
     have Hbad : Hid (ptOk (ptAt l i) = false → outErr l = 1) := fun h => outErr_arg l Hsz.out (by
      cases hp : ptsOk l with
      | false => rfl
      | true => rw [ptsOk_get hp i hlt] at h; cases h)
     have HRR : Hid (∀ W, Calls Tryz.prog 21 #[.agg #[.int .i64 (l.getD i (0, 0)).1, .int .i64 (l.getD i (0, 0)).2]] W (RetBool (ptOk (ptAt l i)) W)) := fun W => rright_any (ptAt l i) W
     clear hEE
     generalize ptOk (ptAt l i) = p at *
     generalize (l.getD i (0, 0)).1 = x at *
     generalize (l.getD i (0, 0)).2 = y at *
     go_wp2_with fail
     refine (HRR.out _).mono ?_
     rintro e w2 ⟨rfl, hb2⟩
     have hx2 := ext_trans hbel hb2
     cases p with
     | true =>
      go_wp2_with fail
      exact ⟨⟨i + 1, by omega, by go_num, Hst.out, hx2⟩, meas_up hlt⟩
     | false =>
      have Hr := Lib.hid (Hbad.out rfl)
      go_wp2_with fail
      go_ret
      exact ⟨by rw [Hr.out]; rfl, hx2⟩
    ·
     obtain rfl : i = l.length := by omega
     have Hok : Hid (ptsOk l = true) := by
      have h := hF.out
      rw [List.take_length] at h
      exact h
     clear hF
     go_wp2_with fail
     go_loopw [4] (fun iv wq => ∃ (i : Nat), i ≤ l.length ∧ iv = .int .i64 i ∧ Hid (OkA l i) ∧ Below w.heap.size w wq) (fun iv _ => l.length - (intOf iv).toNat)
     case atStart => exact ⟨0, Nat.zero_le _, rfl, fun i' hi' => absurd hi' (by omega), hbel⟩
     case round =>
      clear hbel
      obtain ⟨i, hi, rfl, hA, hbel⟩ := hrel
      generalize wr = wo at *
      by_cases hli : i < l.length
      ·
       have hli' : (i : Int) < l.length := by omega
       go_wp2_with fail
       go_loopw [5] (fun jv wq => ∃ (j : Nat), i + 1 ≤ j ∧ j ≤ l.length ∧ jv = .int .i64 j ∧ Hid (OkB l i j) ∧ Below w.heap.size w wq) (fun jv _ => l.length - (intOf jv).toNat)
       case atStart => exact ⟨i + 1, Nat.le_refl _, by omega, by go_num, fun j' h1 h2 => absurd h1 (by omega), hbel⟩
       case round =>
        clear hbel
        obtain ⟨j, hj1, hj, rfl, hB, hbel⟩ := hrel
        generalize wr = wp at *
        by_cases hlj : j < l.length
        ·
         have hlj' : (j : Int) < l.length := by omega
         go_wp2_with fail
         go_loopw [6] (fun kv wq => ∃ (k : Nat), j + 1 ≤ k ∧ k ≤ l.length ∧ kv = .int .i64 k ∧ Hid (OkC l i j k) ∧ Below w.heap.size w wq) (fun kv _ => l.length - (intOf kv).toNat)
         case atStart => exact ⟨j + 1, Nat.le_refl _, by omega, by go_num, fun k' h1 h2 => absurd h1 (by omega), hbel⟩
         case round =>
          clear hbel
          obtain ⟨k, hk1, hk, rfl, hC, hbel⟩ := hrel
          by_cases hlk : k < l.length
          ·
           obtain ⟨b, off, rfl, hbl, hLL⟩ := HE.out (by omega)
           obtain ⟨p0, p1⟩ := (hLL i (by omega)).below hbel hbl
           obtain ⟨p2, p3⟩ := (hLL j (by omega)).below hbel hbl
           obtain ⟨p4, p5⟩ := (hLL k (by omega)).below hbel hbl
           have hlk' : (k : Int) < l.length := by omega
           have hi0 : (0 : Int) ≤ i := by omega
           have hj0 : (0 : Int) ≤ j := by omega
           have hk0 : (0 : Int) ≤ k := by omega
           have hbl2 : b < wr.heap.size := Nat.lt_of_lt_of_le hbl hbel.size
           have HC : Hid (∀ W, Calls Tryz.prog 23 #[.agg #[.int .i64 (l.getD i (0, 0)).1, .int .i64 (l.getD i (0, 0)).2], .agg #[.int .i64 (l.getD j (0, 0)).1, .int .i64 (l.getD j (0, 0)).2], .agg #[.int .i64 (l.getD k (0, 0)).1, .int .i64 (l.getD k (0, 0)).2]] W (RetR ((crossI (ptAt l i) (ptAt l j) (ptAt l k) : Int) : Rat) W)) :=
            fun W => rcross_any (ptAt l i) (ptAt l j) (ptAt l k) W (ptsOk_get Hok.out i (by omega)) (ptsOk_get Hok.out j (by omega)) (ptsOk_get Hok.out k (by omega))
           have Hst : Hid (0 < crossI (ptAt l i) (ptAt l j) (ptAt l k) → OkC l i j (k + 1)) := fun h1 => hC.out.step h1
           have Hbad : Hid (¬ 0 < crossI (ptAt l i) (ptAt l j) (ptAt l k) → outErr l = 7) := fun h1 => outErr_order l Hsz.out Hok.out (fun hR => h1 (hR k hlk j (by omega) i (by omega)))
           generalize crossI (ptAt l i) (ptAt l j) (ptAt l k) = z at *
           generalize (l.getD i (0, 0)).1 = ax at *
           generalize (l.getD i (0, 0)).2 = ay at *
           generalize (l.getD j (0, 0)).1 = bx at *
           generalize (l.getD j (0, 0)).2 = by' at *
           generalize (l.getD k (0, 0)).1 = cx at *
           generalize (l.getD k (0, 0)).2 = cy at *
           have Hsg := Lib.hid (sgI_int z)
           have HSI := Lib.hid (qsignB_any z)
           clear hLL hA hB hC
           go_wp2_with fail
           go_region_held3 (fun w' => Below wr.heap.size wr w' ∧ w'.cell? ⟨b, off + i * 2, none⟩ = some (.int .i64 ax) ∧ w'.cell? ⟨b, off + i * 2 + 1, none⟩ = some (.int .i64 ay) ∧ w'.cell? ⟨b, off + j * 2, none⟩ = some (.int .i64 bx) ∧ w'.cell? ⟨b, off + j * 2 + 1, none⟩ = some (.int .i64 by') ∧ w'.cell? ⟨b, off + k * 2, none⟩ = some (.int .i64 cx) ∧ w'.cell? ⟨b, off + k * 2 + 1, none⟩ = some (.int .i64 cy))
            (first | exact ⟨(Below.refl _ _).drew, p0, p1, p2, p3, p4, p5⟩ | assumption | exact keepC6 (Nat.le_refl _) hbB (by assumption) | exact keepC6 (Nat.le_refl _) hbA (by assumption))
            (first
             | (go_at_call 23; refine (HC.out _).mono ?_; rintro e wA ⟨vA, rfl, hvA, hbA⟩)
             | (go_at_call 22; refine (HSI.out _ _ hvA).mono ?_; rintro e wB ⟨rfl, hbB⟩))
           rename_i hS
           have hx := ext_trans hbel hS.1
           clear hS p0 p1 p2 p3 p4 p5 hvA
           generalize sgI z = s at *
           by_cases hz : 0 < z
           ·
            have Hst2 := Lib.hid (Hst.out hz)
            have t7 : decide (s ≤ 0) = false := decide_eq_false (fun h => by have := Hsg.out.1 h; omega)
            rw [t7]
            clear hz
            go_wp2_with fail
            exact ⟨⟨k + 1, by omega, by omega, by go_num, Hst2.out, hx⟩, meas_up hlk⟩
           ·
            have Hr : Hid (outErr l = 7) := Hbad.out (by omega)
            have t7 : decide (s ≤ 0) = true := decide_eq_true (Hsg.out.2 (by omega))
            rw [t7]
            clear hz
            go_wp2_with fail
            go_ret
            exact ⟨by rw [Hr.out]; rfl, hx⟩
          ·
           obtain rfl : k = l.length := by omega
           go_wp2_with fail
           exact ⟨⟨j + 1, by omega, by omega, by go_num, hB.out.step hC.out, hbel⟩, meas_up hlj⟩
        ·
         obtain rfl : j = l.length := by omega
         go_wp2_with fail
         exact ⟨⟨i + 1, by omega, by go_num, hA.out.step hB.out, hbel⟩, meas_up hli⟩
      ·
       obtain rfl : i = l.length := by omega
       have Hr := Lib.hid (outErr_ok l Hsz.out Hok.out hA.out.round)
       go_wp2_with fail
       go_ret
       exact ⟨by rw [Hr.out]; rfl, hbel⟩

/-! ### span -/
def NumsOf (w : World) (v : Value) (xs : List Int) : Prop :=
 ∃ ao cap, v = .slice ao xs.length cap ∧ (0 < xs.length → ∃ b off, ao = some ⟨b, off, none⟩ ∧ b < w.heap.size ∧ ∀ i, i < xs.length → w.cell? ⟨b, off + i, none⟩ = some (.int .i64 (xs.getD i 0)))
theorem NumsOf.ofRow {w : World} {base : Nat} {e : TypeId} {v : Value} {xs : List Int} (h : LRow w base e 1 v xs.length (intC xs)) : NumsOf w v xs := by
 obtain ⟨ao, cap, rfl, _, _⟩ := h.capOk
 refine ⟨ao, cap, rfl, fun hp => ?_⟩
 obtain ⟨g, cap4, hv4⟩ := ownsRow_some h.1 hp
 simp only [Value.slice.injEq] at hv4
 obtain ⟨rfl, _, rfl⟩ := hv4
 exact ⟨g, 0, rfl, (h.lt rfl).1, fun i hi => by rw [Nat.zero_add]; exact h.cellV (intC_get hi)⟩
theorem NumsOf.below {w w' : World} {v : Value} {xs : List Int} (h : NumsOf w v xs) (hb : Below w.heap.size w w') : NumsOf w' v xs := by
 obtain ⟨ao, cap, rfl, h⟩ := h
 refine ⟨ao, cap, rfl, fun hl => ?_⟩
 obtain ⟨b, off, rfl, hlt, h⟩ := h hl
 exact ⟨b, off, rfl, Nat.lt_of_lt_of_le hlt hb.size, fun i hi => (hb.cell (p := ⟨b, off + i, none⟩) hlt).trans (h i hi)⟩

set_option maxRecDepth 100000 in
set_option maxHeartbeats 8000000 in
theorem qspan_any (xs : List Int) (v : Value) (w : World) (h : NumsOf w v xs) (h0 : 0 < xs.length) (h1 : xs.length ≤ 1000) : Calls Tryz.prog 24 #[v] w (fun e w' => e = .returned (.tuple #[.int .i64 (loF (fun i => xs.getD i 0) xs.length), .int .i64 (hiF (fun i => xs.getD i 0) xs.length)]) ∧ Below w.heap.size w w') := by
 obtain ⟨ao, cap, rfl, hE⟩ := h
 obtain ⟨b, off, rfl, hbl, hEE⟩ := hE h0
 have HE := Lib.hid hEE
 have g0 := hEE 0 h0
 rw [Nat.add_zero] at g0
 have hl0 : (0 : Int) < xs.length := by omega
 have hlne : ¬ xs = [] := fun h => by rw [h] at h0; exact absurd h0 (by simp)
 have HL0 : Hid (loF (fun i => xs.getD i 0) 0 = xs.getD 0 0 ∧ hiF (fun i => xs.getD i 0) 0 = xs.getD 0 0) := ⟨rfl, rfl⟩
 clear hEE hE
 generalize xs.getD 0 0 = x0 at *
 go_enter Tryz.func24, Tryz.ntmps24
 go_wp2_with fail
 go_region
 go_wp2_with fail
 go_loopw [4, 5, 6] (fun av bv iv wr => ∃ (i : Nat), i ≤ xs.length ∧ iv = .int .i64 i ∧ av = .int .i64 (loF (fun i => xs.getD i 0) i) ∧ bv = .int .i64 (hiF (fun i => xs.getD i 0) i) ∧ Below w.heap.size w wr) (fun _ _ iv _ => xs.length - (intOf iv).toNat)
 case atStart => exact ⟨0, Nat.zero_le _, rfl, by rw [HL0.out.1], by rw [HL0.out.2], (Below.refl _ _).drew⟩
 case round =>
  obtain ⟨i, hi, rfl, rfl, rfl, hbel⟩ := hrel
  by_cases hlt : i < xs.length
  ·
   have gi := (hbel.cell (p := ⟨b, off + i, none⟩) hbl).trans (HE.out i hlt)
   have hlt' : (i : Int) < xs.length := by omega
   have hge' : (0 : Int) ≤ i := by omega
   have HS : Hid (loF (fun i => xs.getD i 0) (i + 1) = min (loF (fun i => xs.getD i 0) i) (xs.getD i 0) ∧ hiF (fun i => xs.getD i 0) (i + 1) = max (hiF (fun i => xs.getD i 0) i) (xs.getD i 0)) := ⟨rfl, rfl⟩
   clear g0
   generalize loF (fun i => xs.getD i 0) i = lo at *
   generalize hiF (fun i => xs.getD i 0) i = hi' at *
   generalize xs.getD i 0 = x at *
   go_wp2_with fail
   go_region
   go_wp2_with fail
   exact ⟨⟨i + 1, by omega, by go_num, by rw [HS.out.1], by rw [HS.out.2], hbel.drew⟩, meas_up hlt⟩
  ·
   obtain rfl : i = xs.length := by omega
   go_wp2_with fail
   go_ret2
   exact ⟨rfl, hbel⟩

/-! ### Cut: two rows that grow together -/
structure TwoR (w0 w : World) (b0 n1 n2 : Nat) (vx vy : Value) (xs ys : List Value) : Prop where
 la : LRow w b0 3 1 vx n1 xs
 lb : LRow w b0 3 1 vy n2 ys
 ne : ∀ g, vx.ownBlock = some g → vy.ownBlock ≠ some g
 x : Below b0 w0 w
 hb : b0 ≤ w.heap.size
theorem TwoR.below {w0 w w' : World} {b0 n1 n2 : Nat} {vx vy : Value} {xs ys : List Value} (h : TwoR w0 w b0 n1 n2 vx vy xs ys) (hb : Below w.heap.size w w') : TwoR w0 w' b0 n1 n2 vx vy xs ys :=
 ⟨h.la.below hb, h.lb.below hb, h.ne, h.x.trans (hb.mono h.hb), Nat.le_trans h.hb hb.size⟩
theorem TwoR.appA {w0 w w' : World} {b0 n1 n2 m g cap : Nat} {vx vy : Value} {xs ys xs' : List Value} (h : TwoR w0 w b0 n1 n2 vx vy xs ys) (hl : LRow w' b0 3 1 (.slice (some ⟨g, 0, none⟩) m cap) m xs') (hgr : w.grownBy w' vx.ownBlock) (hat : vx.ownBlock = some g ∨ g = w.heap.size) : TwoR w0 w' b0 m n2 (.slice (some ⟨g, 0, none⟩) m cap) vy xs' ys := by
 refine ⟨hl, h.lb.grown hgr fun q hq he => h.ne q he.symm hq, fun q hq hq2 => ?_, h.x.grown hgr h.hb (fun k hk => (h.la.lt hk).2), Nat.le_trans h.hb hgr.size⟩
 simp [Value.ownBlock] at hq
 subst hq
 rcases hat with c | c
 ·
  exact h.ne _ c hq2
 ·
  have := (h.lb.lt hq2).1; omega
theorem TwoR.appB {w0 w w' : World} {b0 n1 n2 m g cap : Nat} {vx vy : Value} {xs ys ys' : List Value} (h : TwoR w0 w b0 n1 n2 vx vy xs ys) (hl : LRow w' b0 3 1 (.slice (some ⟨g, 0, none⟩) m cap) m ys') (hgr : w.grownBy w' vy.ownBlock) (hat : vy.ownBlock = some g ∨ g = w.heap.size) : TwoR w0 w' b0 n1 m vx (.slice (some ⟨g, 0, none⟩) m cap) xs ys' := by
 refine ⟨h.la.grown hgr fun q hq he => h.ne q hq he.symm, hl, fun q hq hq2 => ?_, h.x.grown hgr h.hb (fun k hk => (h.lb.lt hk).2), Nat.le_trans h.hb hgr.size⟩
 simp [Value.ownBlock] at hq2
 subst hq2
 rcases hat with c | c
 ·
  exact h.ne _ hq c
 ·
  have := (h.la.lt hq).1; omega
theorem grown_cell {w w' : World} {row : Option Nat} {B j : Nat} {v : Value} (hgr : w.grownBy w' row) (hB : B < w.heap.size) (hne : row ≠ some B) (h : w.cell? ⟨B, j, none⟩ = some v) : w'.cell? ⟨B, j, none⟩ = some v := by
 rw [← h]
 exact World.cell?_of_block (a := ⟨B, j, none⟩) (hgr.block B hB (fun e => hne e.symm))
def fstC (l : List (Int × Int)) (i : Nat) : List Int := (List.range i).map fun k => (l.getD k (0, 0)).1
def sndC (l : List (Int × Int)) (i : Nat) : List Int := (List.range i).map fun k => (l.getD k (0, 0)).2
theorem fstC_succ (l : List (Int × Int)) (i : Nat) : intC (fstC l (i + 1)) = intC (fstC l i) ++ [.int .i64 (l.getD i (0, 0)).1] := by simp [intC, fstC, List.range_succ]
theorem sndC_succ (l : List (Int × Int)) (i : Nat) : intC (sndC l (i + 1)) = intC (sndC l i) ++ [.int .i64 (l.getD i (0, 0)).2] := by simp [intC, sndC, List.range_succ]
theorem fstC_len (l : List (Int × Int)) (i : Nat) : (fstC l i).length = i := by simp [fstC]
theorem sndC_len (l : List (Int × Int)) (i : Nat) : (sndC l i).length = i := by simp [sndC]
theorem fstC_get (l : List (Int × Int)) {n k : Nat} (hk : k < n) : (fstC l n).getD k 0 = (l.getD k (0, 0)).1 := by simp [fstC, List.getD, hk]
theorem sndC_get (l : List (Int × Int)) {n k : Nat} (hk : k < n) : (sndC l n).getD k 0 = (l.getD k (0, 0)).2 := by simp [sndC, List.getD, hk]

set_option maxRecDepth 100000 in
set_option maxHeartbeats 16000000 in
theorem qcutO_any (l : List (Int × Int)) (v : Value) (w : World) (hz : outErr l = 0) (hv : PairsOf w v l) : Calls Tryz.prog 7 #[v] w (fun e w' => e = .returned (.agg #[.int .i64 (cutX l), .int .i64 (cutY l)]) ∧ Below w.heap.size w w') := by
 obtain ⟨ao, cap, rfl, hE⟩ := hv
 have HE := Lib.hid hE
 have hl3 := (outErr_zero hz).1
 have HPT : Hid (∀ i, i < l.length → (-4398046511104 ≤ (l.getD i (0, 0)).1 ∧ (l.getD i (0, 0)).1 ≤ 4398046511104) ∧ -4398046511104 ≤ (l.getD i (0, 0)).2 ∧ (l.getD i (0, 0)).2 ≤ 4398046511104) := fun i hi => outErr_pt hz i hi
 have HX : Hid (cutX l = hiF (fun i => (l.getD i (0, 0)).1) l.length - loF (fun i => (l.getD i (0, 0)).1) l.length) := by show _ = _; unfold cutX; rw [if_pos hz]
 have HY : Hid (cutY l = hiF (fun i => (l.getD i (0, 0)).2) l.length - loF (fun i => (l.getD i (0, 0)).2) l.length) := by show _ = _; unfold cutY; rw [if_pos hz]
 have hB0 := blk_new w #[.int .i64 0, .int .i64 0] 31
 have hal0 := (Below.refl w.heap.size w).alloc (Nat.le_refl _) (.cells #[.int .i64 0, .int .i64 0] 31)
 obtain ⟨iI, hiI, hzI0, hzI1, hzI2⟩ := info_parts info_int
 have hzd : ∀ u ∈ (Value.int .i64 0).cells.toList, noDig u := by
  intro u hu
  simp [Value.cells] at hu
  rw [hu]
  exact noDig_i64 0
 clear hE hz
 go_enter Tryz.func7, Tryz.ntmps7
 go_wp2_with fail
 generalize w.alloc (.cells #[.int .i64 0, .int .i64 0] 31) = w1 at *
 go_loopw [3, 4, 5] (fun xv yv iv wr => ∃ (i : Nat), i ≤ l.length ∧ iv = .int .i64 i ∧ Hid (TwoR w1 wr w1.heap.size i i xv yv (intC (fstC l i)) (intC (sndC l i)))) (fun _ _ iv _ => l.length - (intOf iv).toNat)
 case atStart => exact ⟨0, Nat.zero_le _, rfl, ⟨LRow.nil _ _ _ _, LRow.nil _ _ _ _, fun g h => by simp [Value.ownBlock] at h, Below.refl _ _, Nat.le_refl _⟩⟩
 case round =>
  obtain ⟨i, hi, rfl, HT⟩ := hrel
  by_cases hlt : i < l.length
  ·
   obtain ⟨b, off, rfl, hbl, hEE⟩ := HE.out (by omega)
   have hxw := hal0.trans (HT.out.x.mono hal0.size)
   obtain ⟨g0, g1⟩ := (hEE i hlt).below hxw hbl
   have hlt' : (i : Int) < l.length := by omega
   have hge' : (0 : Int) ≤ i := by omega
   have hbl1 : b < w1.heap.size := Nat.lt_of_lt_of_le hbl hal0.size
   have hbl2 : b < wr.heap.size := Nat.lt_of_lt_of_le hbl hxw.size
   have HF1 := Lib.hid (fstC_succ l i)
   have HS1 := Lib.hid (sndC_succ l i)
   have hbw := HT.out.hb
   clear hEE
   generalize (l.getD i (0, 0)).1 = x at *
   generalize (l.getD i (0, 0)).2 = y at *
   generalize intC (fstC l i) = xs at *
   generalize intC (sndC l i) = ys at *
   obtain ⟨aoX, capX, hxv, _, _⟩ := HT.out.la.capOk
   obtain ⟨aoY, capY, hyv, _, _⟩ := HT.out.lb.capOk
   subst hxv hyv
   have HLX : Hid (∀ q, (Value.slice aoX i capX).ownBlock = some q → q < wr.heap.size ∧ w1.heap.size ≤ q) := fun q hq => HT.out.la.lt hq
   have hA1 : Below wr.heap.size wr (wr.alloc (.cells #[.int .i64 x] 3)).drew := ((Below.refl _ _).alloc (Nat.le_refl _) _).drew
   have hB1 : Below wr.heap.size wr (wr.alloc (.cells #[.int .i64 y] 3)).drew := ((Below.refl _ _).alloc (Nat.le_refl _) _).drew
   have hA2 : Below wr.heap.size wr ((wr.alloc (.cells #[.int .i64 x] 3)).alloc (.cells #[.int .i64 y] 3)).drew := by
    have h := (Below.refl wr.heap.size wr).alloc (Nat.le_refl _) (.cells #[.int .i64 x] 3)
    exact (h.alloc h.size _).drew
   have hB2 : Below wr.heap.size wr ((wr.alloc (.cells #[.int .i64 y] 3)).alloc (.cells #[.int .i64 x] 3)).drew := by
    have h := (Below.refl wr.heap.size wr).alloc (Nat.le_refl _) (.cells #[.int .i64 y] 3)
    exact (h.alloc h.size _).drew
   have HT1 := Lib.hid (HT.out.below hA1)
   have HT12 := Lib.hid (HT.out.below hA2)
   have HT21 := Lib.hid (HT.out.below hB2)
   have hNA := blk_new wr #[.int .i64 x] 3
   have hNB := blk_new wr #[.int .i64 y] 3
   have HCA1 : Hid (∀ j u, [Value.int .i64 x][j]? = some u → (wr.alloc (.cells #[.int .i64 x] 3)).drew.cell? ((⟨wr.heap.size, 0, none⟩ : Addr).add j) = some u) := cell_one_new wr (.int .i64 x) 3
   have HCA2 : Hid (∀ j u, [Value.int .i64 x][j]? = some u → ((wr.alloc (.cells #[.int .i64 x] 3)).alloc (.cells #[.int .i64 y] 3)).drew.cell? ((⟨wr.heap.size, 0, none⟩ : Addr).add j) = some u) := by
    intro j u hu
    match j, hu with
    | 0, hu => simp at hu; subst hu; exact blk_cell (blk_keep hNA (((Below.refl _ _).alloc (Nat.le_refl _) (.cells #[.int .i64 y] 3)).drew) (blk_lt hNA)) 0 _ rfl
    | j + 1, hu => simp at hu
   have HCA3 : Hid (∀ j u, [Value.int .i64 x][j]? = some u → ((wr.alloc (.cells #[.int .i64 y] 3)).alloc (.cells #[.int .i64 x] 3)).drew.cell? ((⟨wr.heap.size + 1, 0, none⟩ : Addr).add j) = some u) := by
    have h := cell_one_new (wr.alloc (.cells #[.int .i64 y] 3)) (.int .i64 x) 3
    rw [World.size_alloc] at h
    exact h
   have hCB2 : ((wr.alloc (.cells #[.int .i64 x] 3)).alloc (.cells #[.int .i64 y] 3)).drew.cell? ⟨wr.heap.size + 1, 0, none⟩ = some (.int .i64 y) := by
    have h := blk_new (wr.alloc (.cells #[.int .i64 x] 3)) #[.int .i64 y] 3
    rw [World.size_alloc] at h
    exact blk_cell h 0 _ rfl
   have hCB3 : ((wr.alloc (.cells #[.int .i64 y] 3)).alloc (.cells #[.int .i64 x] 3)).drew.cell? ⟨wr.heap.size, 0, none⟩ = some (.int .i64 y) := blk_cell (blk_keep hNB (((Below.refl _ _).alloc (Nat.le_refl _) (.cells #[.int .i64 x] 3)).drew) (blk_lt hNB)) 0 _ rfl
   have HG1 : Hid (∀ W, Below wr.heap.size wr W → W.cell? ⟨b, off + i * 2, none⟩ = some (.int .i64 x) ∧ W.cell? ⟨b, off + i * 2 + 1, none⟩ = some (.int .i64 y)) := fun W h => ⟨(h.cell (p := ⟨b, off + i * 2, none⟩) hbl2).trans g0, (h.cell (p := ⟨b, off + i * 2 + 1, none⟩) hbl2).trans g1⟩
   have HCB2 := Lib.hid hCB2
   have HCB3 := Lib.hid hCB3
   have HBA1 := Lib.hid hA1
   have HBB1 := Lib.hid hB1
   have HBA2 := Lib.hid hA2
   have HBB2 := Lib.hid hB2
   clear hNA hNB hA1 hB1 hA2 hB2 hCB2 hCB3
   go_wp2_with fail
   go_region_held3 (fun w' => w'.cell? ⟨b, off + i * 2, none⟩ = some (.int .i64 x) ∧ w'.cell? ⟨b, off + i * 2 + 1, none⟩ = some (.int .i64 y))
    (first | exact ⟨g0, g1⟩ | assumption | exact HG1.out _ HBA1.out | exact HG1.out _ HBB1.out | exact HG1.out _ HBA2.out | exact HG1.out _ HBB2.out | go_keep)
    (first
     | (refine step_append_lrow _ rfl (.tmp 16) (.tmp 22) 72 rfl w1.heap.size 3 iI (.int .i64 0) 1 8 Tryz.underlying72 hiI hzI0 hzI1 hzI2 rfl (by decide) hzd _ _ _ rfl HT1.out.la ⟨wr.heap.size, 0, none⟩ 1 1 [.int .i64 x] rfl rfl HCA1.out (by simp [Value.oneCell']) (by intro u hu; simp at hu; rw [hu]; exact noDig_i64 _) (by omega) (by unfold maxLen; omega) (by omega) HT1.out.hb ?_; intro gA capA w3 hL3 hgrA hatA; have HT3 := Lib.hid (HT1.out.appA hL3 hgrA hatA); have hg3 : w3.cell? ⟨b, off + i * 2, none⟩ = some (.int .i64 x) ∧ w3.cell? ⟨b, off + i * 2 + 1, none⟩ = some (.int .i64 y) := ⟨grown_cell hgrA (by simp; omega) (fun e => by have := HLX.out b e; omega) (HG1.out _ HBA1.out).1, grown_cell hgrA (by simp; omega) (fun e => by have := HLX.out b e; omega) (HG1.out _ HBA1.out).2⟩; clear hL3 hgrA hatA)
     | (refine step_append_lrow _ rfl (.tmp 16) (.tmp 22) 72 rfl w1.heap.size 3 iI (.int .i64 0) 1 8 Tryz.underlying72 hiI hzI0 hzI1 hzI2 rfl (by decide) hzd _ _ _ rfl HT12.out.la ⟨wr.heap.size, 0, none⟩ 1 1 [.int .i64 x] rfl rfl HCA2.out (by simp [Value.oneCell']) (by intro u hu; simp at hu; rw [hu]; exact noDig_i64 _) (by omega) (by unfold maxLen; omega) (by omega) HT12.out.hb ?_; intro gA capA w3 hL3 hgrA hatA; have HT3 := Lib.hid (HT12.out.appA hL3 hgrA hatA); have hg3 : w3.cell? ⟨b, off + i * 2, none⟩ = some (.int .i64 x) ∧ w3.cell? ⟨b, off + i * 2 + 1, none⟩ = some (.int .i64 y) := ⟨grown_cell hgrA (by simp; omega) (fun e => by have := HLX.out b e; omega) (HG1.out _ HBA2.out).1, grown_cell hgrA (by simp; omega) (fun e => by have := HLX.out b e; omega) (HG1.out _ HBA2.out).2⟩; have HC3 : Hid (∀ j u, [Value.int .i64 y][j]? = some u → w3.cell? ((⟨wr.heap.size + 1, 0, none⟩ : Addr).add j) = some u) := fun j u hu => (match j, hu with | 0, hu => by (simp at hu; subst hu; exact grown_cell hgrA (by (try simp) <;> omega) (fun e => by have := HLX.out _ e; omega) HCB2.out) | j + 1, hu => by simp at hu); clear hL3 hgrA hatA)
     | (refine step_append_lrow _ rfl (.tmp 16) (.tmp 22) 72 rfl w1.heap.size 3 iI (.int .i64 0) 1 8 Tryz.underlying72 hiI hzI0 hzI1 hzI2 rfl (by decide) hzd _ _ _ rfl HT21.out.la ⟨wr.heap.size + 1, 0, none⟩ 1 1 [.int .i64 x] rfl rfl HCA3.out (by simp [Value.oneCell']) (by intro u hu; simp at hu; rw [hu]; exact noDig_i64 _) (by omega) (by unfold maxLen; omega) (by omega) HT21.out.hb ?_; intro gA capA w3 hL3 hgrA hatA; have HT3 := Lib.hid (HT21.out.appA hL3 hgrA hatA); have hg3 : w3.cell? ⟨b, off + i * 2, none⟩ = some (.int .i64 x) ∧ w3.cell? ⟨b, off + i * 2 + 1, none⟩ = some (.int .i64 y) := ⟨grown_cell hgrA (by simp; omega) (fun e => by have := HLX.out b e; omega) (HG1.out _ HBB2.out).1, grown_cell hgrA (by simp; omega) (fun e => by have := HLX.out b e; omega) (HG1.out _ HBB2.out).2⟩; have HC3 : Hid (∀ j u, [Value.int .i64 y][j]? = some u → w3.cell? ((⟨wr.heap.size, 0, none⟩ : Addr).add j) = some u) := fun j u hu => (match j, hu with | 0, hu => by (simp at hu; subst hu; exact grown_cell hgrA (by (try simp) <;> omega) (fun e => by have := HLX.out _ e; omega) HCB3.out) | j + 1, hu => by simp at hu); clear hL3 hgrA hatA)
     | (refine step_append_lrow _ rfl (.tmp 24) (.tmp 30) 72 rfl w1.heap.size 3 iI (.int .i64 0) 1 8 Tryz.underlying72 hiI hzI0 hzI1 hzI2 rfl (by decide) hzd _ _ _ rfl HT3.out.lb ⟨wr.heap.size + 1, 0, none⟩ 1 1 [.int .i64 y] rfl rfl HC3.out (by simp [Value.oneCell']) (by intro u hu; simp at hu; rw [hu]; exact noDig_i64 _) (by omega) (by unfold maxLen; omega) (by omega) HT3.out.hb ?_; intro gB capB w6 hL6 hgrB hatB; have HT6 := Lib.hid (HT3.out.appB hL6 hgrB hatB); have hg6 : w6.cell? ⟨b, off + i * 2, none⟩ = some (.int .i64 x) ∧ w6.cell? ⟨b, off + i * 2 + 1, none⟩ = some (.int .i64 y) := ⟨grown_cell hgrB (World.block_lt_of_cell? (h := hg3.1)) (fun e => by have := (HT3.out.lb.lt e).2; omega) hg3.1, grown_cell hgrB (World.block_lt_of_cell? (h := hg3.2)) (fun e => by have := (HT3.out.lb.lt e).2; omega) hg3.2⟩; clear hL6 hgrB hatB)
     | (refine step_append_lrow _ rfl (.tmp 24) (.tmp 30) 72 rfl w1.heap.size 3 iI (.int .i64 0) 1 8 Tryz.underlying72 hiI hzI0 hzI1 hzI2 rfl (by decide) hzd _ _ _ rfl HT3.out.lb ⟨wr.heap.size, 0, none⟩ 1 1 [.int .i64 y] rfl rfl HC3.out (by simp [Value.oneCell']) (by intro u hu; simp at hu; rw [hu]; exact noDig_i64 _) (by omega) (by unfold maxLen; omega) (by omega) HT3.out.hb ?_; intro gB capB w6 hL6 hgrB hatB; have HT6 := Lib.hid (HT3.out.appB hL6 hgrB hatB); have hg6 : w6.cell? ⟨b, off + i * 2, none⟩ = some (.int .i64 x) ∧ w6.cell? ⟨b, off + i * 2 + 1, none⟩ = some (.int .i64 y) := ⟨grown_cell hgrB (World.block_lt_of_cell? (h := hg3.1)) (fun e => by have := (HT3.out.lb.lt e).2; omega) hg3.1, grown_cell hgrB (World.block_lt_of_cell? (h := hg3.2)) (fun e => by have := (HT3.out.lb.lt e).2; omega) hg3.2⟩; clear hL6 hgrB hatB)
     | (refine step_append_lrow _ rfl (.tmp 24) (.tmp 30) 72 rfl w1.heap.size 3 iI (.int .i64 0) 1 8 Tryz.underlying72 hiI hzI0 hzI1 hzI2 rfl (by decide) hzd _ _ _ rfl (HT3.out.below (((Below.refl w3.heap.size w3).alloc (Nat.le_refl _) (.cells #[.int .i64 y] 3)))).lb ⟨w3.heap.size, 0, none⟩ 1 1 [.int .i64 y] rfl rfl (cell_one_new w3 (.int .i64 y) 3) (by simp [Value.oneCell']) (by intro u hu; simp at hu; rw [hu]; exact noDig_i64 _) (by omega) (by unfold maxLen; omega) (by omega) (HT3.out.below (((Below.refl w3.heap.size w3).alloc (Nat.le_refl _) (.cells #[.int .i64 y] 3)))).hb ?_; intro gB capB w6 hL6 hgrB hatB; have HT6 := Lib.hid ((HT3.out.below (((Below.refl w3.heap.size w3).alloc (Nat.le_refl _) (.cells #[.int .i64 y] 3)))).appB hL6 hgrB hatB); have hg6 : w6.cell? ⟨b, off + i * 2, none⟩ = some (.int .i64 x) ∧ w6.cell? ⟨b, off + i * 2 + 1, none⟩ = some (.int .i64 y) := ⟨grown_cell hgrB (World.block_lt_of_cell? (h := (show (w3.alloc (.cells #[.int .i64 y] 3)).cell? ⟨b, off + i * 2, none⟩ = some (.int .i64 x) ∧ (w3.alloc (.cells #[.int .i64 y] 3)).cell? ⟨b, off + i * 2 + 1, none⟩ = some (.int .i64 y) from ⟨(((Below.refl w3.heap.size w3).alloc (Nat.le_refl _) (.cells #[.int .i64 y] 3)).cell (World.block_lt_of_cell? (h := hg3.1))).trans hg3.1, (((Below.refl w3.heap.size w3).alloc (Nat.le_refl _) (.cells #[.int .i64 y] 3)).cell (World.block_lt_of_cell? (h := hg3.2))).trans hg3.2⟩).1)) (fun e => by have := (HT3.out.lb.lt e).2; omega) (show (w3.alloc (.cells #[.int .i64 y] 3)).cell? ⟨b, off + i * 2, none⟩ = some (.int .i64 x) ∧ (w3.alloc (.cells #[.int .i64 y] 3)).cell? ⟨b, off + i * 2 + 1, none⟩ = some (.int .i64 y) from ⟨(((Below.refl w3.heap.size w3).alloc (Nat.le_refl _) (.cells #[.int .i64 y] 3)).cell (World.block_lt_of_cell? (h := hg3.1))).trans hg3.1, (((Below.refl w3.heap.size w3).alloc (Nat.le_refl _) (.cells #[.int .i64 y] 3)).cell (World.block_lt_of_cell? (h := hg3.2))).trans hg3.2⟩).1, grown_cell hgrB (World.block_lt_of_cell? (h := (show (w3.alloc (.cells #[.int .i64 y] 3)).cell? ⟨b, off + i * 2, none⟩ = some (.int .i64 x) ∧ (w3.alloc (.cells #[.int .i64 y] 3)).cell? ⟨b, off + i * 2 + 1, none⟩ = some (.int .i64 y) from ⟨(((Below.refl w3.heap.size w3).alloc (Nat.le_refl _) (.cells #[.int .i64 y] 3)).cell (World.block_lt_of_cell? (h := hg3.1))).trans hg3.1, (((Below.refl w3.heap.size w3).alloc (Nat.le_refl _) (.cells #[.int .i64 y] 3)).cell (World.block_lt_of_cell? (h := hg3.2))).trans hg3.2⟩).2)) (fun e => by have := (HT3.out.lb.lt e).2; omega) (show (w3.alloc (.cells #[.int .i64 y] 3)).cell? ⟨b, off + i * 2, none⟩ = some (.int .i64 x) ∧ (w3.alloc (.cells #[.int .i64 y] 3)).cell? ⟨b, off + i * 2 + 1, none⟩ = some (.int .i64 y) from ⟨(((Below.refl w3.heap.size w3).alloc (Nat.le_refl _) (.cells #[.int .i64 y] 3)).cell (World.block_lt_of_cell? (h := hg3.1))).trans hg3.1, (((Below.refl w3.heap.size w3).alloc (Nat.le_refl _) (.cells #[.int .i64 y] 3)).cell (World.block_lt_of_cell? (h := hg3.2))).trans hg3.2⟩).2⟩; clear hL6 hgrB hatB))
   all_goals
    go_wp2_with fail
    exact ⟨⟨i + 1, by omega, by go_num, by rw [HF1.out, HS1.out]; exact HT6⟩, meas_up hlt⟩
  ·
   obtain rfl : i = l.length := by omega
   have hxw := hal0.trans (HT.out.x.mono hal0.size)
   have hX0 : LRow wr w1.heap.size 3 1 u3 (fstC l l.length).length (intC (fstC l l.length)) := by rw [fstC_len]; exact HT.out.la
   have hY0 : LRow wr w1.heap.size 3 1 u4 (sndC l l.length).length (intC (sndC l l.length)) := by rw [sndC_len]; exact HT.out.lb
   have HNX := Lib.hid (NumsOf.ofRow hX0)
   have HNY := Lib.hid (NumsOf.ofRow hY0)
   clear hX0 hY0
   have hRB := blk_keep hB0 HT.out.x (blk_lt hB0)
   have hlx := loF_range (f := fun i => (l.getD i (0, 0)).1) (n := l.length) (A := 4398046511104) (by omega) (fun i hi => (HPT.out i hi).1) _ (Nat.le_refl _)
   have hly := loF_range (f := fun i => (l.getD i (0, 0)).2) (n := l.length) (A := 4398046511104) (by omega) (fun i hi => (HPT.out i hi).2) _ (Nat.le_refl _)
   have hhx := hiF_range (f := fun i => (l.getD i (0, 0)).1) (n := l.length) (A := 4398046511104) (by omega) (fun i hi => (HPT.out i hi).1) _ (Nat.le_refl _)
   have hhy := hiF_range (f := fun i => (l.getD i (0, 0)).2) (n := l.length) (A := 4398046511104) (by omega) (fun i hi => (HPT.out i hi).2) _ (Nat.le_refl _)
   have HSX : Hid (∀ W, NumsOf W u3 (fstC l l.length) → Calls Tryz.prog 24 #[u3] W (fun e w' => e = .returned (.tuple #[.int .i64 (loF (fun i => (l.getD i (0, 0)).1) l.length), .int .i64 (hiF (fun i => (l.getD i (0, 0)).1) l.length)]) ∧ Below W.heap.size W w')) := fun W h => by
    have := qspan_any (fstC l l.length) u3 W h (by rw [fstC_len]; omega) (by rw [fstC_len]; omega)
    rw [fstC_len, loF_same (g := fun i => (l.getD i (0, 0)).1) l.length (fstC_get l (by omega)) (fun j hj => fstC_get l hj), hiF_same (g := fun i => (l.getD i (0, 0)).1) l.length (fstC_get l (by omega)) (fun j hj => fstC_get l hj)] at this
    exact this
   have HSY : Hid (∀ W, NumsOf W u4 (sndC l l.length) → Calls Tryz.prog 24 #[u4] W (fun e w' => e = .returned (.tuple #[.int .i64 (loF (fun i => (l.getD i (0, 0)).2) l.length), .int .i64 (hiF (fun i => (l.getD i (0, 0)).2) l.length)]) ∧ Below W.heap.size W w')) := fun W h => by
    have := qspan_any (sndC l l.length) u4 W h (by rw [sndC_len]; omega) (by rw [sndC_len]; omega)
    rw [sndC_len, loF_same (g := fun i => (l.getD i (0, 0)).2) l.length (sndC_get l (by omega)) (fun j hj => sndC_get l hj), hiF_same (g := fun i => (l.getD i (0, 0)).2) l.length (sndC_get l (by omega)) (fun j hj => sndC_get l hj)] at this
    exact this
   generalize loF (fun i => (l.getD i (0, 0)).1) l.length = lx at *
   generalize loF (fun i => (l.getD i (0, 0)).2) l.length = ly at *
   generalize hiF (fun i => (l.getD i (0, 0)).1) l.length = hx at *
   generalize hiF (fun i => (l.getD i (0, 0)).2) l.length = hy at *
   have hw1 : IntKind.i64.wrap (hx - lx) = hx - lx := IntWalk.i64_in _ (by omega)
   have hw2 : IntKind.i64.wrap (hy - ly) = hy - ly := IntWalk.i64_in _ (by omega)
   go_wp2_with fail
   refine (HSX.out _ HNX.out).mono ?_
   rintro e w3 ⟨rfl, hb3⟩
   go_wp2_with fail
   refine (HSY.out _ (HNY.out.below hb3)).mono ?_
   rintro e w4 ⟨rfl, hb4⟩
   have hx4 := ext_trans (ext_trans hxw hb3) hb4
   have hR4 := blk_keep (blk_keep hRB hb3 (blk_lt hRB)) hb4 (blk_lt (blk_keep hRB hb3 (blk_lt hRB)))
   have r0 := blk_cell hR4 0 (.int .i64 0) rfl
   have r1 := blk_cell hR4 1 (.int .i64 0) rfl
   have q0 := blk_frozen hR4 0
   have q1 := blk_frozen hR4 1
   have hR2 := setC2 (x := .int .i64 (hx - lx)) (y := .int .i64 (hy - ly)) hR4
   have hxe := (hx4.setCell (p := ⟨w.heap.size, 0, none⟩) (Nat.le_refl _) (.int .i64 (hx - lx))).setCell (p := ⟨w.heap.size, 1, none⟩) (Nat.le_refl _) (.int .i64 (hy - ly))
   have s0 := blk_cell hR2 0 (.int .i64 (hx - lx)) rfl
   have s1 := blk_cell hR2 1 (.int .i64 (hy - ly)) rfl
   go_wp2_with fail
   refine bodyPost_ret (v := .agg #[.int .i64 (hx - lx), .int .i64 (hy - ly)]) (by simp [results, Tryz.results7, go_sem, s0, s1]) rfl ⟨by rw [HX.out, HY.out], hxe⟩

end Go.Proofs.YtofijjomfhmbjaaGreat

namespace Go.Proofs.YtofijjomfhmbjaaGreat
open Go.RowKit

theorem lpc_fields : (Tryz.prog.fieldsOf 26).toList = [{ name := "Long", type := 3, offset := 0, embedded := false, tag := "", pkgPath := "", byteOffset := 0 }, { name := "Wide", type := 3, offset := 1, embedded := false, tag := "", pkgPath := "", byteOffset := 8 }] := by kernel_rfl
theorem qpc_fields : (Tryz.prog.fieldsOf 31).toList = [{ name := "Long", type := 3, offset := 0, embedded := false, tag := "", pkgPath := "", byteOffset := 0 }, { name := "Wide", type := 3, offset := 1, embedded := false, tag := "", pkgPath := "", byteOffset := 8 }] := by kernel_rfl
set_option maxRecDepth 100000 in
theorem neq_lpc (a b : Int) (w : World) : (binOp .neq 26 (.agg #[.int .i64 a, .int .i64 b]) (.agg #[.int .i64 a, .int .i64 b])).run Tryz.prog w = .ok (.bool false) w := by
 rw [run_neq_struct, run_equalIn_struct w 9999 26 _ _ (by kernel_rfl) (by kernel_rfl), lpc_fields]
 have n0 : ("Long" ≠ "_") := by decide
 have n1 : ("Wide" ≠ "_") := by decide
 unfold Op.eqFields
 rw [if_pos n0]
 simp only [Sem.run_bind, (part2 _ _ _).1, eqInt, Result.andThen_ok, Sem.run_ite, beq_self_eq_true]
 unfold Op.eqFields
 rw [if_pos n1]
 simp only [Sem.run_bind, (part2 _ _ _).2, eqInt, Result.andThen_ok, Sem.run_ite, beq_self_eq_true]
 unfold Op.eqFields
 simp
set_option maxRecDepth 100000 in
theorem neq_qpc (a b : Int) (w : World) : (binOp .neq 31 (.agg #[.int .i64 a, .int .i64 b]) (.agg #[.int .i64 a, .int .i64 b])).run Tryz.prog w = .ok (.bool false) w := by
 rw [run_neq_struct, run_equalIn_struct w 9999 31 _ _ (by kernel_rfl) (by kernel_rfl), qpc_fields]
 have n0 : ("Long" ≠ "_") := by decide
 have n1 : ("Wide" ≠ "_") := by decide
 unfold Op.eqFields
 rw [if_pos n0]
 simp only [Sem.run_bind, (part2 _ _ _).1, eqInt, Result.andThen_ok, Sem.run_ite, beq_self_eq_true]
 unfold Op.eqFields
 rw [if_pos n1]
 simp only [Sem.run_bind, (part2 _ _ _).2, eqInt, Result.andThen_ok, Sem.run_ite, beq_self_eq_true]
 unfold Op.eqFields
 simp
set_option maxRecDepth 100000 in
theorem neq_pt (a b : Int) (w : World) : (binOp .neq 45 (.agg #[.int .i64 a, .int .i64 b]) (.agg #[.int .i64 a, .int .i64 b])).run Tryz.prog w = .ok (.bool false) w := by
 rw [run_neq_struct, run_equalIn_struct w 9999 45 _ _ (by kernel_rfl) (by kernel_rfl), pt_fields]
 have n0 : ("X" ≠ "_") := by decide
 have n1 : ("Y" ≠ "_") := by decide
 unfold Op.eqFields
 rw [if_pos n0]
 simp only [Sem.run_bind, (part2 _ _ _).1, eqInt, Result.andThen_ok, Sem.run_ite, beq_self_eq_true]
 unfold Op.eqFields
 rw [if_pos n1]
 simp only [Sem.run_bind, (part2 _ _ _).2, eqInt, Result.andThen_ok, Sem.run_ite, beq_self_eq_true]
 unfold Op.eqFields
 simp

set_option maxRecDepth 100000 in
set_option maxHeartbeats 4000000 in
theorem equalPts_same (l : List (Int × Int)) (v1 v2 : Value) (w : World) (h1 : PairsOf w v1 l) (h2 : PairsOf w v2 l) (hl : l.length ≤ 1000000) : Calls Tryz.prog 15 #[v1, v2] w (RetBool true w) := by
 obtain ⟨ao, cap, rfl, hA⟩ := h1
 obtain ⟨bo, bap, rfl, hB⟩ := h2
 have HA := Lib.hid hA
 have HB := Lib.hid hB
 have tne : (((l.length : Int)) != ((l.length : Int))) = false := by simp
 clear hA hB
 go_enter Tryz.func15, Tryz.ntmps15
 go_wp2_with fail
 go_loopw [13] (fun iv wr => ∃ (i : Nat), i ≤ l.length ∧ iv = .int .i64 i ∧ Below w.heap.size w wr) (fun iv _ => l.length - (intOf iv).toNat)
 case atStart => exact ⟨0, Nat.zero_le _, rfl, Below.refl _ _⟩
 case round =>
  obtain ⟨i, hi, rfl, hbel⟩ := hrel
  by_cases hlt : i < l.length
  ·
   obtain ⟨b, off, rfl, hbl, hLL⟩ := HA.out (by omega)
   obtain ⟨b2, off2, rfl, hbl2, hMM⟩ := HB.out (by omega)
   obtain ⟨g0, g1⟩ := (hLL i hlt).below hbel hbl
   obtain ⟨k0, k1⟩ := (hMM i hlt).below hbel hbl2
   have hlt' : (i : Int) < l.length := by omega
   have hge' : (0 : Int) ≤ i := by omega
   have hq := neq_pt (l.getD i (0, 0)).1 (l.getD i (0, 0)).2
   clear hLL hMM
   generalize (l.getD i (0, 0)).1 = x0 at *
   generalize (l.getD i (0, 0)).2 = x1 at *
   go_wp2_with fail
   go_region
   go_wp2_with fail
   exact ⟨⟨i + 1, by omega, by go_num, hbel.drew⟩, meas_up hlt⟩
  ·
   obtain rfl : i = l.length := by omega
   go_wp2_with fail
   go_ret
   exact ⟨rfl, hbel⟩

theorem info_qpiece : (Tryz.prog.info? 31).map (fun i => (i.zero, i.size, i.bytes)) = some (some (.agg #[.int .i64 0, .int .i64 0]), 2, 16) := by kernel_rfl
set_option maxRecDepth 100000 in
set_option maxHeartbeats 4000000 in
theorem lpieces_any (l : List (Int × Int)) (v : Value) (w : World) (h : PairsOf w v l) (hl : l.length ≤ 1000000) : Calls Tryz.prog 8 #[v] w (fun e w' => ∃ v', e = .returned v' ∧ PairsOf w' v' l ∧ Below w.heap.size w w') := by
 obtain ⟨ao, cap, rfl, hE⟩ := h
 have HE := Lib.hid hE
 clear hE
 obtain ⟨iC, hiC, hzC0, hzC1, hzC2⟩ := info_parts info_qpiece
 have hzd := zd2
 go_enter Tryz.func8, Tryz.ntmps8
 go_wp2_with fail
 go_loopw [3, 8] (fun mv iv wr => ∃ (i : Nat), i ≤ l.length ∧ iv = .int .i64 i ∧ Hid (LRow wr w.heap.size 31 2 mv i (pairCells (l.take i))) ∧ Below w.heap.size w wr) (fun _ iv _ => l.length - (intOf iv).toNat)
 case atStart => exact ⟨0, Nat.zero_le _, rfl, LRow.nil _ _ _ _, Below.refl _ _⟩
 case round =>
  obtain ⟨i, hi, rfl, hL, hbel⟩ := hrel
  by_cases hlt : i < l.length
  ·
   obtain ⟨b, off, rfl, hbl, hEE⟩ := HE.out (by omega)
   obtain ⟨g0, g1⟩ := (hEE i hlt).below hbel hbl
   have hlt' : (i : Int) < l.length := by omega
   have hge' : (0 : Int) ≤ i := by omega
   have hbl2 : b < wr.heap.size := Nat.lt_of_lt_of_le hbl hbel.size
   have Htk := Lib.hid (pairCells_take l i hlt)
   clear hEE
   generalize (l.getD i (0, 0)).1 = x at *
   generalize (l.getD i (0, 0)).2 = y at *
   have hx1 := (Below.refl wr.heap.size wr).alloc (Nat.le_refl _) (.cells #[.int .i64 x, .int .i64 y] 26)
   have hx2 := hx1.alloc hx1.size (.cells #[.int .i64 x, .int .i64 y] 31)
   have hcn := cell_new2 (wr.alloc (.cells #[.int .i64 x, .int .i64 y] 26)) (.int .i64 x) (.int .i64 y) 31
   rw [World.size_alloc] at hcn
   have HCN := Lib.hid hcn
   have HL2 := Lib.hid (hL.out.below hx2)
   have hbs := hbel.size
   clear hcn hL hx1
   go_wp2_with (at_builtin; refine wpList_append_lrow _ rfl (.tmp 12) (.tmp 14) 33 rfl w.heap.size 31 iC _ 2 16 Tryz.underlying33 hiC hzC0 hzC1 hzC2 rfl (by decide) hzd _ _ _ rfl HL2.out ⟨wr.heap.size + 1, 0, none⟩ 1 1 [.int .i64 x, .int .i64 y] rfl rfl HCN.out (one2 _ _) (nd2 _ _) (by omega) (by unfold maxLen; omega) (by omega) (by simp; omega) ?_)
   intro g cap' w3 hL3 hgr hat
   have hx3 : Below w.heap.size w w3 := (hbel.trans (hx2.mono hbel.size)).grown hgr (by simp; omega) (ownBlock_low' HL2.out.1)
   have HL3 := Lib.hid hL3
   clear hL3 hgr hat HL2 hx2
   go_wp2_with fail
   exact ⟨⟨i + 1, by omega, by go_num, by rw [Htk.out]; exact HL3.out, hx3⟩, meas_up hlt⟩
  ·
   obtain rfl : i = l.length := by omega
   rw [List.take_length] at hL
   have HR := Lib.hid (PairsOf.ofRow hL.out)
   clear hL
   go_wp2_with fail
   go_ret
   exact ⟨_, rfl, HR.out, hbel⟩

theorem nestStep_len (l : List (Int × Int)) (m : Int) (i : Nat) (s : NestS) : (nestStep l m i s).out.length = s.out.length := by
 unfold nestStep
 split <;> simp
theorem nestTo_len (l : List (Int × Int)) (m : Int) (f : Nat → Nat) : ∀ j, (nestTo l m f j).out.length = l.length
 | 0 => by simp [nestTo]
 | j + 1 => by rw [nestTo, nestStep_len, nestTo_len l m f j]
theorem nestRes_len {l : List (Int × Int)} {m : Int} {out : List (Int × Int)} {n : Int} (h : NestRes l m out n) : out.length ≤ l.length := by
 unfold NestRes at h
 by_cases c : pcsErr l m = 0
 ·
  rw [if_pos c] at h
  obtain ⟨f, _, _, rfl, _⟩ := h
  rw [nestTo_len]
  exact Nat.le_refl _
 ·
  rw [if_neg c] at h
  rw [h.1]
  exact Nat.zero_le _
theorem nestRes_ord {l : List (Int × Int)} {m : Int} {out : List (Int × Int)} {n : Int} (h : NestRes l m out n) (hz : pcsErr l m = 0) : ∃ f, PermI f l.length ∧ SortR (fun i => (gP l i).1) f 0 l.length := by
 unfold NestRes at h
 rw [if_pos hz] at h
 obtain ⟨f, h1, h2, _⟩ := h
 exact ⟨f, h1, h2⟩

set_option maxRecDepth 100000 in
set_option maxHeartbeats 16000000 in
theorem layupNests_any (ol l ls : List (Int × Int)) (m : Int) (vo vp va : Value) (w : World) (ho : PairsOf w vo ol) (hp : PairsOf w vp l) (ha : PairsOf w va ls) (hc : CapOk va) :
  Calls Tryz.prog 3 #[vo, vp, .int .i64 m, va] w (RetBool true w) := by
 have HO := Lib.hid ho
 have HP := Lib.hid hp
 have HA := Lib.hid ha
 have HC := Lib.hid hc
 obtain ⟨aoo, capo, rfl, _⟩ := ho
 obtain ⟨aop, capp, rfl, _⟩ := hp
 obtain ⟨aoa, capa, rfl, _⟩ := ha
 clear hc
 by_cases c1 : 20 < ol.length
 ·
  have t1 : decide ((ol.length : Int) > 20) = true := decide_eq_true (by omega)
  clear c1
  go_enter Tryz.func3, Tryz.ntmps3
  go_wp2_with fail
  refine (awake03_any _).mono ?_
  rintro e w1 ⟨rfl, hb1⟩
  go_wp2_with fail
  refine (awake03_any _).mono ?_
  rintro e w2 ⟨rfl, hb2⟩
  go_wp2_with fail
  go_ret
  exact ⟨rfl, below_join hb1 hb2⟩
 ·
  have t1 : decide ((ol.length : Int) > 20) = false := decide_eq_false (by omega)
  by_cases c2 : 30 < l.length
  ·
   have t2 : decide ((l.length : Int) > 30) = true := decide_eq_true (by omega)
   clear c1 c2
   go_enter Tryz.func3, Tryz.ntmps3
   go_wp2_with fail
   refine (awake03_any _).mono ?_
   rintro e w1 ⟨rfl, hb1⟩
   go_wp2_with fail
   refine (awake03_any _).mono ?_
   rintro e w2 ⟨rfl, hb2⟩
   go_wp2_with fail
   go_ret
   exact ⟨rfl, below_join hb1 hb2⟩
  ·
   have t2 : decide ((l.length : Int) > 30) = false := decide_eq_false (by omega)
   by_cases c3 : 40 < ls.length
   ·
    have t3 : decide ((ls.length : Int) > 40) = true := decide_eq_true (by omega)
    clear c1 c2 c3
    go_enter Tryz.func3, Tryz.ntmps3
    go_wp2_with fail
    refine (awake03_any _).mono ?_
    rintro e w1 ⟨rfl, hb1⟩
    go_wp2_with fail
    refine (awake03_any _).mono ?_
    rintro e w2 ⟨rfl, hb2⟩
    go_wp2_with fail
    go_ret
    exact ⟨rfl, below_join hb1 hb2⟩
   ·
    have t3 : decide ((ls.length : Int) > 40) = false := decide_eq_false (by omega)
    have hl30 : l.length ≤ 30 := by omega
    clear c1 c2 c3
    go_enter Tryz.func3, Tryz.ntmps3
    go_wp2_with fail
    refine (awake03_any _).mono ?_
    rintro e w1 ⟨rfl, hb1⟩
    go_wp2_with fail
    refine (lcut_any ol _ _ (HO.out.below hb1)).mono ?_
    rintro e w2 ⟨rfl, hb2⟩
    have hx2 := below_join hb1 hb2
    have hN2 := blk_new w2 #[.int .i64 (cutX ol), .int .i64 (cutY ol)] 26
    have hx3 := hx2.alloc hx2.size (.cells #[.int .i64 (cutX ol), .int .i64 (cutY ol)] 26)
    clear hb1 hb2 hx2
    go_wp2_with fail
    refine (qoutline_any ol _ _ (HO.out.below hx3)).mono ?_
    rintro e w4 ⟨rfl, hb4⟩
    have hN4 := blk_keep hN2 hb4 (blk_lt hN2)
    have hx4 := ext_trans hx3 hb4
    have k0 := blk_cell hN4 0 (.int .i64 (cutX ol)) rfl
    have k1 := blk_cell hN4 1 (.int .i64 (cutY ol)) rfl
    have HQC : Hid (outErr ol = 0 → ∀ W, PairsOf W (.slice aoo ol.length capo) ol → Calls Tryz.prog 7 #[.slice aoo ol.length capo] W (fun e w' => e = .returned (.agg #[.int .i64 (cutX ol), .int .i64 (cutY ol)]) ∧ Below W.heap.size W w')) := fun h W hW => qcutO_any ol _ W h hW
    have tne : (outErr ol != outErr ol) = false := by simp
    clear hN2 hb4 hx3 hN4
    go_upto_region 5 with fail
    go_cut [73] (fun rv wx => rv = .bool false ∧ Below w4.heap.size w4 wx)
    case first =>
     by_cases hz : outErr ol = 0
     ·
      have HQ := Lib.hid (HQC.out hz)
      have te : (outErr ol != 0) = false := by rw [hz]; rfl
      have te2 : (outErr ol == 0) = true := by rw [hz]; rfl
      have hq := neq_qpc (cutX ol) (cutY ol)
      have HOW := Lib.hid (HO.out.below hx4)
      clear hz HQC
      generalize outErr ol = er at *
      generalize cutX ol = cx at *
      generalize cutY ol = cy at *
      generalize w2.heap.size = G at *
      refine wp_region_held_drew (S := fun w' => w'.cell? ⟨G, 0, none⟩ = some (.int .i64 cx) ∧ w'.cell? ⟨G, 1, none⟩ = some (.int .i64 cy)) (by kernel_rfl) ⟨k0, k1⟩ (fun hh => ?_)
      refine tkB (i := 0) (v := ?vz1) rfl ?hz1 ?rz1
      case hz1 => intro u hSu; go_simp <;> with_reducible rfl
      try simp only [nbs, Act.put]
      refine tkB (i := 1) (v := ?vz2) rfl ?hz2 ?rz2
      case hz2 => intro u hSu; go_simp <;> with_reducible rfl
      try simp only [nbs, Act.put]
      refine tkB (i := 2) (v := ?vz3) rfl ?hz3 ?rz3
      case hz3 => intro u hSu; go_simp <;> with_reducible rfl
      try simp only [nbs, Act.put]
      refine tkB (i := 3) (v := ?vz4) rfl ?hz4 ?rz4
      case hz4 => intro u hSu; go_simp <;> with_reducible rfl
      try simp only [nbs, Act.put]
      refine tkB (i := 4) (v := ?vz5) rfl ?hz5 ?rz5
      case hz5 => intro u hSu; go_simp <;> with_reducible rfl
      try simp only [nbs, Act.put]
      refine tkB (i := 5) (v := ?vz6) rfl ?hz6 ?rz6
      case hz6 => intro u hSu; go_simp <;> with_reducible rfl
      try simp only [nbs, Act.put]
      refine tkB (i := 6) (v := ?vz7) rfl ?hz7 ?rz7
      case hz7 => intro u hSu; go_simp <;> with_reducible rfl
      try simp only [nbs, Act.put]
      refine tkC (i := 7) rfl ?_
      try simp only [nbs, Act.put]
      refine tkC (i := 8) rfl ?_
      try simp only [nbs, Act.put]
      refine tkC (i := 9) rfl ?_
      try simp only [nbs, Act.put]
      refine tkB (i := 10) (v := ?vz8) rfl ?hz8 ?rz8
      case hz8 => intro u hSu; go_simp <;> with_reducible rfl
      try simp only [nbs, Act.put]
      refine tkB (i := 11) (v := ?vz9) rfl ?hz9 ?rz9
      case hz9 => intro u hSu; go_simp <;> with_reducible rfl
      try simp only [nbs, Act.put]
      refine tkB (i := 12) (v := ?vz10) rfl ?hz10 ?rz10
      case hz10 => intro u hSu; go_simp <;> with_reducible rfl
      try simp only [nbs, Act.put]
      refine tkB (i := 13) (v := ?vz11) rfl ?hz11 ?rz11
      case hz11 => intro u hSu; go_simp <;> with_reducible rfl
      try simp only [nbs, Act.put]
      refine tkB (i := 14) (v := ?vz12) rfl ?hz12 ?rz12
      case hz12 => intro u hSu; go_simp <;> with_reducible rfl
      try simp only [nbs, Act.put]
      refine tkB (i := 15) (v := ?vz13) rfl ?hz13 ?rz13
      case hz13 => intro u hSu; go_simp <;> with_reducible rfl
      try simp only [nbs, Act.put]
      refine tkB (i := 16) (v := ?vz14) rfl ?hz14 ?rz14
      case hz14 => intro u hSu; obtain ⟨s0, s1⟩ := hSu; go_simp <;> with_reducible rfl
      try simp only [nbs, Act.put]
      refine tkB (i := 17) (v := ?vz15) rfl ?hz15 ?rz15
      case hz15 => intro u hSu; go_simp <;> with_reducible rfl
      try simp only [nbs, Act.put]
      refine rdA (i := 18) rfl (fun K hK => ?_)
      go_simp
      go_wp2_with (go_at_call 7; (with_reducible refine (HQ.out _ (HOW.out.below (Below.refl _ _).drew)).mono ?_); rintro e wA ⟨rfl, hbA⟩)
      have kA0 := (hbA.cell (World.block_lt_of_cell? (h := hh.1))).trans hh.1
      have kA1 := (hbA.cell (World.block_lt_of_cell? (h := hh.2))).trans hh.2
      refine hK.out _ _ ⟨kA0, kA1⟩ (fun hh2 => ?_)
      clear hK K
      try simp only [nbs, Act.put]
      refine tkB (i := 19) (v := ?vz16) rfl ?hz16 ?rz16
      case hz16 => intro u hSu; go_simp <;> with_reducible rfl
      try simp only [nbs, Act.put]
      refine tkB (i := 20) (v := ?vz17) rfl ?hz17 ?rz17
      case hz17 => intro u hSu; go_simp <;> with_reducible rfl
      try simp only [nbs, Act.put]
      refine tkB (i := 21) (v := ?vz18) rfl ?hz18 ?rz18
      case hz18 => intro u hSu; go_simp <;> with_reducible rfl
      try simp only [nbs, Act.put]
      refine wpAnyH_done (by kernel_rfl) ?_ _
      go_wp2_with fail
      go_meet
      case rel => exact ⟨rfl, (Below.refl _ _).drew.trans (hbA.mono (Below.refl 0 _).drew.size)⟩
     ·
      have te : (outErr ol != 0) = true := bne_iff_ne.2 hz
      have te2 : (outErr ol == 0) = false := by simpa using hz
      have hx0 : cutX ol = 0 := by unfold cutX; rw [if_neg hz]
      have hy0 : cutY ol = 0 := by unfold cutY; rw [if_neg hz]
      have hq := neq_lpc 0 0
      rw [hx0] at k0
      rw [hy0] at k1
      clear hz HQC hx0 hy0
      generalize outErr ol = er at *
      generalize w2.heap.size = G at *
      go_quiet (fail)
      go_wp2_with fail
      go_meet
      case rel => exact ⟨rfl, below_dn (Below.refl _ _) _⟩
    case rest =>
     obtain ⟨rfl, hb5⟩ := hcut
     have hx5 := ext_trans hx4 hb5
     clear HQC tne k0 k1 hb5 hx4
     go_wp2_with fail
     refine (lpieces_any l _ _ (HP.out.below hx5) (by omega)).mono ?_
     rintro e w6 ⟨vq, rfl, hvq, hb6⟩
     have HQ := Lib.hid hvq
     obtain ⟨aoq, capq, rfl, _⟩ := hvq
     have hx6 := ext_trans hx5 hb6
     clear hx5 hb6
     go_wp2_with fail
     refine (nestE_any _ _ (HP.out.below hx6)).mono ?_
     rintro e w7 ⟨ov1, o1, n1, rfl, HR1, hov1, _, hb7⟩
     have HQ7 := Lib.hid (HQ.out.below hb7)
     have HV1 := Lib.hid hov1
     obtain ⟨ao1, cap1, rfl, _⟩ := hov1
     have hx7 := ext_trans hx6 hb7
     clear hx6 hb7
     go_wp2_with fail
     refine (qnest_any _ _ (fun h => nestRes_ord HR1.out h) HQ7.out).mono ?_
     rintro e w8 ⟨ov2, o2, n2, rfl, HR2, hov2, _, hb8⟩
     obtain ⟨rfl, rfl⟩ := nestRes_one HR1.out HR2.out
     have HL := Lib.hid (nestRes_len HR1.out)
     have HQ8 := Lib.hid (HQ7.out.below hb8)
     have HV18 := Lib.hid (HV1.out.below hb8)
     have HV2 := Lib.hid hov2
     obtain ⟨ao2, cap2, rfl, _⟩ := hov2
     have hx8 := ext_trans hx7 hb8
     clear hx7 hb8
     go_wp2_with fail
     refine (checkNestE_any ls _ _ _ (HP.out.below hx8) (HA.out.below hx8) HC.out).mono ?_
     rintro e w9 ⟨rfl, hb9⟩
     have HQ9 := Lib.hid (HQ8.out.below hb9)
     have HV19 := Lib.hid (HV18.out.below hb9)
     have HV29 := Lib.hid (HV2.out.below hb9)
     have hx9 := ext_trans hx8 hb9
     clear hx8 hb9
     go_wp2_with fail
     refine (qcheckNest_any ls _ _ _ HQ9.out (HA.out.below hx9) HC.out).mono ?_
     rintro e w10 ⟨rfl, hb10⟩
     have HQ10 := Lib.hid (HQ9.out.below hb10)
     have HV110 := Lib.hid (HV19.out.below hb10)
     have HV210 := Lib.hid (HV29.out.below hb10)
     have hx10 := ext_trans hx9 hb10
     clear hx9 hb10
     go_wp2_with fail
     refine (lbound_any _ _ (HP.out.below hx10)).mono ?_
     rintro e w11 ⟨rfl, hb11⟩
     have HQ11 := Lib.hid (HQ10.out.below hb11)
     have HV111 := Lib.hid (HV110.out.below hb11)
     have HV211 := Lib.hid (HV210.out.below hb11)
     have hx11 := ext_trans hx10 hb11
     clear hx10 hb11
     go_wp2_with fail
     refine (qnbound_any _ _ HQ11.out).mono ?_
     rintro e w12 ⟨rfl, hb12⟩
     have HV112 := Lib.hid (HV111.out.below hb12)
     have HV212 := Lib.hid (HV211.out.below hb12)
     have hx12 := ext_trans hx11 hb12
     clear hx11 hb12
     generalize pcsErr l m = er1 at *
     generalize chkErr l m ls = er2 at *
     generalize chkLen l m ls = ln at *
     generalize bndN l m = bn at *
     have te1 : (n1 == n1) = true := by simp
     have te2 : (er1 == er1) = true := by simp
     have te3 : (ln == ln) = true := by simp
     have te4 : (er2 == er2) = true := by simp
     have te5 : (bn == bn) = true := by simp
     go_wp2_with fail
     refine (equalPts_same o1 _ _ _ HV112.out HV212.out (by have := HL.out; omega)).mono ?_
     rintro e w13 ⟨rfl, hb13⟩
     go_wp2_with fail
     go_ret
     exact ⟨rfl, ext_trans hx12 hb13⟩

end Go.Proofs.YtofijjomfhmbjaaGreat
