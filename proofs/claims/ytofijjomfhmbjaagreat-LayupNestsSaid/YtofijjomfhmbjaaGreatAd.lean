/- Part d of the lemmas and walks. -/
import Derived.Test.YtofijjomfhmbjaaGreatAc

namespace Go.Proofs.YtofijjomfhmbjaaGreat
open Go.RowKit

theorem rot_up (f : Nat → Nat) {a k : Nat} (h : a ≤ k) : swp2 (rotF f a (a + 1) (k + 1)) k (k + 1) = rotF f a (a + 1) (k + 2) := by
 funext x
 unfold swp2 rotF
 repeat' split
 all_goals first | (exfalso; omega) | (congr 1 <;> omega)
theorem rot_down (f : Nat → Nat) {k m : Nat} (hk : 0 < k) (h : k ≤ m) : swp2 (rotF f k m (m + 1)) k (k - 1) = rotF f (k - 1) m (m + 1) := by
 funext x
 unfold swp2 rotF
 repeat' split
 all_goals first | (exfalso; omega) | (congr 1 <;> omega)
theorem rot_none (f : Nat → Nat) (a m : Nat) : rotF f a m m = f := by
 funext k
 unfold rotF
 repeat' split
 all_goals first | rfl | (exfalso; omega) | (congr 1 <;> omega)
theorem rot_none' (f : Nat → Nat) (a b : Nat) : rotF f a a b = f := by
 funext k
 unfold rotF
 repeat' split
 all_goals first | rfl | (exfalso; omega) | (congr 1 <;> omega)
theorem Parts.done {key : Nat → Int} {f : Nat → Nat} {a m b : Nat} (h : Parts key f a m b) (c : m ≤ a ∨ b ≤ m) : SortR key f a b := by
 intro i j p1 p2 p3
 rcases c with c | c
 ·
  exact h.r i j (by omega) p2 p3
 ·
  exact h.l i j p1 p2 (by omega)
theorem SameOn.lt {f g : Nat → Nat} {a b N : Nat} (h : SameOn f g a b) (hf : ∀ k, k < N → f k < N) (hb : b ≤ N) : ∀ k, k < N → g k < N := fun k hk => by
 by_cases c : a ≤ k ∧ k < b
 ·
  obtain ⟨j, ja, jb, e⟩ := h.hits k c.1 c.2
  rw [e]; exact hf j (by omega)
 ·
  rw [h.out k (by omega)]; exact hf k hk
theorem Parts.of_same {key : Nat → Int} {f g : Nat → Nat} {a m b c d : Nat} (h : Parts key f a m b) (ha : a ≤ m) (hm : m ≤ b) (s : SameOn f g c d) (hd : d ≤ a ∨ b ≤ c) : Parts key g a m b :=
 ⟨fun i j p1 p2 p3 => by rw [s.out i (by omega), s.out j (by omega)]; exact h.l i j p1 p2 p3, fun i j p1 p2 p3 => by rw [s.out i (by omega), s.out j (by omega)]; exact h.r i j p1 p2 p3, fun i j p1 p2 p3 p4 => by rw [s.out i (by omega), s.out j (by omega)]; exact h.old i j p1 p2 p3 p4⟩
def RetMerge (key : Nat → Int) (f : Nat → Nat) (a b N g : Nat) (w : World) (e : Ending) (w' : World) : Prop := e = .returned (.tuple #[]) ∧ ∃ h, SameOn f h a b ∧ SortR key h a b ∧ Own w' g .i64 3 (ordL h N) ∧ Below g w w'
set_option maxRecDepth 100000 in
set_option maxHeartbeats 16000000 in
theorem symMerge_any (N : Nat) (key : Nat → Int) (g bx cap : Nat) (hN : N ≤ 24) (hkey : ∀ i, i < N → 0 ≤ key i ∧ key i ≤ 1000000) (w0 : World)
  (hf : ∀ i k, i < N → k < N → ∀ W, Below g w0 W → Calls Tryz.prog 27 #[.int .i64 i, .int .i64 k, .pointer (some ⟨bx, 0, none⟩)] W (RetIntQ (key k - key i) W)) : ∀ (n a m b : Nat) (f : Nat → Nat) (w : World), b - a ≤ n → a < m → m < b → b ≤ N → Parts key f a m b → (∀ k, k < N → f k < N) → Below g w0 w → Own w g .i64 3 (ordL f N) →
  Calls Tryz.prog 64 #[.slice (some ⟨g, 0, none⟩) N cap, .int .i64 a, .int .i64 m, .int .i64 b, .func (.func 27) #[] #[.pointer (some ⟨bx, 0, none⟩)]] w (RetMerge key f a b N g w) := by
 have HF := Lib.hid hf
 have HK := Lib.hid hkey
 clear hf hkey
 intro n
 induction n with
 | zero => intro a m b f w h1 h2 h3; omega
 | succ n ih =>
  have IH := Lib.hid ih
  clear ih
  intro a m b f w hn ham hmb hbN hP hfN hB0 hO
  have HP := Lib.hid hP
  have HFN := Lib.hid hfN
  have HB0 := Lib.hid hB0
  clear hP hfN hB0
  have hgl := hO.lt
  have hw1 : IntKind.i64.wrap ((m : Int) - a) = (m : Int) - a := IntWalk.i64_in _ (by omega)
  have hw2 : IntKind.i64.wrap ((b : Int) - m) = (b : Int) - m := IntWalk.i64_in _ (by omega)
  by_cases c1 : m = a + 1
  ·
   have t1 : ((m : Int) - a == 1) = true := by simp; omega
   have C1 := Lib.hid c1
   have haN : (a : Int) < N := by omega
   have ha0 : (0 : Int) ≤ a := by omega
   have hx1 : IntKind.i64.wrap ((a : Int) + 1) = (a : Int) + 1 := IntWalk.i64_in _ (by omega)
   have hmb' : m ≤ b := by omega
   have ham' : a + 1 ≤ m := by omega
   have hma' : m ≤ a + 1 := by omega
   clear c1
   go_enter Tryz.func64, Tryz.ntmps64
   go_wp2_with fail
   go_loopw [10, 11] (fun iv jv wr => ∃ i j : Nat, m ≤ i ∧ i ≤ j ∧ j ≤ b ∧ iv = .int .i64 i ∧ jv = .int .i64 j ∧ Hid (∀ k, m ≤ k → k < i → LtK key (f k) (f a)) ∧ Hid (∀ k, j ≤ k → k < b → LtK key (f a) (f k)) ∧ Own wr g .i64 3 (ordL f N) ∧ Below g w wr)
    (fun iv jv _ => (intOf jv).toNat - (intOf iv).toNat)
   case atStart => exact ⟨m, b, Nat.le_refl _, by omega, Nat.le_refl _, rfl, rfl, fun k h1 h2 => by omega, fun k h1 h2 => by omega, hO, Below.refl _ _⟩
   case round =>
    clear hO
    obtain ⟨i, j, hi, hij, hj, rfl, rfl, H1, H2, hO, hbel⟩ := hrel
    by_cases hlt : i < j
    ·
     have hlt' : (i : Int) < j := by omega
     obtain ⟨h, hh⟩ : ∃ h : Nat, (i + j) / 2 = h := ⟨_, rfl⟩
     have hw3 : IntKind.i64.wrap ((i : Int) + j) = (i : Int) + j := IntWalk.i64_in _ (by omega)
     have hhq : ((i : Int) + j) / 2 = (h : Int) := by omega
     have hhb : i ≤ h ∧ h < j := by omega
     have hh0 : (0 : Int) ≤ h := by omega
     have hhN : (h : Int) < N := by omega
     have hwh : IntKind.i64.wrap ((h : Int) + 1) = ((h + 1 : Nat) : Int) := by rw [IntWalk.i64_in _ (by omega)]; omega
     clear hh
     go_upto_region 5 with (fail)
     have cp := hO.cell h (by rw [ordL_length]; omega)
     have cq := hO.cell a (by rw [ordL_length]; omega)
     rw [ordL_get f (show h < N by omega)] at cp
     rw [ordL_get f (show a < N by omega)] at cq
     have HC : Hid (∀ W, Below g w0 W → Calls Tryz.prog 27 #[.int .i64 (f h : Nat), .int .i64 (f a : Nat), .pointer (some ⟨bx, 0, none⟩)] W (fun e w' => e = .returned (.int .i64 (key (f a) - key (f h))) ∧ Quiet W w')) := HF.out (f h) (f a) (HFN.out h (by omega)) (HFN.out a (by omega))
     have kp := HK.out (f h) (HFN.out h (by omega))
     have kq := HK.out (f a) (HFN.out a (by omega))
     have HBL := Lib.hid (HB0.out.trans hbel)
     have HO := Lib.hid hO
     have HBE := Lib.hid hbel
     by_cases cc : key (f a) < key (f h)
     ·
      have tc : decide (key (f a) - key (f h) < 0) = true := decide_eq_true (by omega)
      have H3 : Hid (∀ k, m ≤ k → k < h + 1 → LtK key (f k) (f a)) := fun k k1 k2 => by
       have q := LtK.of_gt (key := key) cc
       rcases Nat.lt_or_ge k h with z | z
       ·
        exact (HP.out.r k h k1 z (by omega)).trans q
       ·
        rw [show k = h by omega]; exact q
      clear cc kp kq hO hbel
      generalize key (f a) - key (f h) = dk at *
      go_wp2_with fail
      go_quiet ((go_at_call 27; first | exact quiet_at0 (HC.out _ (below_dn HBL.out _)) | exact quiet_at (HC.out _ (below_dn HBL.out _))))
      go_wp2_with fail
      exact ⟨⟨h + 1, j, by omega, by omega, hj, by go_num, rfl, H3, H2, HO.out.drewN _, below_dn HBE.out _⟩, by simp [intOf]; omega⟩
     ·
      have tc : decide (key (f a) - key (f h) < 0) = false := decide_eq_false (by omega)
      have H3 : Hid (∀ k, h ≤ k → k < b → LtK key (f a) (f k)) := fun k k1 k2 => by
       have q := (HP.out.lt_iff (i := a) (j := h) (Nat.le_refl _) (by omega) (by omega) (by omega)).2 cc
       rcases Nat.lt_or_ge h k with z | z
       ·
        exact q.trans (HP.out.r h k (by omega) z k2)
       ·
        rw [show k = h by omega]; exact q
      clear cc kp kq hO hbel
      generalize key (f a) - key (f h) = dk at *
      go_wp2_with fail
      go_quiet ((go_at_call 27; first | exact quiet_at0 (HC.out _ (below_dn HBL.out _)) | exact quiet_at (HC.out _ (below_dn HBL.out _))))
      go_wp2_with fail
      exact ⟨⟨i, h, hi, by omega, by omega, rfl, rfl, H1, H3, HO.out.drewN _, below_dn HBE.out _⟩, by simp [intOf]; omega⟩
    ·
     obtain rfl : i = j := by omega
     obtain ⟨p1, hp1⟩ : ∃ p1 : Nat, i = p1 + 1 := ⟨i - 1, by omega⟩
     have HP1 := Lib.hid hp1
     have hx2 : IntKind.i64.wrap ((i : Int) - 1) = (p1 : Int) := by rw [IntWalk.i64_in _ (by omega)]; omega
     have hp1a : a ≤ p1 := by omega
     have hp1N : p1 + 1 ≤ N := by omega
     clear hp1
     go_wp2_with fail
     go_loopw [13] (fun kv wr => ∃ k : Nat, a ≤ k ∧ k ≤ p1 ∧ kv = .int .i64 k ∧ Own wr g .i64 3 (ordL (rotF f a (a + 1) (k + 1)) N) ∧ Below g w wr)
      (fun kv _ => p1 - (intOf kv).toNat)
     case atStart => exact ⟨a, Nat.le_refl _, hp1a, rfl, by rw [rot_none]; exact hO, hbel⟩
     case round =>
      clear hO hbel
      obtain ⟨k, hk, hkp, rfl, hO, hbel⟩ := hrel
      by_cases hkl : k < p1
      ·
       have hkl' : (k : Int) < p1 := by omega
       obtain ⟨q, hq⟩ : ∃ q : Nat, k + 1 = q := ⟨_, rfl⟩
       have HQ := Lib.hid hq
       have hqb : q ≤ p1 := by omega
       have hkq : k < q := by omega
       have hwk : IntKind.i64.wrap ((k : Int) + 1) = (q : Int) := by rw [IntWalk.i64_in _ (by omega)]; omega
       clear hq
       have c1 := hO.cell k (by rw [ordL_length]; omega)
       have c2 := hO.cell q (by rw [ordL_length]; omega)
       rw [ordL_get _ (show k < N by omega)] at c1
       rw [ordL_get _ (show q < N by omega)] at c2
       have f1 := hO.frozen k
       have f2 := hO.frozen q
       have hkN : (k : Int) < N := by omega
       have hk0 : (0 : Int) ≤ k := by omega
       have hqN : (q : Int) < N := by omega
       have hq0 : (0 : Int) ≤ q := by omega
       have HSW : Hid (((ordL (rotF f a (a + 1) (k + 1)) N).set k (rotF f a (a + 1) (k + 1) q)).set q (rotF f a (a + 1) (k + 1) k) = ordL (rotF f a (a + 1) (q + 1)) N) := by
        show _ = _
        rw [ordL_swp _ (show k < N by omega) (show q < N by omega)]
        rw [← HQ.out, rot_up f hk]
       have HO := Lib.hid hO
       have HBE := Lib.hid hbel
       clear hO hbel
       generalize rotF f a (a + 1) (k + 1) k = vk at *
       generalize rotF f a (a + 1) (k + 1) q = vq at *
       go_wp2_with fail
       go_region
       go_wp2_with fail
       exact ⟨⟨q, by omega, hqb, rfl, by rw [← HSW.out]; exact ((HO.out.store k vq).store q vk).drew, ((HBE.out.setCell (p := ⟨g, k, none⟩) (Nat.le_refl _) _).setCell (p := ⟨g, q, none⟩) (Nat.le_refl _) _).drew⟩, by have := HQ.out; simp [intOf]; omega⟩
      ·
       obtain rfl : k = p1 := by omega
       have HR : Hid (SameOn f (rotF f a (a + 1) (k + 1)) a b ∧ SortR key (rotF f a (a + 1) (k + 1)) a b) := by
        have e1 : a + 1 = m := by omega
        have e2 : k + 1 = i := HP1.out.symm
        rw [e1, e2]
        exact ⟨(rot_same f (by omega) (by omega)).wide (Nat.le_refl _) (by omega) (by omega), merge_one HP.out C1.out hi (by omega) H1.out H2.out⟩
       have HO := Lib.hid hO
       go_wp2_with fail
       go_end0
       exact ⟨rfl, _, HR.out.1, HR.out.2, HO.out, hbel⟩
  ·
   have t1 : ((m : Int) - a == 1) = false := by simp; omega
   have C1 := Lib.hid c1
   clear c1
   by_cases c2 : b = m + 1
   ·
    have t2 : ((b : Int) - m == 1) = true := by simp; omega
    have C2 := Lib.hid c2
    have hmN : (m : Int) < N := by omega
    have hm0 : (0 : Int) ≤ m := by omega
    have ham' : a ≤ m := by omega
    have hbm' : b ≤ m + 1 := by omega
    have hbm2 : m + 1 ≤ b := by omega
    clear c2
    go_enter Tryz.func64, Tryz.ntmps64
    go_wp2_with fail
    go_loopw [14, 15] (fun iv jv wr => ∃ i j : Nat, a ≤ i ∧ i ≤ j ∧ j ≤ m ∧ iv = .int .i64 i ∧ jv = .int .i64 j ∧ Hid (∀ k, a ≤ k → k < i → LtK key (f k) (f m)) ∧ Hid (∀ k, j ≤ k → k < m → LtK key (f m) (f k)) ∧ Own wr g .i64 3 (ordL f N) ∧ Below g w wr)
     (fun iv jv _ => (intOf jv).toNat - (intOf iv).toNat)
    case atStart => exact ⟨a, m, Nat.le_refl _, by omega, Nat.le_refl _, rfl, rfl, fun k h1 h2 => by omega, fun k h1 h2 => by omega, hO, Below.refl _ _⟩
    case round =>
     clear hO
     obtain ⟨i, j, hi, hij, hj, rfl, rfl, H1, H2, hO, hbel⟩ := hrel
     by_cases hlt : i < j
     ·
      have hlt' : (i : Int) < j := by omega
      obtain ⟨h, hh⟩ : ∃ h : Nat, (i + j) / 2 = h := ⟨_, rfl⟩
      have hw3 : IntKind.i64.wrap ((i : Int) + j) = (i : Int) + j := IntWalk.i64_in _ (by omega)
      have hhq : ((i : Int) + j) / 2 = (h : Int) := by omega
      have hhb : i ≤ h ∧ h < j := by omega
      have hh0 : (0 : Int) ≤ h := by omega
      have hhN : (h : Int) < N := by omega
      have hwh : IntKind.i64.wrap ((h : Int) + 1) = ((h + 1 : Nat) : Int) := by rw [IntWalk.i64_in _ (by omega)]; omega
      clear hh
      go_upto_region 17 with (fail)
      have cp := hO.cell m (by rw [ordL_length]; omega)
      have cq := hO.cell h (by rw [ordL_length]; omega)
      rw [ordL_get f (show m < N by omega)] at cp
      rw [ordL_get f (show h < N by omega)] at cq
      have HC : Hid (∀ W, Below g w0 W → Calls Tryz.prog 27 #[.int .i64 (f m : Nat), .int .i64 (f h : Nat), .pointer (some ⟨bx, 0, none⟩)] W (fun e w' => e = .returned (.int .i64 (key (f h) - key (f m))) ∧ Quiet W w')) := HF.out (f m) (f h) (HFN.out m (by omega)) (HFN.out h (by omega))
      have kp := HK.out (f m) (HFN.out m (by omega))
      have kq := HK.out (f h) (HFN.out h (by omega))
      have HBL := Lib.hid (HB0.out.trans hbel)
      have HO := Lib.hid hO
      have HBE := Lib.hid hbel
      by_cases cc : key (f h) < key (f m)
      ·
       have tc : decide (key (f h) - key (f m) < 0) = true := decide_eq_true (by omega)
       have H3 : Hid (∀ k, h ≤ k → k < m → LtK key (f m) (f k)) := fun k k1 k2 => by
        have q := LtK.of_gt (key := key) cc
        rcases Nat.lt_or_ge h k with z | z
        ·
         exact q.trans (HP.out.l h k (by omega) z k2)
        ·
         rw [show k = h by omega]; exact q
       clear cc kp kq hO hbel
       generalize key (f h) - key (f m) = dk at *
       go_wp2_with fail
       go_quiet ((go_at_call 27; first | exact quiet_at0 (HC.out _ (below_dn HBL.out _)) | exact quiet_at (HC.out _ (below_dn HBL.out _))))
       go_wp2_with fail
       exact ⟨⟨i, h, hi, by omega, by omega, rfl, rfl, H1, H3, HO.out.drewN _, below_dn HBE.out _⟩, by simp [intOf]; omega⟩
      ·
       have tc : decide (key (f h) - key (f m) < 0) = false := decide_eq_false (by omega)
       have H3 : Hid (∀ k, a ≤ k → k < h + 1 → LtK key (f k) (f m)) := fun k k1 k2 => by
        have q := (HP.out.lt_iff (i := h) (j := m) (by omega) (by omega) (Nat.le_refl _) (by omega)).2 cc
        rcases Nat.lt_or_ge k h with z | z
        ·
         exact (HP.out.l k h k1 z (by omega)).trans q
        ·
         rw [show k = h by omega]; exact q
       clear cc kp kq hO hbel
       generalize key (f h) - key (f m) = dk at *
       go_wp2_with fail
       go_quiet ((go_at_call 27; first | exact quiet_at0 (HC.out _ (below_dn HBL.out _)) | exact quiet_at (HC.out _ (below_dn HBL.out _))))
       go_wp2_with fail
       exact ⟨⟨h + 1, j, by omega, by omega, hj, by go_num, rfl, H3, H2, HO.out.drewN _, below_dn HBE.out _⟩, by simp [intOf]; omega⟩
     ·
      obtain rfl : i = j := by omega
      go_wp2_with fail
      go_loopw [17] (fun kv wr => ∃ k : Nat, i ≤ k ∧ k ≤ m ∧ kv = .int .i64 k ∧ Own wr g .i64 3 (ordL (rotF f k m (m + 1)) N) ∧ Below g w wr)
       (fun kv _ => (intOf kv).toNat)
      case atStart => exact ⟨m, hj, Nat.le_refl _, rfl, by rw [rot_none']; exact hO, hbel⟩
      case round =>
       clear hO hbel
       obtain ⟨k, hk, hkm, rfl, hO, hbel⟩ := hrel
       by_cases hkl : i < k
       ·
        have hkl' : (i : Int) < k := by omega
        have tk : decide ((k : Int) > i) = true := decide_eq_true (by omega)
        obtain ⟨q, hq⟩ : ∃ q : Nat, k - 1 = q := ⟨_, rfl⟩
        have HQ := Lib.hid hq
        have hqb : i ≤ q := by omega
        have hkq : q < k := by omega
        have hwk : IntKind.i64.wrap ((k : Int) - 1) = (q : Int) := by rw [IntWalk.i64_in _ (by omega)]; omega
        clear hq
        have c1 := hO.cell k (by rw [ordL_length]; omega)
        have c2 := hO.cell q (by rw [ordL_length]; omega)
        rw [ordL_get _ (show k < N by omega)] at c1
        rw [ordL_get _ (show q < N by omega)] at c2
        have f1 := hO.frozen k
        have f2 := hO.frozen q
        have hkN : (k : Int) < N := by omega
        have hk0 : (0 : Int) ≤ k := by omega
        have hqN : (q : Int) < N := by omega
        have hq0 : (0 : Int) ≤ q := by omega
        have HSW : Hid (((ordL (rotF f k m (m + 1)) N).set k (rotF f k m (m + 1) q)).set q (rotF f k m (m + 1) k) = ordL (rotF f q m (m + 1)) N) := by
         show _ = _
         rw [ordL_swp _ (show k < N by omega) (show q < N by omega)]
         rw [← HQ.out, rot_down f (by omega) hkm]
        have HO := Lib.hid hO
        have HBE := Lib.hid hbel
        clear hO hbel
        generalize rotF f k m (m + 1) k = vk at *
        generalize rotF f k m (m + 1) q = vq at *
        go_wp2_with fail
        go_region
        go_wp2_with fail
        exact ⟨⟨q, hqb, by omega, rfl, by rw [← HSW.out]; exact ((HO.out.store k vq).store q vk).drew, ((HBE.out.setCell (p := ⟨g, k, none⟩) (Nat.le_refl _) _).setCell (p := ⟨g, q, none⟩) (Nat.le_refl _) _).drew⟩, by simp [intOf]; omega⟩
       ·
        obtain rfl : i = k := by omega
        have tk : decide ((i : Int) > i) = false := decide_eq_false (by omega)
        have HR : Hid (SameOn f (rotF f i m (m + 1)) a b ∧ SortR key (rotF f i m (m + 1)) a b) := by
         have e1 : m + 1 = b := by omega
         rw [e1]
         exact ⟨(rot_same f (by omega) (by omega)).wide (by omega) (by omega) (Nat.le_refl _), merge_one' HP.out C2.out hi hj H1.out H2.out⟩
        have HO := Lib.hid hO
        go_wp2_with fail
        go_end0
        exact ⟨rfl, _, HR.out.1, HR.out.2, HO.out, hbel⟩
   ·
    have t2 : ((b : Int) - m == 1) = false := by simp; omega
    have C2 := Lib.hid c2
    clear c2
    obtain ⟨d, hd⟩ : ∃ d : Nat, (a + b) / 2 = d := ⟨_, rfl⟩
    have hwab : IntKind.i64.wrap ((a : Int) + b) = (a : Int) + b := IntWalk.i64_in _ (by omega)
    have hdq : ((a : Int) + b) / 2 = (d : Int) := by omega
    have hda : a < d ∧ d < b := by have := C1.out; have := C2.out; omega
    have hdd : a + b ≤ 2 * d + 1 ∧ 2 * d ≤ a + b := by omega
    have hn' : (d : Int) + m = ((d + m : Nat) : Int) := by omega
    have hwn : IntKind.i64.wrap ((d : Int) + m) = (d : Int) + m := IntWalk.i64_in _ (by omega)
    have hwp : IntKind.i64.wrap ((d : Int) + m - 1) = (d : Int) + m - 1 := IntWalk.i64_in _ (by omega)
    have hwb : IntKind.i64.wrap ((d : Int) + m - b) = (d : Int) + m - b := IntWalk.i64_in _ (by omega)
    clear hd hn'
    by_cases cm : d < m
    ·
     have tm : decide ((m : Int) > d) = true := decide_eq_true (by omega)
     obtain ⟨s0, hs0⟩ : ∃ s0 : Nat, s0 = d + m - b := ⟨_, rfl⟩
     have hq0 : (d : Int) + m - b = (s0 : Int) := by omega
     have hs1 : a ≤ s0 ∧ s0 ≤ d ∧ d + m ≤ b + s0 ∧ (s0 = a ∨ s0 + b = d + m) := by omega
     have HS0 := Lib.hid hs0
     clear hs0
     go_enter Tryz.func64, Tryz.ntmps64
     go_wp2_with fail
     go_loopw [20, 21] (fun iv jv wr => ∃ i j : Nat, s0 ≤ i ∧ i ≤ j ∧ j ≤ d ∧ iv = .int .i64 i ∧ jv = .int .i64 j ∧ Hid (∀ c, s0 ≤ c → c < i → LtK key (f c) (f (d + m - 1 - c))) ∧ Hid (∀ c, j ≤ c → c < d → LtK key (f (d + m - 1 - c)) (f c)) ∧ Own wr g .i64 3 (ordL f N) ∧ Below g w wr)
      (fun iv jv _ => (intOf jv).toNat - (intOf iv).toNat)
     case atStart => exact ⟨s0, d, Nat.le_refl _, by omega, Nat.le_refl _, by first | rfl | (rw [hq0]), rfl, fun k h1 h2 => by omega, fun k h1 h2 => by omega, hO, Below.refl _ _⟩
     case round =>
      clear hO hq0
      obtain ⟨i, j, hi, hij, hj, rfl, rfl, H1, H2, hO, hbel⟩ := hrel
      by_cases hlt : i < j
      ·
       have hlt' : (i : Int) < j := by omega
       obtain ⟨h, hh⟩ : ∃ h : Nat, (i + j) / 2 = h := ⟨_, rfl⟩
       have hw3 : IntKind.i64.wrap ((i : Int) + j) = (i : Int) + j := IntWalk.i64_in _ (by omega)
       have hhq : ((i : Int) + j) / 2 = (h : Int) := by omega
       have hhb : i ≤ h ∧ h < j := by omega
       have hh0 : (0 : Int) ≤ h := by omega
       have hhN : (h : Int) < N := by omega
       have hwh : IntKind.i64.wrap ((h : Int) + 1) = ((h + 1 : Nat) : Int) := by rw [IntWalk.i64_in _ (by omega)]; omega
       clear hh
       obtain ⟨u, hu⟩ : ∃ u : Nat, d + m - 1 - h = u := ⟨_, rfl⟩
       have HU := Lib.hid hu
       have hub : m ≤ u ∧ u < b := by omega
       have huq : (d : Int) + m - 1 - h = (u : Int) := by omega
       have hwu : IntKind.i64.wrap ((d : Int) + m - 1 - h) = (d : Int) + m - 1 - h := IntWalk.i64_in _ (by omega)
       have huN : (u : Int) < N := by omega
       have hu0 : (0 : Int) ≤ u := by omega
       clear hu
       go_upto_region 35 with (fail)
       have cp := hO.cell u (by rw [ordL_length]; omega)
       have cq := hO.cell h (by rw [ordL_length]; omega)
       rw [ordL_get f (show u < N by omega)] at cp
       rw [ordL_get f (show h < N by omega)] at cq
       have HC : Hid (∀ W, Below g w0 W → Calls Tryz.prog 27 #[.int .i64 (f u : Nat), .int .i64 (f h : Nat), .pointer (some ⟨bx, 0, none⟩)] W (fun e w' => e = .returned (.int .i64 (key (f h) - key (f u))) ∧ Quiet W w')) := HF.out (f u) (f h) (HFN.out u (by omega)) (HFN.out h (by omega))
       have kp := HK.out (f u) (HFN.out u (by omega))
       have kq := HK.out (f h) (HFN.out h (by omega))
       have HBL := Lib.hid (HB0.out.trans hbel)
       have HO := Lib.hid hO
       have HBE := Lib.hid hbel
       by_cases cc : key (f h) < key (f u)
       ·
        have tc : decide (key (f h) - key (f u) < 0) = true := decide_eq_true (by omega)
        have H3 : Hid (∀ c, h ≤ c → c < d → LtK key (f (d + m - 1 - c)) (f c)) := fun c k1 k2 => by
         have q := LtK.of_gt (key := key) cc
         have hU := HU.out
         rcases Nat.lt_or_ge h c with z | z
         ·
          have q2 := HP.out.l h c (by omega) z (by omega)
          have q3 := HP.out.r (d + m - 1 - c) u (by omega) (by omega) (by omega)
          exact (q3.trans q).trans q2
         ·
          rw [show c = h by omega, hU]; exact q
        clear cc kp kq hO hbel
        generalize key (f h) - key (f u) = dk at *
        go_wp2_with fail
        go_quiet ((go_at_call 27; first | exact quiet_at0 (HC.out _ (below_dn HBL.out _)) | exact quiet_at (HC.out _ (below_dn HBL.out _))))
        go_wp2_with fail
        exact ⟨⟨i, h, hi, by omega, by omega, rfl, rfl, H1, H3, HO.out.drewN _, below_dn HBE.out _⟩, by simp [intOf]; omega⟩
       ·
        have tc : decide (key (f h) - key (f u) < 0) = false := decide_eq_false (by omega)
        have H3 : Hid (∀ c, s0 ≤ c → c < h + 1 → LtK key (f c) (f (d + m - 1 - c))) := fun c k1 k2 => by
         have q := (HP.out.lt_iff (i := h) (j := u) (by omega) (by omega) (by omega) (by omega)).2 cc
         have hU := HU.out
         rcases Nat.lt_or_ge c h with z | z
         ·
          have q2 := HP.out.l c h (by omega) z (by omega)
          have q3 := HP.out.r u (d + m - 1 - c) (by omega) (by omega) (by omega)
          exact (q2.trans q).trans q3
         ·
          rw [show c = h by omega, hU]; exact q
        clear cc kp kq hO hbel
        generalize key (f h) - key (f u) = dk at *
        go_wp2_with fail
        go_quiet ((go_at_call 27; first | exact quiet_at0 (HC.out _ (below_dn HBL.out _)) | exact quiet_at (HC.out _ (below_dn HBL.out _))))
        go_wp2_with fail
        exact ⟨⟨h + 1, j, by omega, by omega, hj, by go_num, rfl, H3, H2, HO.out.drewN _, below_dn HBE.out _⟩, by simp [intOf]; omega⟩
      ·
       obtain rfl : i = j := by omega
       have hws : IntKind.i64.wrap ((d : Int) + m - i) = (d : Int) + m - i := IntWalk.i64_in _ (by omega)
       obtain ⟨ee, hee0⟩ : ∃ ee : Nat, ee = d + m - i := ⟨_, rfl⟩
       have hem : m ≤ ee ∧ ee ≤ b := by omega
       have HEE := Lib.hid hee0
       have hed : d = i + (ee - m) := by omega
       have HM := Lib.hid (merge_rot HP.out (show a ≤ i by omega) (show i ≤ m by omega) hem.1 hem.2 hed (fun p1 p2 => by
        have q := H1.out (i - 1) (by omega) (by omega)
        rw [show d + m - 1 - (i - 1) = ee by omega] at q
        exact q) (fun p1 p2 => by
        have q := H2.out i (Nat.le_refl _) (by omega)
        rw [show d + m - 1 - i = ee - 1 by omega] at q
        exact q))
       have HED := Lib.hid hed
       have hee : (d : Int) + m - i = (ee : Int) := by omega
       clear hed hee0
       by_cases zY : i < d
       ·
        by_cases zZ : a < i
        ·
         by_cases zV : ee < b
         ·
          have q1 : decide ((i : Int) < m) = true := decide_eq_true (by omega)
          have q2 : decide ((m : Int) < (d : Int) + m - i) = true := decide_eq_true (by omega)
          have q3 : decide ((a : Int) < i) = true := decide_eq_true (by omega)
          have q4 : decide ((i : Int) < d) = true := decide_eq_true (by omega)
          have q5 : decide ((d : Int) < (d : Int) + m - i) = true := decide_eq_true (by omega)
          have q6 : decide ((d : Int) + m - i < b) = true := decide_eq_true (by omega)
          have hed := HED.out
          rw [hee] at q2 q5 q6
          have HB1 := Lib.hid (HB0.out.trans hbel)
          have HSA : Hid (SameOn f (rotF f i m ee) a b) := (rot_same f (by omega) (by omega)).wide (by omega) (by omega) (by omega)
          have HLT : Hid (∀ k, k < N → rotF f i m ee k < N) := HSA.out.lt HFN.out hbN
          have hdl : d + m = i + ee := by omega
          have HDL := Lib.hid hdl
          clear hed hdl
          go_wp2_with fail
          all_goals
           refine (rotate_any N i m ee f g cap _ _ (by omega) (by omega) (by omega) hN hO).mono ?_
           rintro e1 w1 ⟨rfl, hO1, hb1⟩
           have HB2 := Lib.hid (HB1.out.trans hb1)
           have hx1 := hbel.trans hb1
           go_wp2_with fail
           all_goals
            refine (IH.out a i d (rotF f i m ee) _ (by omega) (by omega) (by omega) (by omega) HM.out.1 HLT.out HB2.out hO1).mono ?_
            rintro e2 w2 ⟨rfl, F2, hS2, hR2, hO2, hb2⟩
            have HS2 := Lib.hid hS2
            have HR2 := Lib.hid hR2
            have HB3 := Lib.hid (HB2.out.trans hb2)
            have hx2 := hx1.trans hb2
            clear hS2 hR2
            go_wp2_with fail
            all_goals
             have HP2 : Hid (Parts key F2 d ee b) := HM.out.2.1.of_same (by omega) (by omega) HS2.out (by omega)
             have HL2 : Hid (∀ k, k < N → F2 k < N) := HS2.out.lt HLT.out (by omega)
             refine (IH.out d ee b F2 _ (by omega) (by omega) (by omega) hbN HP2.out HL2.out HB3.out hO2).mono ?_
             rintro e3 w3 ⟨rfl, F3, hS3, hR3, hO3, hb3⟩
             have HS3 := Lib.hid hS3
             have HR3 := Lib.hid hR3
             have hx3 := hx2.trans hb3
             clear hS3 hR3
             go_wp2_with fail
             all_goals
              have HJ := Lib.hid (merge_join (by omega) (by omega) HM.out.2.2 HS2.out HR2.out HS3.out HR3.out)
              go_end0
              exact ⟨rfl, F3, HSA.out.trans HJ.out.1, HJ.out.2, hO3, hx3⟩
         ·
          have q1 : decide ((i : Int) < m) = true := decide_eq_true (by omega)
          have q2 : decide ((m : Int) < (d : Int) + m - i) = true := decide_eq_true (by omega)
          have q3 : decide ((a : Int) < i) = true := decide_eq_true (by omega)
          have q4 : decide ((i : Int) < d) = true := decide_eq_true (by omega)
          have q5 : decide ((d : Int) < (d : Int) + m - i) = true := decide_eq_true (by omega)
          have q6 : decide ((d : Int) + m - i < b) = false := decide_eq_false (by omega)
          have hed := HED.out
          rw [hee] at q2 q5 q6
          have HB1 := Lib.hid (HB0.out.trans hbel)
          have HSA : Hid (SameOn f (rotF f i m ee) a b) := (rot_same f (by omega) (by omega)).wide (by omega) (by omega) (by omega)
          have HLT : Hid (∀ k, k < N → rotF f i m ee k < N) := HSA.out.lt HFN.out hbN
          have hdl : d + m = i + ee := by omega
          have HDL := Lib.hid hdl
          clear hed hdl
          go_wp2_with fail
          all_goals
           refine (rotate_any N i m ee f g cap _ _ (by omega) (by omega) (by omega) hN hO).mono ?_
           rintro e1 w1 ⟨rfl, hO1, hb1⟩
           have HB2 := Lib.hid (HB1.out.trans hb1)
           have hx1 := hbel.trans hb1
           go_wp2_with fail
           all_goals
            refine (IH.out a i d (rotF f i m ee) _ (by omega) (by omega) (by omega) (by omega) HM.out.1 HLT.out HB2.out hO1).mono ?_
            rintro e2 w2 ⟨rfl, F2, hS2, hR2, hO2, hb2⟩
            have HS2 := Lib.hid hS2
            have HR2 := Lib.hid hR2
            have HB3 := Lib.hid (HB2.out.trans hb2)
            have hx2 := hx1.trans hb2
            clear hS2 hR2
            go_wp2_with fail
            all_goals
             have HP2 : Hid (Parts key F2 d ee b) := HM.out.2.1.of_same (by omega) (by omega) HS2.out (by omega)
             have HL2 : Hid (∀ k, k < N → F2 k < N) := HS2.out.lt HLT.out (by omega)
             obtain ⟨F3, hF3⟩ : ∃ F3, F3 = F2 := ⟨_, rfl⟩
             have HS3 : Hid (SameOn F2 F3 d b) := by show SameOn _ _ _ _; rw [hF3]; exact SameOn.refl _ _ _
             have HR3 : Hid (SortR key F3 d b) := by show SortR _ _ _ _; rw [hF3]; exact HP2.out.done (by omega)
             have hO3 := hO2
             rw [← hF3] at hO3
             have hx3 := hx2
             clear hF3
             have HJ := Lib.hid (merge_join (by omega) (by omega) HM.out.2.2 HS2.out HR2.out HS3.out HR3.out)
             go_end0
             exact ⟨rfl, F3, HSA.out.trans HJ.out.1, HJ.out.2, hO3, hx3⟩
        ·
         by_cases zV : ee < b
         ·
          have q1 : decide ((i : Int) < m) = true := decide_eq_true (by omega)
          have q2 : decide ((m : Int) < (d : Int) + m - i) = true := decide_eq_true (by omega)
          have q3 : decide ((a : Int) < i) = false := decide_eq_false (by omega)
          have q4 : decide ((i : Int) < d) = true := decide_eq_true (by omega)
          have q5 : decide ((d : Int) < (d : Int) + m - i) = true := decide_eq_true (by omega)
          have q6 : decide ((d : Int) + m - i < b) = true := decide_eq_true (by omega)
          have hed := HED.out
          rw [hee] at q2 q5 q6
          have HB1 := Lib.hid (HB0.out.trans hbel)
          have HSA : Hid (SameOn f (rotF f i m ee) a b) := (rot_same f (by omega) (by omega)).wide (by omega) (by omega) (by omega)
          have HLT : Hid (∀ k, k < N → rotF f i m ee k < N) := HSA.out.lt HFN.out hbN
          have hdl : d + m = i + ee := by omega
          have HDL := Lib.hid hdl
          clear hed hdl
          go_wp2_with fail
          all_goals
           refine (rotate_any N i m ee f g cap _ _ (by omega) (by omega) (by omega) hN hO).mono ?_
           rintro e1 w1 ⟨rfl, hO1, hb1⟩
           have HB2 := Lib.hid (HB1.out.trans hb1)
           have hx1 := hbel.trans hb1
           go_wp2_with fail
           all_goals
            obtain ⟨F2, hF2⟩ : ∃ F2, F2 = rotF f i m ee := ⟨_, rfl⟩
            have HS2 : Hid (SameOn (rotF f i m ee) F2 a d) := by show SameOn _ _ _ _; rw [hF2]; exact SameOn.refl _ _ _
            have HR2 : Hid (SortR key F2 a d) := by show SortR _ _ _ _; rw [hF2]; exact HM.out.1.done (by omega)
            have hO2 := hO1
            rw [← hF2] at hO2
            have HB3 := HB2
            have hx2 := hx1
            clear hF2
            have HP2 : Hid (Parts key F2 d ee b) := HM.out.2.1.of_same (by omega) (by omega) HS2.out (by omega)
            have HL2 : Hid (∀ k, k < N → F2 k < N) := HS2.out.lt HLT.out (by omega)
            refine (IH.out d ee b F2 _ (by omega) (by omega) (by omega) hbN HP2.out HL2.out HB3.out hO2).mono ?_
            rintro e3 w3 ⟨rfl, F3, hS3, hR3, hO3, hb3⟩
            have HS3 := Lib.hid hS3
            have HR3 := Lib.hid hR3
            have hx3 := hx2.trans hb3
            clear hS3 hR3
            go_wp2_with fail
            all_goals
             have HJ := Lib.hid (merge_join (by omega) (by omega) HM.out.2.2 HS2.out HR2.out HS3.out HR3.out)
             go_end0
             exact ⟨rfl, F3, HSA.out.trans HJ.out.1, HJ.out.2, hO3, hx3⟩
         ·
          have q1 : decide ((i : Int) < m) = true := decide_eq_true (by omega)
          have q2 : decide ((m : Int) < (d : Int) + m - i) = true := decide_eq_true (by omega)
          have q3 : decide ((a : Int) < i) = false := decide_eq_false (by omega)
          have q4 : decide ((i : Int) < d) = true := decide_eq_true (by omega)
          have q5 : decide ((d : Int) < (d : Int) + m - i) = true := decide_eq_true (by omega)
          have q6 : decide ((d : Int) + m - i < b) = false := decide_eq_false (by omega)
          have hed := HED.out
          rw [hee] at q2 q5 q6
          have HB1 := Lib.hid (HB0.out.trans hbel)
          have HSA : Hid (SameOn f (rotF f i m ee) a b) := (rot_same f (by omega) (by omega)).wide (by omega) (by omega) (by omega)
          have HLT : Hid (∀ k, k < N → rotF f i m ee k < N) := HSA.out.lt HFN.out hbN
          have hdl : d + m = i + ee := by omega
          have HDL := Lib.hid hdl
          clear hed hdl
          go_wp2_with fail
          all_goals
           refine (rotate_any N i m ee f g cap _ _ (by omega) (by omega) (by omega) hN hO).mono ?_
           rintro e1 w1 ⟨rfl, hO1, hb1⟩
           have HB2 := Lib.hid (HB1.out.trans hb1)
           have hx1 := hbel.trans hb1
           go_wp2_with fail
           all_goals
            obtain ⟨F2, hF2⟩ : ∃ F2, F2 = rotF f i m ee := ⟨_, rfl⟩
            have HS2 : Hid (SameOn (rotF f i m ee) F2 a d) := by show SameOn _ _ _ _; rw [hF2]; exact SameOn.refl _ _ _
            have HR2 : Hid (SortR key F2 a d) := by show SortR _ _ _ _; rw [hF2]; exact HM.out.1.done (by omega)
            have hO2 := hO1
            rw [← hF2] at hO2
            have HB3 := HB2
            have hx2 := hx1
            clear hF2
            have HP2 : Hid (Parts key F2 d ee b) := HM.out.2.1.of_same (by omega) (by omega) HS2.out (by omega)
            have HL2 : Hid (∀ k, k < N → F2 k < N) := HS2.out.lt HLT.out (by omega)
            obtain ⟨F3, hF3⟩ : ∃ F3, F3 = F2 := ⟨_, rfl⟩
            have HS3 : Hid (SameOn F2 F3 d b) := by show SameOn _ _ _ _; rw [hF3]; exact SameOn.refl _ _ _
            have HR3 : Hid (SortR key F3 d b) := by show SortR _ _ _ _; rw [hF3]; exact HP2.out.done (by omega)
            have hO3 := hO2
            rw [← hF3] at hO3
            have hx3 := hx2
            clear hF3
            have HJ := Lib.hid (merge_join (by omega) (by omega) HM.out.2.2 HS2.out HR2.out HS3.out HR3.out)
            go_end0
            exact ⟨rfl, F3, HSA.out.trans HJ.out.1, HJ.out.2, hO3, hx3⟩
       ·
        by_cases zZ : a < i
        ·
         by_cases zV : ee < b
         ·
          have q1 : decide ((i : Int) < m) = true := decide_eq_true (by omega)
          have q2 : decide ((m : Int) < (d : Int) + m - i) = false := decide_eq_false (by omega)
          have q3 : decide ((a : Int) < i) = true := decide_eq_true (by omega)
          have q4 : decide ((i : Int) < d) = false := decide_eq_false (by omega)
          have q5 : decide ((d : Int) < (d : Int) + m - i) = true := decide_eq_true (by omega)
          have q6 : decide ((d : Int) + m - i < b) = true := decide_eq_true (by omega)
          have hed := HED.out
          rw [hee] at q2 q5 q6
          have HB1 := Lib.hid (HB0.out.trans hbel)
          have HSA : Hid (SameOn f (rotF f i m ee) a b) := (rot_same f (by omega) (by omega)).wide (by omega) (by omega) (by omega)
          have HLT : Hid (∀ k, k < N → rotF f i m ee k < N) := HSA.out.lt HFN.out hbN
          have hdl : d + m = i + ee := by omega
          have HDL := Lib.hid hdl
          clear hed hdl
          go_wp2_with fail
          all_goals
           have hO1 : Own wr g .i64 3 (ordL (rotF f i m ee) N) := by
            have z : rotF f i m ee = f := by
             rw [show ee = m by omega]; exact rot_none f i m
            rw [z]; exact hO
           have HB2 := HB1
           have hx1 := hbel
           obtain ⟨F2, hF2⟩ : ∃ F2, F2 = rotF f i m ee := ⟨_, rfl⟩
           have HS2 : Hid (SameOn (rotF f i m ee) F2 a d) := by show SameOn _ _ _ _; rw [hF2]; exact SameOn.refl _ _ _
           have HR2 : Hid (SortR key F2 a d) := by show SortR _ _ _ _; rw [hF2]; exact HM.out.1.done (by omega)
           have hO2 := hO1
           rw [← hF2] at hO2
           have HB3 := HB2
           have hx2 := hx1
           clear hF2
           have HP2 : Hid (Parts key F2 d ee b) := HM.out.2.1.of_same (by omega) (by omega) HS2.out (by omega)
           have HL2 : Hid (∀ k, k < N → F2 k < N) := HS2.out.lt HLT.out (by omega)
           refine (IH.out d ee b F2 _ (by omega) (by omega) (by omega) hbN HP2.out HL2.out HB3.out hO2).mono ?_
           rintro e3 w3 ⟨rfl, F3, hS3, hR3, hO3, hb3⟩
           have HS3 := Lib.hid hS3
           have HR3 := Lib.hid hR3
           have hx3 := hx2.trans hb3
           clear hS3 hR3
           go_wp2_with fail
           all_goals
            have HJ := Lib.hid (merge_join (by omega) (by omega) HM.out.2.2 HS2.out HR2.out HS3.out HR3.out)
            go_end0
            exact ⟨rfl, F3, HSA.out.trans HJ.out.1, HJ.out.2, hO3, hx3⟩
         ·
          have q1 : decide ((i : Int) < m) = true := decide_eq_true (by omega)
          have q2 : decide ((m : Int) < (d : Int) + m - i) = false := decide_eq_false (by omega)
          have q3 : decide ((a : Int) < i) = true := decide_eq_true (by omega)
          have q4 : decide ((i : Int) < d) = false := decide_eq_false (by omega)
          have q5 : decide ((d : Int) < (d : Int) + m - i) = true := decide_eq_true (by omega)
          have q6 : decide ((d : Int) + m - i < b) = false := decide_eq_false (by omega)
          have hed := HED.out
          rw [hee] at q2 q5 q6
          have HB1 := Lib.hid (HB0.out.trans hbel)
          have HSA : Hid (SameOn f (rotF f i m ee) a b) := (rot_same f (by omega) (by omega)).wide (by omega) (by omega) (by omega)
          have HLT : Hid (∀ k, k < N → rotF f i m ee k < N) := HSA.out.lt HFN.out hbN
          have hdl : d + m = i + ee := by omega
          have HDL := Lib.hid hdl
          clear hed hdl
          go_wp2_with fail
          all_goals
           have hO1 : Own wr g .i64 3 (ordL (rotF f i m ee) N) := by
            have z : rotF f i m ee = f := by
             rw [show ee = m by omega]; exact rot_none f i m
            rw [z]; exact hO
           have HB2 := HB1
           have hx1 := hbel
           obtain ⟨F2, hF2⟩ : ∃ F2, F2 = rotF f i m ee := ⟨_, rfl⟩
           have HS2 : Hid (SameOn (rotF f i m ee) F2 a d) := by show SameOn _ _ _ _; rw [hF2]; exact SameOn.refl _ _ _
           have HR2 : Hid (SortR key F2 a d) := by show SortR _ _ _ _; rw [hF2]; exact HM.out.1.done (by omega)
           have hO2 := hO1
           rw [← hF2] at hO2
           have HB3 := HB2
           have hx2 := hx1
           clear hF2
           have HP2 : Hid (Parts key F2 d ee b) := HM.out.2.1.of_same (by omega) (by omega) HS2.out (by omega)
           have HL2 : Hid (∀ k, k < N → F2 k < N) := HS2.out.lt HLT.out (by omega)
           obtain ⟨F3, hF3⟩ : ∃ F3, F3 = F2 := ⟨_, rfl⟩
           have HS3 : Hid (SameOn F2 F3 d b) := by show SameOn _ _ _ _; rw [hF3]; exact SameOn.refl _ _ _
           have HR3 : Hid (SortR key F3 d b) := by show SortR _ _ _ _; rw [hF3]; exact HP2.out.done (by omega)
           have hO3 := hO2
           rw [← hF3] at hO3
           have hx3 := hx2
           clear hF3
           have HJ := Lib.hid (merge_join (by omega) (by omega) HM.out.2.2 HS2.out HR2.out HS3.out HR3.out)
           go_end0
           exact ⟨rfl, F3, HSA.out.trans HJ.out.1, HJ.out.2, hO3, hx3⟩
        ·
         by_cases zV : ee < b
         ·
          have q1 : decide ((i : Int) < m) = true := decide_eq_true (by omega)
          have q2 : decide ((m : Int) < (d : Int) + m - i) = false := decide_eq_false (by omega)
          have q3 : decide ((a : Int) < i) = false := decide_eq_false (by omega)
          have q4 : decide ((i : Int) < d) = false := decide_eq_false (by omega)
          have q5 : decide ((d : Int) < (d : Int) + m - i) = true := decide_eq_true (by omega)
          have q6 : decide ((d : Int) + m - i < b) = true := decide_eq_true (by omega)
          have hed := HED.out
          rw [hee] at q2 q5 q6
          have HB1 := Lib.hid (HB0.out.trans hbel)
          have HSA : Hid (SameOn f (rotF f i m ee) a b) := (rot_same f (by omega) (by omega)).wide (by omega) (by omega) (by omega)
          have HLT : Hid (∀ k, k < N → rotF f i m ee k < N) := HSA.out.lt HFN.out hbN
          have hdl : d + m = i + ee := by omega
          have HDL := Lib.hid hdl
          clear hed hdl
          go_wp2_with fail
          all_goals
           have hO1 : Own wr g .i64 3 (ordL (rotF f i m ee) N) := by
            have z : rotF f i m ee = f := by
             rw [show ee = m by omega]; exact rot_none f i m
            rw [z]; exact hO
           have HB2 := HB1
           have hx1 := hbel
           obtain ⟨F2, hF2⟩ : ∃ F2, F2 = rotF f i m ee := ⟨_, rfl⟩
           have HS2 : Hid (SameOn (rotF f i m ee) F2 a d) := by show SameOn _ _ _ _; rw [hF2]; exact SameOn.refl _ _ _
           have HR2 : Hid (SortR key F2 a d) := by show SortR _ _ _ _; rw [hF2]; exact HM.out.1.done (by omega)
           have hO2 := hO1
           rw [← hF2] at hO2
           have HB3 := HB2
           have hx2 := hx1
           clear hF2
           have HP2 : Hid (Parts key F2 d ee b) := HM.out.2.1.of_same (by omega) (by omega) HS2.out (by omega)
           have HL2 : Hid (∀ k, k < N → F2 k < N) := HS2.out.lt HLT.out (by omega)
           refine (IH.out d ee b F2 _ (by omega) (by omega) (by omega) hbN HP2.out HL2.out HB3.out hO2).mono ?_
           rintro e3 w3 ⟨rfl, F3, hS3, hR3, hO3, hb3⟩
           have HS3 := Lib.hid hS3
           have HR3 := Lib.hid hR3
           have hx3 := hx2.trans hb3
           clear hS3 hR3
           go_wp2_with fail
           all_goals
            have HJ := Lib.hid (merge_join (by omega) (by omega) HM.out.2.2 HS2.out HR2.out HS3.out HR3.out)
            go_end0
            exact ⟨rfl, F3, HSA.out.trans HJ.out.1, HJ.out.2, hO3, hx3⟩
         ·
          have q1 : decide ((i : Int) < m) = true := decide_eq_true (by omega)
          have q2 : decide ((m : Int) < (d : Int) + m - i) = false := decide_eq_false (by omega)
          have q3 : decide ((a : Int) < i) = false := decide_eq_false (by omega)
          have q4 : decide ((i : Int) < d) = false := decide_eq_false (by omega)
          have q5 : decide ((d : Int) < (d : Int) + m - i) = true := decide_eq_true (by omega)
          have q6 : decide ((d : Int) + m - i < b) = false := decide_eq_false (by omega)
          have hed := HED.out
          rw [hee] at q2 q5 q6
          have HB1 := Lib.hid (HB0.out.trans hbel)
          have HSA : Hid (SameOn f (rotF f i m ee) a b) := (rot_same f (by omega) (by omega)).wide (by omega) (by omega) (by omega)
          have HLT : Hid (∀ k, k < N → rotF f i m ee k < N) := HSA.out.lt HFN.out hbN
          have hdl : d + m = i + ee := by omega
          have HDL := Lib.hid hdl
          clear hed hdl
          go_wp2_with fail
          all_goals
           have hO1 : Own wr g .i64 3 (ordL (rotF f i m ee) N) := by
            have z : rotF f i m ee = f := by
             rw [show ee = m by omega]; exact rot_none f i m
            rw [z]; exact hO
           have HB2 := HB1
           have hx1 := hbel
           obtain ⟨F2, hF2⟩ : ∃ F2, F2 = rotF f i m ee := ⟨_, rfl⟩
           have HS2 : Hid (SameOn (rotF f i m ee) F2 a d) := by show SameOn _ _ _ _; rw [hF2]; exact SameOn.refl _ _ _
           have HR2 : Hid (SortR key F2 a d) := by show SortR _ _ _ _; rw [hF2]; exact HM.out.1.done (by omega)
           have hO2 := hO1
           rw [← hF2] at hO2
           have HB3 := HB2
           have hx2 := hx1
           clear hF2
           have HP2 : Hid (Parts key F2 d ee b) := HM.out.2.1.of_same (by omega) (by omega) HS2.out (by omega)
           have HL2 : Hid (∀ k, k < N → F2 k < N) := HS2.out.lt HLT.out (by omega)
           obtain ⟨F3, hF3⟩ : ∃ F3, F3 = F2 := ⟨_, rfl⟩
           have HS3 : Hid (SameOn F2 F3 d b) := by show SameOn _ _ _ _; rw [hF3]; exact SameOn.refl _ _ _
           have HR3 : Hid (SortR key F3 d b) := by show SortR _ _ _ _; rw [hF3]; exact HP2.out.done (by omega)
           have hO3 := hO2
           rw [← hF3] at hO3
           have hx3 := hx2
           clear hF3
           have HJ := Lib.hid (merge_join (by omega) (by omega) HM.out.2.2 HS2.out HR2.out HS3.out HR3.out)
           go_end0
           exact ⟨rfl, F3, HSA.out.trans HJ.out.1, HJ.out.2, hO3, hx3⟩
    ·
     have tm : decide ((m : Int) > d) = false := decide_eq_false (by omega)
     obtain ⟨s0, hs0⟩ : ∃ s0 : Nat, s0 = a := ⟨_, rfl⟩
     have hq0 : True := trivial
     have hs1 : a ≤ s0 ∧ s0 ≤ m ∧ d + m ≤ b + s0 ∧ (s0 = a ∨ s0 + b = d + m) := by omega
     have HS0 := Lib.hid hs0
     clear hs0
     go_enter Tryz.func64, Tryz.ntmps64
     go_wp2_with fail
     go_loopw [20, 21] (fun iv jv wr => ∃ i j : Nat, s0 ≤ i ∧ i ≤ j ∧ j ≤ m ∧ iv = .int .i64 i ∧ jv = .int .i64 j ∧ Hid (∀ c, s0 ≤ c → c < i → LtK key (f c) (f (d + m - 1 - c))) ∧ Hid (∀ c, j ≤ c → c < m → LtK key (f (d + m - 1 - c)) (f c)) ∧ Own wr g .i64 3 (ordL f N) ∧ Below g w wr)
      (fun iv jv _ => (intOf jv).toNat - (intOf iv).toNat)
     case atStart => exact ⟨s0, m, Nat.le_refl _, by omega, Nat.le_refl _, by first | rfl | (rw [HS0.out]), rfl, fun k h1 h2 => by omega, fun k h1 h2 => by omega, hO, Below.refl _ _⟩
     case round =>
      clear hO hq0
      obtain ⟨i, j, hi, hij, hj, rfl, rfl, H1, H2, hO, hbel⟩ := hrel
      by_cases hlt : i < j
      ·
       have hlt' : (i : Int) < j := by omega
       obtain ⟨h, hh⟩ : ∃ h : Nat, (i + j) / 2 = h := ⟨_, rfl⟩
       have hw3 : IntKind.i64.wrap ((i : Int) + j) = (i : Int) + j := IntWalk.i64_in _ (by omega)
       have hhq : ((i : Int) + j) / 2 = (h : Int) := by omega
       have hhb : i ≤ h ∧ h < j := by omega
       have hh0 : (0 : Int) ≤ h := by omega
       have hhN : (h : Int) < N := by omega
       have hwh : IntKind.i64.wrap ((h : Int) + 1) = ((h + 1 : Nat) : Int) := by rw [IntWalk.i64_in _ (by omega)]; omega
       clear hh
       obtain ⟨u, hu⟩ : ∃ u : Nat, d + m - 1 - h = u := ⟨_, rfl⟩
       have HU := Lib.hid hu
       have hub : m ≤ u ∧ u < b := by omega
       have huq : (d : Int) + m - 1 - h = (u : Int) := by omega
       have hwu : IntKind.i64.wrap ((d : Int) + m - 1 - h) = (d : Int) + m - 1 - h := IntWalk.i64_in _ (by omega)
       have huN : (u : Int) < N := by omega
       have hu0 : (0 : Int) ≤ u := by omega
       clear hu
       go_upto_region 35 with (fail)
       have cp := hO.cell u (by rw [ordL_length]; omega)
       have cq := hO.cell h (by rw [ordL_length]; omega)
       rw [ordL_get f (show u < N by omega)] at cp
       rw [ordL_get f (show h < N by omega)] at cq
       have HC : Hid (∀ W, Below g w0 W → Calls Tryz.prog 27 #[.int .i64 (f u : Nat), .int .i64 (f h : Nat), .pointer (some ⟨bx, 0, none⟩)] W (fun e w' => e = .returned (.int .i64 (key (f h) - key (f u))) ∧ Quiet W w')) := HF.out (f u) (f h) (HFN.out u (by omega)) (HFN.out h (by omega))
       have kp := HK.out (f u) (HFN.out u (by omega))
       have kq := HK.out (f h) (HFN.out h (by omega))
       have HBL := Lib.hid (HB0.out.trans hbel)
       have HO := Lib.hid hO
       have HBE := Lib.hid hbel
       by_cases cc : key (f h) < key (f u)
       ·
        have tc : decide (key (f h) - key (f u) < 0) = true := decide_eq_true (by omega)
        have H3 : Hid (∀ c, h ≤ c → c < m → LtK key (f (d + m - 1 - c)) (f c)) := fun c k1 k2 => by
         have q := LtK.of_gt (key := key) cc
         have hU := HU.out
         rcases Nat.lt_or_ge h c with z | z
         ·
          have q2 := HP.out.l h c (by omega) z (by omega)
          have q3 := HP.out.r (d + m - 1 - c) u (by omega) (by omega) (by omega)
          exact (q3.trans q).trans q2
         ·
          rw [show c = h by omega, hU]; exact q
        clear cc kp kq hO hbel
        generalize key (f h) - key (f u) = dk at *
        go_wp2_with fail
        go_quiet ((go_at_call 27; first | exact quiet_at0 (HC.out _ (below_dn HBL.out _)) | exact quiet_at (HC.out _ (below_dn HBL.out _))))
        go_wp2_with fail
        exact ⟨⟨i, h, hi, by omega, by omega, rfl, rfl, H1, H3, HO.out.drewN _, below_dn HBE.out _⟩, by simp [intOf]; omega⟩
       ·
        have tc : decide (key (f h) - key (f u) < 0) = false := decide_eq_false (by omega)
        have H3 : Hid (∀ c, s0 ≤ c → c < h + 1 → LtK key (f c) (f (d + m - 1 - c))) := fun c k1 k2 => by
         have q := (HP.out.lt_iff (i := h) (j := u) (by omega) (by omega) (by omega) (by omega)).2 cc
         have hU := HU.out
         rcases Nat.lt_or_ge c h with z | z
         ·
          have q2 := HP.out.l c h (by omega) z (by omega)
          have q3 := HP.out.r u (d + m - 1 - c) (by omega) (by omega) (by omega)
          exact (q2.trans q).trans q3
         ·
          rw [show c = h by omega, hU]; exact q
        clear cc kp kq hO hbel
        generalize key (f h) - key (f u) = dk at *
        go_wp2_with fail
        go_quiet ((go_at_call 27; first | exact quiet_at0 (HC.out _ (below_dn HBL.out _)) | exact quiet_at (HC.out _ (below_dn HBL.out _))))
        go_wp2_with fail
        exact ⟨⟨h + 1, j, by omega, by omega, hj, by go_num, rfl, H3, H2, HO.out.drewN _, below_dn HBE.out _⟩, by simp [intOf]; omega⟩
      ·
       obtain rfl : i = j := by omega
       have hws : IntKind.i64.wrap ((d : Int) + m - i) = (d : Int) + m - i := IntWalk.i64_in _ (by omega)
       obtain ⟨ee, hee0⟩ : ∃ ee : Nat, ee = d + m - i := ⟨_, rfl⟩
       have hem : m ≤ ee ∧ ee ≤ b := by omega
       have HEE := Lib.hid hee0
       have hed : d = i + (ee - m) := by omega
       have HM := Lib.hid (merge_rot HP.out (show a ≤ i by omega) (show i ≤ m by omega) hem.1 hem.2 hed (fun p1 p2 => by
        have q := H1.out (i - 1) (by omega) (by omega)
        rw [show d + m - 1 - (i - 1) = ee by omega] at q
        exact q) (fun p1 p2 => by
        have q := H2.out i (Nat.le_refl _) (by omega)
        rw [show d + m - 1 - i = ee - 1 by omega] at q
        exact q))
       have HED := Lib.hid hed
       have hee : (d : Int) + m - i = (ee : Int) := by omega
       clear hed hee0
       by_cases zX : i < m
       ·
        by_cases zY : i < d
        ·
         by_cases zZ : a < i
         ·
          by_cases zV : ee < b
          ·
           have q1 : decide ((i : Int) < m) = true := decide_eq_true (by omega)
           have q2 : decide ((m : Int) < (d : Int) + m - i) = true := decide_eq_true (by omega)
           have q3 : decide ((a : Int) < i) = true := decide_eq_true (by omega)
           have q4 : decide ((i : Int) < d) = true := decide_eq_true (by omega)
           have q5 : decide ((d : Int) < (d : Int) + m - i) = true := decide_eq_true (by omega)
           have q6 : decide ((d : Int) + m - i < b) = true := decide_eq_true (by omega)
           have hed := HED.out
           rw [hee] at q2 q5 q6
           have HB1 := Lib.hid (HB0.out.trans hbel)
           have HSA : Hid (SameOn f (rotF f i m ee) a b) := (rot_same f (by omega) (by omega)).wide (by omega) (by omega) (by omega)
           have HLT : Hid (∀ k, k < N → rotF f i m ee k < N) := HSA.out.lt HFN.out hbN
           have hdl : d + m = i + ee := by omega
           have HDL := Lib.hid hdl
           clear hed hdl
           go_wp2_with fail
           all_goals
            refine (rotate_any N i m ee f g cap _ _ (by omega) (by omega) (by omega) hN hO).mono ?_
            rintro e1 w1 ⟨rfl, hO1, hb1⟩
            have HB2 := Lib.hid (HB1.out.trans hb1)
            have hx1 := hbel.trans hb1
            go_wp2_with fail
            all_goals
             refine (IH.out a i d (rotF f i m ee) _ (by omega) (by omega) (by omega) (by omega) HM.out.1 HLT.out HB2.out hO1).mono ?_
             rintro e2 w2 ⟨rfl, F2, hS2, hR2, hO2, hb2⟩
             have HS2 := Lib.hid hS2
             have HR2 := Lib.hid hR2
             have HB3 := Lib.hid (HB2.out.trans hb2)
             have hx2 := hx1.trans hb2
             clear hS2 hR2
             go_wp2_with fail
             all_goals
              have HP2 : Hid (Parts key F2 d ee b) := HM.out.2.1.of_same (by omega) (by omega) HS2.out (by omega)
              have HL2 : Hid (∀ k, k < N → F2 k < N) := HS2.out.lt HLT.out (by omega)
              refine (IH.out d ee b F2 _ (by omega) (by omega) (by omega) hbN HP2.out HL2.out HB3.out hO2).mono ?_
              rintro e3 w3 ⟨rfl, F3, hS3, hR3, hO3, hb3⟩
              have HS3 := Lib.hid hS3
              have HR3 := Lib.hid hR3
              have hx3 := hx2.trans hb3
              clear hS3 hR3
              go_wp2_with fail
              all_goals
               have HJ := Lib.hid (merge_join (by omega) (by omega) HM.out.2.2 HS2.out HR2.out HS3.out HR3.out)
               go_end0
               exact ⟨rfl, F3, HSA.out.trans HJ.out.1, HJ.out.2, hO3, hx3⟩
          ·
           have q1 : decide ((i : Int) < m) = true := decide_eq_true (by omega)
           have q2 : decide ((m : Int) < (d : Int) + m - i) = true := decide_eq_true (by omega)
           have q3 : decide ((a : Int) < i) = true := decide_eq_true (by omega)
           have q4 : decide ((i : Int) < d) = true := decide_eq_true (by omega)
           have q5 : decide ((d : Int) < (d : Int) + m - i) = true := decide_eq_true (by omega)
           have q6 : decide ((d : Int) + m - i < b) = false := decide_eq_false (by omega)
           have hed := HED.out
           rw [hee] at q2 q5 q6
           have HB1 := Lib.hid (HB0.out.trans hbel)
           have HSA : Hid (SameOn f (rotF f i m ee) a b) := (rot_same f (by omega) (by omega)).wide (by omega) (by omega) (by omega)
           have HLT : Hid (∀ k, k < N → rotF f i m ee k < N) := HSA.out.lt HFN.out hbN
           have hdl : d + m = i + ee := by omega
           have HDL := Lib.hid hdl
           clear hed hdl
           go_wp2_with fail
           all_goals
            refine (rotate_any N i m ee f g cap _ _ (by omega) (by omega) (by omega) hN hO).mono ?_
            rintro e1 w1 ⟨rfl, hO1, hb1⟩
            have HB2 := Lib.hid (HB1.out.trans hb1)
            have hx1 := hbel.trans hb1
            go_wp2_with fail
            all_goals
             refine (IH.out a i d (rotF f i m ee) _ (by omega) (by omega) (by omega) (by omega) HM.out.1 HLT.out HB2.out hO1).mono ?_
             rintro e2 w2 ⟨rfl, F2, hS2, hR2, hO2, hb2⟩
             have HS2 := Lib.hid hS2
             have HR2 := Lib.hid hR2
             have HB3 := Lib.hid (HB2.out.trans hb2)
             have hx2 := hx1.trans hb2
             clear hS2 hR2
             go_wp2_with fail
             all_goals
              have HP2 : Hid (Parts key F2 d ee b) := HM.out.2.1.of_same (by omega) (by omega) HS2.out (by omega)
              have HL2 : Hid (∀ k, k < N → F2 k < N) := HS2.out.lt HLT.out (by omega)
              obtain ⟨F3, hF3⟩ : ∃ F3, F3 = F2 := ⟨_, rfl⟩
              have HS3 : Hid (SameOn F2 F3 d b) := by show SameOn _ _ _ _; rw [hF3]; exact SameOn.refl _ _ _
              have HR3 : Hid (SortR key F3 d b) := by show SortR _ _ _ _; rw [hF3]; exact HP2.out.done (by omega)
              have hO3 := hO2
              rw [← hF3] at hO3
              have hx3 := hx2
              clear hF3
              have HJ := Lib.hid (merge_join (by omega) (by omega) HM.out.2.2 HS2.out HR2.out HS3.out HR3.out)
              go_end0
              exact ⟨rfl, F3, HSA.out.trans HJ.out.1, HJ.out.2, hO3, hx3⟩
         ·
          by_cases zV : ee < b
          ·
           have q1 : decide ((i : Int) < m) = true := decide_eq_true (by omega)
           have q2 : decide ((m : Int) < (d : Int) + m - i) = true := decide_eq_true (by omega)
           have q3 : decide ((a : Int) < i) = false := decide_eq_false (by omega)
           have q4 : decide ((i : Int) < d) = true := decide_eq_true (by omega)
           have q5 : decide ((d : Int) < (d : Int) + m - i) = true := decide_eq_true (by omega)
           have q6 : decide ((d : Int) + m - i < b) = true := decide_eq_true (by omega)
           have hed := HED.out
           rw [hee] at q2 q5 q6
           have HB1 := Lib.hid (HB0.out.trans hbel)
           have HSA : Hid (SameOn f (rotF f i m ee) a b) := (rot_same f (by omega) (by omega)).wide (by omega) (by omega) (by omega)
           have HLT : Hid (∀ k, k < N → rotF f i m ee k < N) := HSA.out.lt HFN.out hbN
           have hdl : d + m = i + ee := by omega
           have HDL := Lib.hid hdl
           clear hed hdl
           go_wp2_with fail
           all_goals
            refine (rotate_any N i m ee f g cap _ _ (by omega) (by omega) (by omega) hN hO).mono ?_
            rintro e1 w1 ⟨rfl, hO1, hb1⟩
            have HB2 := Lib.hid (HB1.out.trans hb1)
            have hx1 := hbel.trans hb1
            go_wp2_with fail
            all_goals
             obtain ⟨F2, hF2⟩ : ∃ F2, F2 = rotF f i m ee := ⟨_, rfl⟩
             have HS2 : Hid (SameOn (rotF f i m ee) F2 a d) := by show SameOn _ _ _ _; rw [hF2]; exact SameOn.refl _ _ _
             have HR2 : Hid (SortR key F2 a d) := by show SortR _ _ _ _; rw [hF2]; exact HM.out.1.done (by omega)
             have hO2 := hO1
             rw [← hF2] at hO2
             have HB3 := HB2
             have hx2 := hx1
             clear hF2
             have HP2 : Hid (Parts key F2 d ee b) := HM.out.2.1.of_same (by omega) (by omega) HS2.out (by omega)
             have HL2 : Hid (∀ k, k < N → F2 k < N) := HS2.out.lt HLT.out (by omega)
             refine (IH.out d ee b F2 _ (by omega) (by omega) (by omega) hbN HP2.out HL2.out HB3.out hO2).mono ?_
             rintro e3 w3 ⟨rfl, F3, hS3, hR3, hO3, hb3⟩
             have HS3 := Lib.hid hS3
             have HR3 := Lib.hid hR3
             have hx3 := hx2.trans hb3
             clear hS3 hR3
             go_wp2_with fail
             all_goals
              have HJ := Lib.hid (merge_join (by omega) (by omega) HM.out.2.2 HS2.out HR2.out HS3.out HR3.out)
              go_end0
              exact ⟨rfl, F3, HSA.out.trans HJ.out.1, HJ.out.2, hO3, hx3⟩
          ·
           have q1 : decide ((i : Int) < m) = true := decide_eq_true (by omega)
           have q2 : decide ((m : Int) < (d : Int) + m - i) = true := decide_eq_true (by omega)
           have q3 : decide ((a : Int) < i) = false := decide_eq_false (by omega)
           have q4 : decide ((i : Int) < d) = true := decide_eq_true (by omega)
           have q5 : decide ((d : Int) < (d : Int) + m - i) = true := decide_eq_true (by omega)
           have q6 : decide ((d : Int) + m - i < b) = false := decide_eq_false (by omega)
           have hed := HED.out
           rw [hee] at q2 q5 q6
           have HB1 := Lib.hid (HB0.out.trans hbel)
           have HSA : Hid (SameOn f (rotF f i m ee) a b) := (rot_same f (by omega) (by omega)).wide (by omega) (by omega) (by omega)
           have HLT : Hid (∀ k, k < N → rotF f i m ee k < N) := HSA.out.lt HFN.out hbN
           have hdl : d + m = i + ee := by omega
           have HDL := Lib.hid hdl
           clear hed hdl
           go_wp2_with fail
           all_goals
            refine (rotate_any N i m ee f g cap _ _ (by omega) (by omega) (by omega) hN hO).mono ?_
            rintro e1 w1 ⟨rfl, hO1, hb1⟩
            have HB2 := Lib.hid (HB1.out.trans hb1)
            have hx1 := hbel.trans hb1
            go_wp2_with fail
            all_goals
             obtain ⟨F2, hF2⟩ : ∃ F2, F2 = rotF f i m ee := ⟨_, rfl⟩
             have HS2 : Hid (SameOn (rotF f i m ee) F2 a d) := by show SameOn _ _ _ _; rw [hF2]; exact SameOn.refl _ _ _
             have HR2 : Hid (SortR key F2 a d) := by show SortR _ _ _ _; rw [hF2]; exact HM.out.1.done (by omega)
             have hO2 := hO1
             rw [← hF2] at hO2
             have HB3 := HB2
             have hx2 := hx1
             clear hF2
             have HP2 : Hid (Parts key F2 d ee b) := HM.out.2.1.of_same (by omega) (by omega) HS2.out (by omega)
             have HL2 : Hid (∀ k, k < N → F2 k < N) := HS2.out.lt HLT.out (by omega)
             obtain ⟨F3, hF3⟩ : ∃ F3, F3 = F2 := ⟨_, rfl⟩
             have HS3 : Hid (SameOn F2 F3 d b) := by show SameOn _ _ _ _; rw [hF3]; exact SameOn.refl _ _ _
             have HR3 : Hid (SortR key F3 d b) := by show SortR _ _ _ _; rw [hF3]; exact HP2.out.done (by omega)
             have hO3 := hO2
             rw [← hF3] at hO3
             have hx3 := hx2
             clear hF3
             have HJ := Lib.hid (merge_join (by omega) (by omega) HM.out.2.2 HS2.out HR2.out HS3.out HR3.out)
             go_end0
             exact ⟨rfl, F3, HSA.out.trans HJ.out.1, HJ.out.2, hO3, hx3⟩
        ·
         by_cases zZ : a < i
         ·
          by_cases zV : ee < b
          ·
           have q1 : decide ((i : Int) < m) = true := decide_eq_true (by omega)
           have q2 : decide ((m : Int) < (d : Int) + m - i) = false := decide_eq_false (by omega)
           have q3 : decide ((a : Int) < i) = true := decide_eq_true (by omega)
           have q4 : decide ((i : Int) < d) = false := decide_eq_false (by omega)
           have q5 : decide ((d : Int) < (d : Int) + m - i) = true := decide_eq_true (by omega)
           have q6 : decide ((d : Int) + m - i < b) = true := decide_eq_true (by omega)
           have hed := HED.out
           rw [hee] at q2 q5 q6
           have HB1 := Lib.hid (HB0.out.trans hbel)
           have HSA : Hid (SameOn f (rotF f i m ee) a b) := (rot_same f (by omega) (by omega)).wide (by omega) (by omega) (by omega)
           have HLT : Hid (∀ k, k < N → rotF f i m ee k < N) := HSA.out.lt HFN.out hbN
           have hdl : d + m = i + ee := by omega
           have HDL := Lib.hid hdl
           clear hed hdl
           go_wp2_with fail
           all_goals
            have hO1 : Own wr g .i64 3 (ordL (rotF f i m ee) N) := by
             have z : rotF f i m ee = f := by
              rw [show ee = m by omega]; exact rot_none f i m
             rw [z]; exact hO
            have HB2 := HB1
            have hx1 := hbel
            obtain ⟨F2, hF2⟩ : ∃ F2, F2 = rotF f i m ee := ⟨_, rfl⟩
            have HS2 : Hid (SameOn (rotF f i m ee) F2 a d) := by show SameOn _ _ _ _; rw [hF2]; exact SameOn.refl _ _ _
            have HR2 : Hid (SortR key F2 a d) := by show SortR _ _ _ _; rw [hF2]; exact HM.out.1.done (by omega)
            have hO2 := hO1
            rw [← hF2] at hO2
            have HB3 := HB2
            have hx2 := hx1
            clear hF2
            have HP2 : Hid (Parts key F2 d ee b) := HM.out.2.1.of_same (by omega) (by omega) HS2.out (by omega)
            have HL2 : Hid (∀ k, k < N → F2 k < N) := HS2.out.lt HLT.out (by omega)
            refine (IH.out d ee b F2 _ (by omega) (by omega) (by omega) hbN HP2.out HL2.out HB3.out hO2).mono ?_
            rintro e3 w3 ⟨rfl, F3, hS3, hR3, hO3, hb3⟩
            have HS3 := Lib.hid hS3
            have HR3 := Lib.hid hR3
            have hx3 := hx2.trans hb3
            clear hS3 hR3
            go_wp2_with fail
            all_goals
             have HJ := Lib.hid (merge_join (by omega) (by omega) HM.out.2.2 HS2.out HR2.out HS3.out HR3.out)
             go_end0
             exact ⟨rfl, F3, HSA.out.trans HJ.out.1, HJ.out.2, hO3, hx3⟩
          ·
           have q1 : decide ((i : Int) < m) = true := decide_eq_true (by omega)
           have q2 : decide ((m : Int) < (d : Int) + m - i) = false := decide_eq_false (by omega)
           have q3 : decide ((a : Int) < i) = true := decide_eq_true (by omega)
           have q4 : decide ((i : Int) < d) = false := decide_eq_false (by omega)
           have q5 : decide ((d : Int) < (d : Int) + m - i) = true := decide_eq_true (by omega)
           have q6 : decide ((d : Int) + m - i < b) = false := decide_eq_false (by omega)
           have hed := HED.out
           rw [hee] at q2 q5 q6
           have HB1 := Lib.hid (HB0.out.trans hbel)
           have HSA : Hid (SameOn f (rotF f i m ee) a b) := (rot_same f (by omega) (by omega)).wide (by omega) (by omega) (by omega)
           have HLT : Hid (∀ k, k < N → rotF f i m ee k < N) := HSA.out.lt HFN.out hbN
           have hdl : d + m = i + ee := by omega
           have HDL := Lib.hid hdl
           clear hed hdl
           go_wp2_with fail
           all_goals
            have hO1 : Own wr g .i64 3 (ordL (rotF f i m ee) N) := by
             have z : rotF f i m ee = f := by
              rw [show ee = m by omega]; exact rot_none f i m
             rw [z]; exact hO
            have HB2 := HB1
            have hx1 := hbel
            obtain ⟨F2, hF2⟩ : ∃ F2, F2 = rotF f i m ee := ⟨_, rfl⟩
            have HS2 : Hid (SameOn (rotF f i m ee) F2 a d) := by show SameOn _ _ _ _; rw [hF2]; exact SameOn.refl _ _ _
            have HR2 : Hid (SortR key F2 a d) := by show SortR _ _ _ _; rw [hF2]; exact HM.out.1.done (by omega)
            have hO2 := hO1
            rw [← hF2] at hO2
            have HB3 := HB2
            have hx2 := hx1
            clear hF2
            have HP2 : Hid (Parts key F2 d ee b) := HM.out.2.1.of_same (by omega) (by omega) HS2.out (by omega)
            have HL2 : Hid (∀ k, k < N → F2 k < N) := HS2.out.lt HLT.out (by omega)
            obtain ⟨F3, hF3⟩ : ∃ F3, F3 = F2 := ⟨_, rfl⟩
            have HS3 : Hid (SameOn F2 F3 d b) := by show SameOn _ _ _ _; rw [hF3]; exact SameOn.refl _ _ _
            have HR3 : Hid (SortR key F3 d b) := by show SortR _ _ _ _; rw [hF3]; exact HP2.out.done (by omega)
            have hO3 := hO2
            rw [← hF3] at hO3
            have hx3 := hx2
            clear hF3
            have HJ := Lib.hid (merge_join (by omega) (by omega) HM.out.2.2 HS2.out HR2.out HS3.out HR3.out)
            go_end0
            exact ⟨rfl, F3, HSA.out.trans HJ.out.1, HJ.out.2, hO3, hx3⟩
         ·
          by_cases zV : ee < b
          ·
           have q1 : decide ((i : Int) < m) = true := decide_eq_true (by omega)
           have q2 : decide ((m : Int) < (d : Int) + m - i) = false := decide_eq_false (by omega)
           have q3 : decide ((a : Int) < i) = false := decide_eq_false (by omega)
           have q4 : decide ((i : Int) < d) = false := decide_eq_false (by omega)
           have q5 : decide ((d : Int) < (d : Int) + m - i) = true := decide_eq_true (by omega)
           have q6 : decide ((d : Int) + m - i < b) = true := decide_eq_true (by omega)
           have hed := HED.out
           rw [hee] at q2 q5 q6
           have HB1 := Lib.hid (HB0.out.trans hbel)
           have HSA : Hid (SameOn f (rotF f i m ee) a b) := (rot_same f (by omega) (by omega)).wide (by omega) (by omega) (by omega)
           have HLT : Hid (∀ k, k < N → rotF f i m ee k < N) := HSA.out.lt HFN.out hbN
           have hdl : d + m = i + ee := by omega
           have HDL := Lib.hid hdl
           clear hed hdl
           go_wp2_with fail
           all_goals
            have hO1 : Own wr g .i64 3 (ordL (rotF f i m ee) N) := by
             have z : rotF f i m ee = f := by
              rw [show ee = m by omega]; exact rot_none f i m
             rw [z]; exact hO
            have HB2 := HB1
            have hx1 := hbel
            obtain ⟨F2, hF2⟩ : ∃ F2, F2 = rotF f i m ee := ⟨_, rfl⟩
            have HS2 : Hid (SameOn (rotF f i m ee) F2 a d) := by show SameOn _ _ _ _; rw [hF2]; exact SameOn.refl _ _ _
            have HR2 : Hid (SortR key F2 a d) := by show SortR _ _ _ _; rw [hF2]; exact HM.out.1.done (by omega)
            have hO2 := hO1
            rw [← hF2] at hO2
            have HB3 := HB2
            have hx2 := hx1
            clear hF2
            have HP2 : Hid (Parts key F2 d ee b) := HM.out.2.1.of_same (by omega) (by omega) HS2.out (by omega)
            have HL2 : Hid (∀ k, k < N → F2 k < N) := HS2.out.lt HLT.out (by omega)
            refine (IH.out d ee b F2 _ (by omega) (by omega) (by omega) hbN HP2.out HL2.out HB3.out hO2).mono ?_
            rintro e3 w3 ⟨rfl, F3, hS3, hR3, hO3, hb3⟩
            have HS3 := Lib.hid hS3
            have HR3 := Lib.hid hR3
            have hx3 := hx2.trans hb3
            clear hS3 hR3
            go_wp2_with fail
            all_goals
             have HJ := Lib.hid (merge_join (by omega) (by omega) HM.out.2.2 HS2.out HR2.out HS3.out HR3.out)
             go_end0
             exact ⟨rfl, F3, HSA.out.trans HJ.out.1, HJ.out.2, hO3, hx3⟩
          ·
           have q1 : decide ((i : Int) < m) = true := decide_eq_true (by omega)
           have q2 : decide ((m : Int) < (d : Int) + m - i) = false := decide_eq_false (by omega)
           have q3 : decide ((a : Int) < i) = false := decide_eq_false (by omega)
           have q4 : decide ((i : Int) < d) = false := decide_eq_false (by omega)
           have q5 : decide ((d : Int) < (d : Int) + m - i) = true := decide_eq_true (by omega)
           have q6 : decide ((d : Int) + m - i < b) = false := decide_eq_false (by omega)
           have hed := HED.out
           rw [hee] at q2 q5 q6
           have HB1 := Lib.hid (HB0.out.trans hbel)
           have HSA : Hid (SameOn f (rotF f i m ee) a b) := (rot_same f (by omega) (by omega)).wide (by omega) (by omega) (by omega)
           have HLT : Hid (∀ k, k < N → rotF f i m ee k < N) := HSA.out.lt HFN.out hbN
           have hdl : d + m = i + ee := by omega
           have HDL := Lib.hid hdl
           clear hed hdl
           go_wp2_with fail
           all_goals
            have hO1 : Own wr g .i64 3 (ordL (rotF f i m ee) N) := by
             have z : rotF f i m ee = f := by
              rw [show ee = m by omega]; exact rot_none f i m
             rw [z]; exact hO
            have HB2 := HB1
            have hx1 := hbel
            obtain ⟨F2, hF2⟩ : ∃ F2, F2 = rotF f i m ee := ⟨_, rfl⟩
            have HS2 : Hid (SameOn (rotF f i m ee) F2 a d) := by show SameOn _ _ _ _; rw [hF2]; exact SameOn.refl _ _ _
            have HR2 : Hid (SortR key F2 a d) := by show SortR _ _ _ _; rw [hF2]; exact HM.out.1.done (by omega)
            have hO2 := hO1
            rw [← hF2] at hO2
            have HB3 := HB2
            have hx2 := hx1
            clear hF2
            have HP2 : Hid (Parts key F2 d ee b) := HM.out.2.1.of_same (by omega) (by omega) HS2.out (by omega)
            have HL2 : Hid (∀ k, k < N → F2 k < N) := HS2.out.lt HLT.out (by omega)
            obtain ⟨F3, hF3⟩ : ∃ F3, F3 = F2 := ⟨_, rfl⟩
            have HS3 : Hid (SameOn F2 F3 d b) := by show SameOn _ _ _ _; rw [hF3]; exact SameOn.refl _ _ _
            have HR3 : Hid (SortR key F3 d b) := by show SortR _ _ _ _; rw [hF3]; exact HP2.out.done (by omega)
            have hO3 := hO2
            rw [← hF3] at hO3
            have hx3 := hx2
            clear hF3
            have HJ := Lib.hid (merge_join (by omega) (by omega) HM.out.2.2 HS2.out HR2.out HS3.out HR3.out)
            go_end0
            exact ⟨rfl, F3, HSA.out.trans HJ.out.1, HJ.out.2, hO3, hx3⟩
       ·
        by_cases zY : i < d
        ·
         by_cases zZ : a < i
         ·
          by_cases zV : ee < b
          ·
           have q1 : decide ((i : Int) < m) = false := decide_eq_false (by omega)
           have q2 : decide ((m : Int) < (d : Int) + m - i) = true := decide_eq_true (by omega)
           have q3 : decide ((a : Int) < i) = true := decide_eq_true (by omega)
           have q4 : decide ((i : Int) < d) = true := decide_eq_true (by omega)
           have q5 : decide ((d : Int) < (d : Int) + m - i) = false := decide_eq_false (by omega)
           have q6 : decide ((d : Int) + m - i < b) = true := decide_eq_true (by omega)
           have hed := HED.out
           rw [hee] at q2 q5 q6
           have HB1 := Lib.hid (HB0.out.trans hbel)
           have HSA : Hid (SameOn f (rotF f i m ee) a b) := (rot_same f (by omega) (by omega)).wide (by omega) (by omega) (by omega)
           have HLT : Hid (∀ k, k < N → rotF f i m ee k < N) := HSA.out.lt HFN.out hbN
           have hdl : d + m = i + ee := by omega
           have HDL := Lib.hid hdl
           clear hed hdl
           go_wp2_with fail
           all_goals
            have hO1 : Own wr g .i64 3 (ordL (rotF f i m ee) N) := by
             have z : rotF f i m ee = f := by
              rw [show m = i by omega]; exact rot_none' f i ee
             rw [z]; exact hO
            have HB2 := HB1
            have hx1 := hbel
            refine (IH.out a i d (rotF f i m ee) _ (by omega) (by omega) (by omega) (by omega) HM.out.1 HLT.out HB2.out hO1).mono ?_
            rintro e2 w2 ⟨rfl, F2, hS2, hR2, hO2, hb2⟩
            have HS2 := Lib.hid hS2
            have HR2 := Lib.hid hR2
            have HB3 := Lib.hid (HB2.out.trans hb2)
            have hx2 := hx1.trans hb2
            clear hS2 hR2
            go_wp2_with fail
            all_goals
             have HP2 : Hid (Parts key F2 d ee b) := HM.out.2.1.of_same (by omega) (by omega) HS2.out (by omega)
             have HL2 : Hid (∀ k, k < N → F2 k < N) := HS2.out.lt HLT.out (by omega)
             obtain ⟨F3, hF3⟩ : ∃ F3, F3 = F2 := ⟨_, rfl⟩
             have HS3 : Hid (SameOn F2 F3 d b) := by show SameOn _ _ _ _; rw [hF3]; exact SameOn.refl _ _ _
             have HR3 : Hid (SortR key F3 d b) := by show SortR _ _ _ _; rw [hF3]; exact HP2.out.done (by omega)
             have hO3 := hO2
             rw [← hF3] at hO3
             have hx3 := hx2
             clear hF3
             have HJ := Lib.hid (merge_join (by omega) (by omega) HM.out.2.2 HS2.out HR2.out HS3.out HR3.out)
             go_end0
             exact ⟨rfl, F3, HSA.out.trans HJ.out.1, HJ.out.2, hO3, hx3⟩
          ·
           have q1 : decide ((i : Int) < m) = false := decide_eq_false (by omega)
           have q2 : decide ((m : Int) < (d : Int) + m - i) = true := decide_eq_true (by omega)
           have q3 : decide ((a : Int) < i) = true := decide_eq_true (by omega)
           have q4 : decide ((i : Int) < d) = true := decide_eq_true (by omega)
           have q5 : decide ((d : Int) < (d : Int) + m - i) = false := decide_eq_false (by omega)
           have q6 : decide ((d : Int) + m - i < b) = false := decide_eq_false (by omega)
           have hed := HED.out
           rw [hee] at q2 q5 q6
           have HB1 := Lib.hid (HB0.out.trans hbel)
           have HSA : Hid (SameOn f (rotF f i m ee) a b) := (rot_same f (by omega) (by omega)).wide (by omega) (by omega) (by omega)
           have HLT : Hid (∀ k, k < N → rotF f i m ee k < N) := HSA.out.lt HFN.out hbN
           have hdl : d + m = i + ee := by omega
           have HDL := Lib.hid hdl
           clear hed hdl
           go_wp2_with fail
           all_goals
            have hO1 : Own wr g .i64 3 (ordL (rotF f i m ee) N) := by
             have z : rotF f i m ee = f := by
              rw [show m = i by omega]; exact rot_none' f i ee
             rw [z]; exact hO
            have HB2 := HB1
            have hx1 := hbel
            refine (IH.out a i d (rotF f i m ee) _ (by omega) (by omega) (by omega) (by omega) HM.out.1 HLT.out HB2.out hO1).mono ?_
            rintro e2 w2 ⟨rfl, F2, hS2, hR2, hO2, hb2⟩
            have HS2 := Lib.hid hS2
            have HR2 := Lib.hid hR2
            have HB3 := Lib.hid (HB2.out.trans hb2)
            have hx2 := hx1.trans hb2
            clear hS2 hR2
            go_wp2_with fail
            all_goals
             have HP2 : Hid (Parts key F2 d ee b) := HM.out.2.1.of_same (by omega) (by omega) HS2.out (by omega)
             have HL2 : Hid (∀ k, k < N → F2 k < N) := HS2.out.lt HLT.out (by omega)
             obtain ⟨F3, hF3⟩ : ∃ F3, F3 = F2 := ⟨_, rfl⟩
             have HS3 : Hid (SameOn F2 F3 d b) := by show SameOn _ _ _ _; rw [hF3]; exact SameOn.refl _ _ _
             have HR3 : Hid (SortR key F3 d b) := by show SortR _ _ _ _; rw [hF3]; exact HP2.out.done (by omega)
             have hO3 := hO2
             rw [← hF3] at hO3
             have hx3 := hx2
             clear hF3
             have HJ := Lib.hid (merge_join (by omega) (by omega) HM.out.2.2 HS2.out HR2.out HS3.out HR3.out)
             go_end0
             exact ⟨rfl, F3, HSA.out.trans HJ.out.1, HJ.out.2, hO3, hx3⟩
         ·
          by_cases zV : ee < b
          ·
           have q1 : decide ((i : Int) < m) = false := decide_eq_false (by omega)
           have q2 : decide ((m : Int) < (d : Int) + m - i) = true := decide_eq_true (by omega)
           have q3 : decide ((a : Int) < i) = false := decide_eq_false (by omega)
           have q4 : decide ((i : Int) < d) = true := decide_eq_true (by omega)
           have q5 : decide ((d : Int) < (d : Int) + m - i) = false := decide_eq_false (by omega)
           have q6 : decide ((d : Int) + m - i < b) = true := decide_eq_true (by omega)
           have hed := HED.out
           rw [hee] at q2 q5 q6
           have HB1 := Lib.hid (HB0.out.trans hbel)
           have HSA : Hid (SameOn f (rotF f i m ee) a b) := (rot_same f (by omega) (by omega)).wide (by omega) (by omega) (by omega)
           have HLT : Hid (∀ k, k < N → rotF f i m ee k < N) := HSA.out.lt HFN.out hbN
           have hdl : d + m = i + ee := by omega
           have HDL := Lib.hid hdl
           clear hed hdl
           go_wp2_with fail
           all_goals
            have hO1 : Own wr g .i64 3 (ordL (rotF f i m ee) N) := by
             have z : rotF f i m ee = f := by
              rw [show m = i by omega]; exact rot_none' f i ee
             rw [z]; exact hO
            have HB2 := HB1
            have hx1 := hbel
            obtain ⟨F2, hF2⟩ : ∃ F2, F2 = rotF f i m ee := ⟨_, rfl⟩
            have HS2 : Hid (SameOn (rotF f i m ee) F2 a d) := by show SameOn _ _ _ _; rw [hF2]; exact SameOn.refl _ _ _
            have HR2 : Hid (SortR key F2 a d) := by show SortR _ _ _ _; rw [hF2]; exact HM.out.1.done (by omega)
            have hO2 := hO1
            rw [← hF2] at hO2
            have HB3 := HB2
            have hx2 := hx1
            clear hF2
            have HP2 : Hid (Parts key F2 d ee b) := HM.out.2.1.of_same (by omega) (by omega) HS2.out (by omega)
            have HL2 : Hid (∀ k, k < N → F2 k < N) := HS2.out.lt HLT.out (by omega)
            obtain ⟨F3, hF3⟩ : ∃ F3, F3 = F2 := ⟨_, rfl⟩
            have HS3 : Hid (SameOn F2 F3 d b) := by show SameOn _ _ _ _; rw [hF3]; exact SameOn.refl _ _ _
            have HR3 : Hid (SortR key F3 d b) := by show SortR _ _ _ _; rw [hF3]; exact HP2.out.done (by omega)
            have hO3 := hO2
            rw [← hF3] at hO3
            have hx3 := hx2
            clear hF3
            have HJ := Lib.hid (merge_join (by omega) (by omega) HM.out.2.2 HS2.out HR2.out HS3.out HR3.out)
            go_end0
            exact ⟨rfl, F3, HSA.out.trans HJ.out.1, HJ.out.2, hO3, hx3⟩
          ·
           have q1 : decide ((i : Int) < m) = false := decide_eq_false (by omega)
           have q2 : decide ((m : Int) < (d : Int) + m - i) = true := decide_eq_true (by omega)
           have q3 : decide ((a : Int) < i) = false := decide_eq_false (by omega)
           have q4 : decide ((i : Int) < d) = true := decide_eq_true (by omega)
           have q5 : decide ((d : Int) < (d : Int) + m - i) = false := decide_eq_false (by omega)
           have q6 : decide ((d : Int) + m - i < b) = false := decide_eq_false (by omega)
           have hed := HED.out
           rw [hee] at q2 q5 q6
           have HB1 := Lib.hid (HB0.out.trans hbel)
           have HSA : Hid (SameOn f (rotF f i m ee) a b) := (rot_same f (by omega) (by omega)).wide (by omega) (by omega) (by omega)
           have HLT : Hid (∀ k, k < N → rotF f i m ee k < N) := HSA.out.lt HFN.out hbN
           have hdl : d + m = i + ee := by omega
           have HDL := Lib.hid hdl
           clear hed hdl
           go_wp2_with fail
           all_goals
            have hO1 : Own wr g .i64 3 (ordL (rotF f i m ee) N) := by
             have z : rotF f i m ee = f := by
              rw [show m = i by omega]; exact rot_none' f i ee
             rw [z]; exact hO
            have HB2 := HB1
            have hx1 := hbel
            obtain ⟨F2, hF2⟩ : ∃ F2, F2 = rotF f i m ee := ⟨_, rfl⟩
            have HS2 : Hid (SameOn (rotF f i m ee) F2 a d) := by show SameOn _ _ _ _; rw [hF2]; exact SameOn.refl _ _ _
            have HR2 : Hid (SortR key F2 a d) := by show SortR _ _ _ _; rw [hF2]; exact HM.out.1.done (by omega)
            have hO2 := hO1
            rw [← hF2] at hO2
            have HB3 := HB2
            have hx2 := hx1
            clear hF2
            have HP2 : Hid (Parts key F2 d ee b) := HM.out.2.1.of_same (by omega) (by omega) HS2.out (by omega)
            have HL2 : Hid (∀ k, k < N → F2 k < N) := HS2.out.lt HLT.out (by omega)
            obtain ⟨F3, hF3⟩ : ∃ F3, F3 = F2 := ⟨_, rfl⟩
            have HS3 : Hid (SameOn F2 F3 d b) := by show SameOn _ _ _ _; rw [hF3]; exact SameOn.refl _ _ _
            have HR3 : Hid (SortR key F3 d b) := by show SortR _ _ _ _; rw [hF3]; exact HP2.out.done (by omega)
            have hO3 := hO2
            rw [← hF3] at hO3
            have hx3 := hx2
            clear hF3
            have HJ := Lib.hid (merge_join (by omega) (by omega) HM.out.2.2 HS2.out HR2.out HS3.out HR3.out)
            go_end0
            exact ⟨rfl, F3, HSA.out.trans HJ.out.1, HJ.out.2, hO3, hx3⟩
        ·
         by_cases zZ : a < i
         ·
          by_cases zV : ee < b
          ·
           have q1 : decide ((i : Int) < m) = false := decide_eq_false (by omega)
           have q2 : decide ((m : Int) < (d : Int) + m - i) = false := decide_eq_false (by omega)
           have q3 : decide ((a : Int) < i) = true := decide_eq_true (by omega)
           have q4 : decide ((i : Int) < d) = false := decide_eq_false (by omega)
           have q5 : decide ((d : Int) < (d : Int) + m - i) = false := decide_eq_false (by omega)
           have q6 : decide ((d : Int) + m - i < b) = true := decide_eq_true (by omega)
           have hed := HED.out
           rw [hee] at q2 q5 q6
           have HB1 := Lib.hid (HB0.out.trans hbel)
           have HSA : Hid (SameOn f (rotF f i m ee) a b) := (rot_same f (by omega) (by omega)).wide (by omega) (by omega) (by omega)
           have HLT : Hid (∀ k, k < N → rotF f i m ee k < N) := HSA.out.lt HFN.out hbN
           have hdl : d + m = i + ee := by omega
           have HDL := Lib.hid hdl
           clear hed hdl
           go_wp2_with fail
           all_goals
            have hO1 : Own wr g .i64 3 (ordL (rotF f i m ee) N) := by
             have z : rotF f i m ee = f := by
              rw [show m = i by omega]; exact rot_none' f i ee
             rw [z]; exact hO
            have HB2 := HB1
            have hx1 := hbel
            obtain ⟨F2, hF2⟩ : ∃ F2, F2 = rotF f i m ee := ⟨_, rfl⟩
            have HS2 : Hid (SameOn (rotF f i m ee) F2 a d) := by show SameOn _ _ _ _; rw [hF2]; exact SameOn.refl _ _ _
            have HR2 : Hid (SortR key F2 a d) := by show SortR _ _ _ _; rw [hF2]; exact HM.out.1.done (by omega)
            have hO2 := hO1
            rw [← hF2] at hO2
            have HB3 := HB2
            have hx2 := hx1
            clear hF2
            have HP2 : Hid (Parts key F2 d ee b) := HM.out.2.1.of_same (by omega) (by omega) HS2.out (by omega)
            have HL2 : Hid (∀ k, k < N → F2 k < N) := HS2.out.lt HLT.out (by omega)
            obtain ⟨F3, hF3⟩ : ∃ F3, F3 = F2 := ⟨_, rfl⟩
            have HS3 : Hid (SameOn F2 F3 d b) := by show SameOn _ _ _ _; rw [hF3]; exact SameOn.refl _ _ _
            have HR3 : Hid (SortR key F3 d b) := by show SortR _ _ _ _; rw [hF3]; exact HP2.out.done (by omega)
            have hO3 := hO2
            rw [← hF3] at hO3
            have hx3 := hx2
            clear hF3
            have HJ := Lib.hid (merge_join (by omega) (by omega) HM.out.2.2 HS2.out HR2.out HS3.out HR3.out)
            go_end0
            exact ⟨rfl, F3, HSA.out.trans HJ.out.1, HJ.out.2, hO3, hx3⟩
          ·
           have q1 : decide ((i : Int) < m) = false := decide_eq_false (by omega)
           have q2 : decide ((m : Int) < (d : Int) + m - i) = false := decide_eq_false (by omega)
           have q3 : decide ((a : Int) < i) = true := decide_eq_true (by omega)
           have q4 : decide ((i : Int) < d) = false := decide_eq_false (by omega)
           have q5 : decide ((d : Int) < (d : Int) + m - i) = false := decide_eq_false (by omega)
           have q6 : decide ((d : Int) + m - i < b) = false := decide_eq_false (by omega)
           have hed := HED.out
           rw [hee] at q2 q5 q6
           have HB1 := Lib.hid (HB0.out.trans hbel)
           have HSA : Hid (SameOn f (rotF f i m ee) a b) := (rot_same f (by omega) (by omega)).wide (by omega) (by omega) (by omega)
           have HLT : Hid (∀ k, k < N → rotF f i m ee k < N) := HSA.out.lt HFN.out hbN
           have hdl : d + m = i + ee := by omega
           have HDL := Lib.hid hdl
           clear hed hdl
           go_wp2_with fail
           all_goals
            have hO1 : Own wr g .i64 3 (ordL (rotF f i m ee) N) := by
             have z : rotF f i m ee = f := by
              rw [show m = i by omega]; exact rot_none' f i ee
             rw [z]; exact hO
            have HB2 := HB1
            have hx1 := hbel
            obtain ⟨F2, hF2⟩ : ∃ F2, F2 = rotF f i m ee := ⟨_, rfl⟩
            have HS2 : Hid (SameOn (rotF f i m ee) F2 a d) := by show SameOn _ _ _ _; rw [hF2]; exact SameOn.refl _ _ _
            have HR2 : Hid (SortR key F2 a d) := by show SortR _ _ _ _; rw [hF2]; exact HM.out.1.done (by omega)
            have hO2 := hO1
            rw [← hF2] at hO2
            have HB3 := HB2
            have hx2 := hx1
            clear hF2
            have HP2 : Hid (Parts key F2 d ee b) := HM.out.2.1.of_same (by omega) (by omega) HS2.out (by omega)
            have HL2 : Hid (∀ k, k < N → F2 k < N) := HS2.out.lt HLT.out (by omega)
            obtain ⟨F3, hF3⟩ : ∃ F3, F3 = F2 := ⟨_, rfl⟩
            have HS3 : Hid (SameOn F2 F3 d b) := by show SameOn _ _ _ _; rw [hF3]; exact SameOn.refl _ _ _
            have HR3 : Hid (SortR key F3 d b) := by show SortR _ _ _ _; rw [hF3]; exact HP2.out.done (by omega)
            have hO3 := hO2
            rw [← hF3] at hO3
            have hx3 := hx2
            clear hF3
            have HJ := Lib.hid (merge_join (by omega) (by omega) HM.out.2.2 HS2.out HR2.out HS3.out HR3.out)
            go_end0
            exact ⟨rfl, F3, HSA.out.trans HJ.out.1, HJ.out.2, hO3, hx3⟩
         ·
          by_cases zV : ee < b
          ·
           have q1 : decide ((i : Int) < m) = false := decide_eq_false (by omega)
           have q2 : decide ((m : Int) < (d : Int) + m - i) = false := decide_eq_false (by omega)
           have q3 : decide ((a : Int) < i) = false := decide_eq_false (by omega)
           have q4 : decide ((i : Int) < d) = false := decide_eq_false (by omega)
           have q5 : decide ((d : Int) < (d : Int) + m - i) = false := decide_eq_false (by omega)
           have q6 : decide ((d : Int) + m - i < b) = true := decide_eq_true (by omega)
           have hed := HED.out
           rw [hee] at q2 q5 q6
           have HB1 := Lib.hid (HB0.out.trans hbel)
           have HSA : Hid (SameOn f (rotF f i m ee) a b) := (rot_same f (by omega) (by omega)).wide (by omega) (by omega) (by omega)
           have HLT : Hid (∀ k, k < N → rotF f i m ee k < N) := HSA.out.lt HFN.out hbN
           have hdl : d + m = i + ee := by omega
           have HDL := Lib.hid hdl
           clear hed hdl
           go_wp2_with fail
           all_goals
            have hO1 : Own wr g .i64 3 (ordL (rotF f i m ee) N) := by
             have z : rotF f i m ee = f := by
              rw [show m = i by omega]; exact rot_none' f i ee
             rw [z]; exact hO
            have HB2 := HB1
            have hx1 := hbel
            obtain ⟨F2, hF2⟩ : ∃ F2, F2 = rotF f i m ee := ⟨_, rfl⟩
            have HS2 : Hid (SameOn (rotF f i m ee) F2 a d) := by show SameOn _ _ _ _; rw [hF2]; exact SameOn.refl _ _ _
            have HR2 : Hid (SortR key F2 a d) := by show SortR _ _ _ _; rw [hF2]; exact HM.out.1.done (by omega)
            have hO2 := hO1
            rw [← hF2] at hO2
            have HB3 := HB2
            have hx2 := hx1
            clear hF2
            have HP2 : Hid (Parts key F2 d ee b) := HM.out.2.1.of_same (by omega) (by omega) HS2.out (by omega)
            have HL2 : Hid (∀ k, k < N → F2 k < N) := HS2.out.lt HLT.out (by omega)
            obtain ⟨F3, hF3⟩ : ∃ F3, F3 = F2 := ⟨_, rfl⟩
            have HS3 : Hid (SameOn F2 F3 d b) := by show SameOn _ _ _ _; rw [hF3]; exact SameOn.refl _ _ _
            have HR3 : Hid (SortR key F3 d b) := by show SortR _ _ _ _; rw [hF3]; exact HP2.out.done (by omega)
            have hO3 := hO2
            rw [← hF3] at hO3
            have hx3 := hx2
            clear hF3
            have HJ := Lib.hid (merge_join (by omega) (by omega) HM.out.2.2 HS2.out HR2.out HS3.out HR3.out)
            go_end0
            exact ⟨rfl, F3, HSA.out.trans HJ.out.1, HJ.out.2, hO3, hx3⟩
          ·
           have q1 : decide ((i : Int) < m) = false := decide_eq_false (by omega)
           have q2 : decide ((m : Int) < (d : Int) + m - i) = false := decide_eq_false (by omega)
           have q3 : decide ((a : Int) < i) = false := decide_eq_false (by omega)
           have q4 : decide ((i : Int) < d) = false := decide_eq_false (by omega)
           have q5 : decide ((d : Int) < (d : Int) + m - i) = false := decide_eq_false (by omega)
           have q6 : decide ((d : Int) + m - i < b) = false := decide_eq_false (by omega)
           have hed := HED.out
           rw [hee] at q2 q5 q6
           have HB1 := Lib.hid (HB0.out.trans hbel)
           have HSA : Hid (SameOn f (rotF f i m ee) a b) := (rot_same f (by omega) (by omega)).wide (by omega) (by omega) (by omega)
           have HLT : Hid (∀ k, k < N → rotF f i m ee k < N) := HSA.out.lt HFN.out hbN
           have hdl : d + m = i + ee := by omega
           have HDL := Lib.hid hdl
           clear hed hdl
           go_wp2_with fail
           all_goals
            have hO1 : Own wr g .i64 3 (ordL (rotF f i m ee) N) := by
             have z : rotF f i m ee = f := by
              rw [show m = i by omega]; exact rot_none' f i ee
             rw [z]; exact hO
            have HB2 := HB1
            have hx1 := hbel
            obtain ⟨F2, hF2⟩ : ∃ F2, F2 = rotF f i m ee := ⟨_, rfl⟩
            have HS2 : Hid (SameOn (rotF f i m ee) F2 a d) := by show SameOn _ _ _ _; rw [hF2]; exact SameOn.refl _ _ _
            have HR2 : Hid (SortR key F2 a d) := by show SortR _ _ _ _; rw [hF2]; exact HM.out.1.done (by omega)
            have hO2 := hO1
            rw [← hF2] at hO2
            have HB3 := HB2
            have hx2 := hx1
            clear hF2
            have HP2 : Hid (Parts key F2 d ee b) := HM.out.2.1.of_same (by omega) (by omega) HS2.out (by omega)
            have HL2 : Hid (∀ k, k < N → F2 k < N) := HS2.out.lt HLT.out (by omega)
            obtain ⟨F3, hF3⟩ : ∃ F3, F3 = F2 := ⟨_, rfl⟩
            have HS3 : Hid (SameOn F2 F3 d b) := by show SameOn _ _ _ _; rw [hF3]; exact SameOn.refl _ _ _
            have HR3 : Hid (SortR key F3 d b) := by show SortR _ _ _ _; rw [hF3]; exact HP2.out.done (by omega)
            have hO3 := hO2
            rw [← hF3] at hO3
            have hx3 := hx2
            clear hF3
            have HJ := Lib.hid (merge_join (by omega) (by omega) HM.out.2.2 HS2.out HR2.out HS3.out HR3.out)
            go_end0
            exact ⟨rfl, F3, HSA.out.trans HJ.out.1, HJ.out.2, hO3, hx3⟩

end Go.Proofs.YtofijjomfhmbjaaGreat

namespace Go.Proofs.YtofijjomfhmbjaaGreat
open Go.RowKit

def SortXL (key : Nat → Int) (f : Nat → Nat) (a i j : Nat) : Prop := ∀ p q, a ≤ p → p < q → q ≤ i → q ≠ j → LtK key (f p) (f q)
def BigL (f : Nat → Nat) (a i j : Nat) : Prop := ∀ k, a ≤ k → k ≤ i → k ≠ j → f k < f j
theorem SortXL.start {key : Nat → Int} {f : Nat → Nat} {a i : Nat} (h : SortR key f a i) : SortXL key f a i i := fun p q h1 h2 h3 h4 => h p q h1 h2 (by omega)
theorem SortXL.sw {key : Nat → Int} {f : Nat → Nat} {a i j : Nat} (h : SortXL key f a i j) (hj0 : a < j) (hj : j ≤ i) (hlt : key (f (j - 1)) < key (f j)) : SortXL key (swO f j) a i (j - 1) := by
 intro p q hp hpq hq hne
 have q1 := LtK.of_gt (key := key) hlt
 rcases swO_ways f (show 0 < j by omega) q with ⟨cb, eb⟩ | ⟨cb, eb⟩ | ⟨cb, db, eb⟩
 ·
  rcases swO_ways f (show 0 < j by omega) p with ⟨ca, ea⟩ | ⟨ca, ea⟩ | ⟨ca, da, ea⟩
  ·
   omega
  ·
   rw [ea, eb]; exact q1
  ·
   rw [ea, eb]; exact h p (j - 1) hp (by omega) (by omega) (by omega)
 ·
  exact absurd cb hne
 ·
  rcases swO_ways f (show 0 < j by omega) p with ⟨ca, ea⟩ | ⟨ca, ea⟩ | ⟨ca, da, ea⟩
  ·
   rw [ea, eb]; exact h (j - 1) q (by omega) (by omega) hq cb
  ·
   rw [ea, eb]; exact h j q (by omega) (by omega) hq cb
  ·
   rw [ea, eb]; exact h p q hp hpq hq cb
theorem BigL.sw {f : Nat → Nat} {a i j : Nat} (h : BigL f a i j) (hj0 : a < j) (hj : j ≤ i) : BigL (swO f j) a i (j - 1) := by
 intro k h1 h2 h3
 rw [swO_pre f (show 0 < j by omega)]
 rcases swO_ways f (show 0 < j by omega) k with ⟨c, e⟩ | ⟨c, e⟩ | ⟨c, d, e⟩
 ·
  rw [e]; exact h (j - 1) (by omega) (by omega) (by omega)
 ·
  exact absurd c h3
 ·
  rw [e]; exact h k h1 h2 c
theorem SortXL.stop {key : Nat → Int} {f : Nat → Nat} {a i j : Nat} (h : SortXL key f a i j) (hb : BigL f a i j) (haj : a ≤ j) (hj : j ≤ i) (hs : j = a ∨ ¬ key (f (j - 1)) < key (f j)) : SortR key f a (i + 1) := by
 intro p q hp hpq hq
 by_cases c : q = j
 ·
  subst c
  have hs := hs.resolve_left (by omega)
  have q1 := LtK.of_le (key := key) (hb (q - 1) (by omega) (by omega) (by omega)) hs
  by_cases d : p = q - 1
  ·
   subst d; exact q1
  ·
   exact (h p (q - 1) hp (by omega) (by omega) (by omega)).trans q1
 ·
  exact h p q hp hpq (by omega) c
theorem sw_same {f : Nat → Nat} {a i j : Nat} (hj0 : a < j) (hj : j ≤ i) : SameOn f (swO f j) a (i + 1) := by
 refine ⟨fun k hk => swO_oth f (by omega) (by omega), fun k h1 h2 => ?_, fun k h1 h2 => ?_, fun hi p q p1 p2 q1 q2 e => ?_⟩
 ·
  rcases swO_ways f (show 0 < j by omega) k with ⟨c, e⟩ | ⟨c, e⟩ | ⟨c, d, e⟩
  ·
   exact ⟨j - 1, by omega, by omega, e⟩
  ·
   exact ⟨j, by omega, by omega, e⟩
  ·
   exact ⟨k, h1, h2, e⟩
 ·
  by_cases c : k = j
  ·
   exact ⟨j - 1, by omega, by omega, by rw [swO_pre f (by omega), c]⟩
  ·
   by_cases d : k = j - 1
   ·
    exact ⟨j, by omega, by omega, by rw [swO_at, d]⟩
   ·
    exact ⟨k, h1, h2, swO_oth f c d⟩
 ·
  rcases swO_ways f (show 0 < j by omega) p with ⟨c1, e1⟩ | ⟨c1, e1⟩ | ⟨c1, d1, e1⟩ <;> rcases swO_ways f (show 0 < j by omega) q with ⟨c2, e2⟩ | ⟨c2, e2⟩ | ⟨c2, d2, e2⟩ <;> rw [e1, e2] at e <;> have := hi _ _ (by omega) (by omega) (by omega) (by omega) e <;> omega
theorem big_start {f h : Nat → Nat} {a i b : Nat} (hs : SameOn f h a i) (hf : ∀ p q, a ≤ p → p < q → q < b → f p < f q) (ha : a ≤ i) (hi : i < b) : BigL h a i i := fun k h1 h2 h3 => by
 obtain ⟨j, ja, jb, e⟩ := hs.hits k h1 (by omega)
 rw [e, hs.out i (.inr (Nat.le_refl _))]
 exact hf j i ja jb hi

set_option maxHeartbeats 4000000 in
theorem insRange_none (a b : Nat) (v F : Value) (w : World) (ha : a ≤ 1000) (h : b ≤ a + 1) (hb : b ≤ 1000) : Calls Tryz.prog 63 #[v, .int .i64 a, .int .i64 b, F] w (fun e w' => e = .returned (.tuple #[]) ∧ w' = w) := by
 have t1 : decide ((a : Int) + 1 < b) = false := decide_eq_false (by omega)
 have hw : IntKind.i64.wrap ((a : Int) + 1) = (a : Int) + 1 := IntWalk.i64_in _ (by omega)
 go_enter Tryz.func63, Tryz.ntmps63
 go_wp2_with fail
 go_loop [8] (fun iv => iv = .int .i64 ((a : Int) + 1)) (fun _ => 0)
 case atStart => rfl
 case round =>
  subst hrel
  go_wp2_with fail
  go_end0
  exact ⟨rfl, rfl⟩

set_option maxRecDepth 100000 in
set_option maxHeartbeats 8000000 in
theorem insRange_any (N : Nat) (key : Nat → Int) (g bx cap : Nat) (hN : N ≤ 24) (hkey : ∀ i, i < N → 0 ≤ key i ∧ key i ≤ 1000000) (w0 : World)
  (hf : ∀ i k, i < N → k < N → ∀ W, Below g w0 W → Calls Tryz.prog 27 #[.int .i64 i, .int .i64 k, .pointer (some ⟨bx, 0, none⟩)] W (RetIntQ (key k - key i) W)) (a b : Nat) (f : Nat → Nat) (w : World) (hab : a + 1 < b) (hbN : b ≤ N)
  (hasc : ∀ p q, a ≤ p → p < q → q < b → f p < f q) (hfN : ∀ k, k < N → f k < N) (hB0 : Below g w0 w) (hO : Own w g .i64 3 (ordL f N)) :
  Calls Tryz.prog 63 #[.slice (some ⟨g, 0, none⟩) N cap, .int .i64 a, .int .i64 b, .func (.func 27) #[] #[.pointer (some ⟨bx, 0, none⟩)]] w (RetMerge key f a b N g w) := by
 have HF := Lib.hid hf
 have HK := Lib.hid hkey
 have HA := Lib.hid hasc
 have HFN := Lib.hid hfN
 have HB0 := Lib.hid hB0
 clear hf hkey hasc hfN hB0
 have hw : IntKind.i64.wrap ((a : Int) + 1) = ((a + 1 : Nat) : Int) := by rw [IntWalk.i64_in _ (by omega)]; omega
 go_enter Tryz.func63, Tryz.ntmps63
 go_wp2_with fail
 go_loopw [8] (fun iv wr => ∃ (i : Nat) (h : Nat → Nat), a + 1 ≤ i ∧ i ≤ b ∧ iv = .int .i64 i ∧ Hid (SameOn f h a i) ∧ Hid (SortR key h a i) ∧ Own wr g .i64 3 (ordL h N) ∧ Below g w wr)
  (fun iv _ => b - (intOf iv).toNat)
 case atStart => exact ⟨a + 1, f, Nat.le_refl _, by omega, rfl, SameOn.refl _ _ _, SortR.small (Nat.le_refl _), hO, Below.refl _ _⟩
 case round =>
  clear hO hw
  obtain ⟨i, h, hi1, hin, rfl, HSA, HS, hO, hbel⟩ := hrel
  by_cases hlt : i < b
  ·
   have hlt' : (i : Int) < b := by omega
   have HBG := Lib.hid (big_start HSA.out HA.out (by omega) hlt)
   have HSW := Lib.hid (HSA.out.wide (a := a) (b := i + 1) (Nat.le_refl _) (by omega) (by omega))
   go_wp2_with fail
   go_loopw [9] (fun jv wq => ∃ (j : Nat) (h : Nat → Nat), a ≤ j ∧ j ≤ i ∧ jv = .int .i64 j ∧ Hid (SameOn f h a (i + 1)) ∧ Hid (SortXL key h a i j) ∧ Hid (BigL h a i j) ∧ Own wq g .i64 3 (ordL h N) ∧ Below g w wq)
    (fun jv _ => (intOf jv).toNat)
   case atStart => exact ⟨i, h, by omega, Nat.le_refl _, rfl, HSW, SortXL.start HS.out, HBG, hO, hbel⟩
   case round =>
    clear HSA HS HBG HSW hO hbel
    obtain ⟨j, h, haj, hji, rfl, HSA, HX, HBG, hO, hbel⟩ := hrel
    have HHN := Lib.hid (HSA.out.lt HFN.out (by omega))
    by_cases hj0 : a < j
    ·
     have hj0' : decide ((j : Int) > a) = true := decide_eq_true (by omega)
     have hjn : j < N := by omega
     have hjn' : (j : Int) < N := by omega
     obtain ⟨p, hp⟩ : ∃ p, j - 1 = p := ⟨_, rfl⟩
     have hpn : p < N := by omega
     have hpn' : (p : Int) < N := by omega
     have hp0 : (0 : Int) ≤ p := by omega
     have hjp : (0 : Int) ≤ j := by omega
     have hpj : p < j := by omega
     have hap : a ≤ p := by omega
     have hwp : IntKind.i64.wrap ((j : Int) - 1) = (p : Int) := by rw [IntWalk.i64_in _ (by omega)]; omega
     have HP := Lib.hid hp
     have c1 := hO.cell j (by rw [ordL_length]; exact hjn)
     have c2 := hO.cell p (by rw [ordL_length]; exact hpn)
     rw [ordL_get h hjn] at c1
     rw [ordL_get h hpn] at c2
     have f1 := hO.frozen j
     have f2 := hO.frozen p
     have hgl := hO.lt
     have ka := HK.out (h j) (HHN.out j hjn)
     have kb := HK.out (h p) (HHN.out p hpn)
     have HC : Hid (∀ W, Below g w0 W → Calls Tryz.prog 27 #[.int .i64 (h j : Nat), .int .i64 (h p : Nat), .pointer (some ⟨bx, 0, none⟩)] W (fun e w' => e = .returned (.int .i64 (key (h p) - key (h j))) ∧ Quiet W w')) := HF.out (h j) (h p) (HHN.out j hjn) (HHN.out p hpn)
     have HBL := Lib.hid (HB0.out.trans hbel)
     have HBE := Lib.hid hbel
     have HO := Lib.hid hO
     by_cases c : key (h p) < key (h j)
     ·
      have tc : decide (key (h p) - key (h j) < 0) = true := decide_eq_true (by omega)
      have HX2 : Hid (SortXL key (swO h j) a i p) := by show SortXL _ _ _ _ _; rw [← hp]; exact HX.out.sw hj0 hji (by rw [hp]; exact c)
      have HB2 : Hid (BigL (swO h j) a i p) := by show BigL _ _ _ _; rw [← hp]; exact HBG.out.sw hj0 hji
      have HS2 := Lib.hid (HSA.out.trans (sw_same hj0 hji))
      have HSW : Hid (((ordL h N).set j (h p)).set p (h j) = ordL (swO h j) N) := by show _ = _; rw [← hp]; exact ordL_sw h (by omega) hjn
      clear hp ka kb c hO hbel
      generalize key (h p) - key (h j) = dk at *
      go_wp2_with fail
      go_quiet ((go_at_call 27; first | exact quiet_at0 (HC.out _ (below_dn HBL.out _)) | exact quiet_at (HC.out _ (below_dn HBL.out _))))
      go_wp2_with fail
      go_region
      go_wp2_with fail
      exact ⟨⟨p, swO h j, hap, by omega, rfl, HS2, HX2, HB2, by rw [← HSW.out]; exact ((HO.out.drewN _).store j (h p)).store p (h j), ((below_dn HBE.out _).setCell (p := ⟨g, j, none⟩) (Nat.le_refl _) _).setCell (p := ⟨g, p, none⟩) (Nat.le_refl _) _⟩, by simp [intOf]; omega⟩
     ·
      have tc : decide (key (h p) - key (h j) < 0) = false := decide_eq_false (by omega)
      have HS2 : Hid (SortR key h a (i + 1)) := HX.out.stop HBG.out haj hji (.inr (by rw [hp]; exact c))
      clear hp ka kb c hO hbel
      generalize key (h p) - key (h j) = dk at *
      go_wp2_with fail
      go_quiet ((go_at_call 27; first | exact quiet_at0 (HC.out _ (below_dn HBL.out _)) | exact quiet_at (HC.out _ (below_dn HBL.out _))))
      go_wp2_with fail
      exact ⟨⟨i + 1, h, by omega, by omega, by go_num, HSA, HS2, HO.out.drewN _, below_dn HBE.out _⟩, meas_up hlt⟩
    ·
     have hja : j = a := by omega
     have hj0' : decide ((j : Int) > a) = false := decide_eq_false (by omega)
     have HS2 : Hid (SortR key h a (i + 1)) := HX.out.stop HBG.out haj hji (.inl hja)
     have HO := Lib.hid hO
     have HBE := Lib.hid hbel
     clear hja
     go_wp2_with fail
     go_quiet (fail)
     go_wp2_with fail
     exact ⟨⟨i + 1, h, by omega, by omega, by go_num, HSA, HS2, HO.out.drewN _, below_dn HBE.out _⟩, meas_up hlt⟩
  ·
   obtain rfl : i = b := by omega
   go_wp2_with fail
   go_end0
   exact ⟨rfl, h, HSA.out, HS.out, hO, hbel⟩

end Go.Proofs.YtofijjomfhmbjaaGreat

namespace Go.Proofs.YtofijjomfhmbjaaGreat
open Go.RowKit

theorem perm_of {f : Nat → Nat} {n : Nat} (h : SameOn (fun j => j) f 0 n) : PermI f n :=
 ⟨fun k hk => by obtain ⟨j, _, jb, e⟩ := h.hits k (Nat.zero_le _) hk; rw [e]; exact jb, fun i j hi hj e => h.inj (fun _ _ _ _ _ _ e => e) i j (Nat.zero_le _) hi (Nat.zero_le _) hj e, fun i hi => by obtain ⟨k, _, kb, e⟩ := h.from_ i (Nat.zero_le _) hi; exact ⟨k, kb, e⟩⟩
theorem parts_of {key : Nat → Int} {h1 h2 : Nat → Nat} {m n : Nat} (hm : m ≤ n) (a1 : SameOn (fun j => j) h1 0 m) (s1 : SortR key h1 0 m) (a2 : SameOn h1 h2 m n) (s2 : SortR key h2 m n) : Parts key h2 0 m n ∧ SameOn (fun j => j) h2 0 n := by
 refine ⟨⟨fun i j p1 p2 p3 => ?_, s2, fun i j p1 p2 p3 p4 => ?_⟩, (a1.wide (Nat.le_refl _) (Nat.zero_le _) hm).trans (a2.wide (Nat.zero_le _) hm (Nat.le_refl _))⟩
 ·
  rw [a2.out i (by omega), a2.out j (by omega)]
  exact s1 i j p1 p2 p3
 ·
  rw [a2.out i (by omega)]
  obtain ⟨x, xa, xb, ex⟩ := a1.hits i p1 p2
  obtain ⟨y, ya, yb, ey⟩ := a2.hits j p3 p4
  rw [ex, ey, a1.out y (by omega)]
  show x < y
  omega
def RetStab (n : Nat) (key : Nat → Int) (ao : Option Addr) (g : Nat) (w : World) (e : Ending) (w' : World) : Prop :=
 e = .returned (.tuple #[]) ∧ ∃ f, PermI f n ∧ SortR key f 0 n ∧ (0 < n → ao = some ⟨g, 0, none⟩ ∧ Own w' g .i64 3 (ordL f n)) ∧ Below g w w'
set_option maxRecDepth 100000 in
set_option maxHeartbeats 8000000 in
theorem stab_any (n : Nat) (key : Nat → Int) (g bx cap : Nat) (ao : Option Addr) (w : World) (hn : n ≤ 24)
  (hO : 0 < n → ao = some ⟨g, 0, none⟩ ∧ Own w g .i64 3 (ordL (fun j => j) n)) (hkey : ∀ i, i < n → 0 ≤ key i ∧ key i ≤ 1000000)
  (hf : ∀ i k, i < n → k < n → ∀ W, Below g w W → Calls Tryz.prog 27 #[.int .i64 i, .int .i64 k, .pointer (some ⟨bx, 0, none⟩)] W (RetIntQ (key k - key i) W)) :
  Calls Tryz.prog 44 #[.slice ao n cap, .int .i64 n, .func (.func 27) #[] #[.pointer (some ⟨bx, 0, none⟩)]] w (RetStab n key ao g w) := by
 have HF := Lib.hid hf
 have HK := Lib.hid hkey
 clear hf hkey
 by_cases c1 : n ≤ 1
 ·
  have hn1 : n ≤ 0 + 1 := by omega
  have t1 : decide ((20 : Int) ≤ n) = false := decide_eq_false (by omega)
  have t2 : decide ((20 : Int) < n) = false := decide_eq_false (by omega)
  have HO := Lib.hid hO
  have HS : Hid (SortR key (fun j => j) 0 n) := SortR.small (by omega)
  clear hO c1
  have HN : Hid (∀ (v F : Value) (W : World), Calls Tryz.prog 63 #[v, .int .i64 0, .int .i64 n, F] W (fun e w' => e = .returned (.tuple #[]) ∧ w' = W)) := fun v F W => insRange_none 0 n v F W (by omega) hn1 (by omega)
  go_enter Tryz.func44, Tryz.ntmps44
  go_wp2_with fail
  refine wp_loop_rounds 3 ?_
  rw [rounds_succ]
  go_wp2_with fail
  refine (HN.out _ _ _).mono ?_
  rintro e w1 ⟨rfl, rfl⟩
  go_wp2_with fail
  refine wp_loop_rounds 3 ?_
  rw [rounds_succ]
  go_wp2_with fail
  go_end0
  exact ⟨rfl, fun j => j, PermI.id _, HS.out, HO.out, Below.refl _ _⟩
 ·
  replace hO := hO (by omega)
  obtain ⟨rfl, hO⟩ := hO
  by_cases c2 : n < 20
  ·
   have t1 : decide ((20 : Int) ≤ n) = false := decide_eq_false (by omega)
   have t2 : decide ((20 : Int) < n) = false := decide_eq_false (by omega)
   have H1 := Lib.hid (insRange_any n key g bx cap hn HK.out w HF.out 0 n (fun j => j) w (by omega) (Nat.le_refl _) (fun p q _ h _ => h) (fun k hk => hk) (Below.refl _ _) hO)
   clear hO c1 c2
   go_enter Tryz.func44, Tryz.ntmps44
   go_wp2_with fail
   refine wp_loop_rounds 3 ?_
   rw [rounds_succ]
   go_wp2_with fail
   refine H1.out.mono ?_
   rintro e w1 ⟨rfl, h1, a1, s1, hO1, hb1⟩
   have HA1 := Lib.hid a1
   have HS1 := Lib.hid s1
   clear a1 s1
   go_wp2_with fail
   refine wp_loop_rounds 3 ?_
   rw [rounds_succ]
   go_wp2_with fail
   go_end0
   exact ⟨rfl, h1, perm_of HA1.out, HS1.out, fun _ => ⟨rfl, hO1⟩, hb1⟩
  ·
   have t1 : decide ((20 : Int) ≤ n) = true := decide_eq_true (by omega)
   have t3 : decide ((40 : Int) ≤ n) = false := decide_eq_false (by omega)
   have t4 : decide ((40 : Int) < n) = false := decide_eq_false (by omega)
   have H1 := Lib.hid (insRange_any n key g bx cap hn HK.out w HF.out 0 20 (fun j => j) w (by omega) (by omega) (fun p q _ h _ => h) (fun k hk => hk) (Below.refl _ _) hO)
   clear hO c1
   by_cases c3 : n = 20
   ·
    subst c3
    have HN : Hid (∀ (v F : Value) (W : World), Calls Tryz.prog 63 #[v, .int .i64 20, .int .i64 20, F] W (fun e w' => e = .returned (.tuple #[]) ∧ w' = W)) := fun v F W => insRange_none 20 20 v F W (by omega) (by omega) (by omega)
    go_enter Tryz.func44, Tryz.ntmps44
    go_wp2_with fail
    refine wp_loop_rounds 3 ?_
    rw [rounds_succ]
    go_wp2_with fail
    refine H1.out.mono ?_
    rintro e w1 ⟨rfl, h1, a1, s1, hO1, hb1⟩
    have HA1 := Lib.hid a1
    have HS1 := Lib.hid s1
    clear a1 s1
    go_wp2_with fail
    rw [rounds_succ]
    go_wp2_with fail
    refine (HN.out _ _ _).mono ?_
    rintro e w2 ⟨rfl, rfl⟩
    go_wp2_with fail
    refine wp_loop_rounds 3 ?_
    rw [rounds_succ]
    go_wp2_with fail
    go_end0
    exact ⟨rfl, h1, perm_of HA1.out, HS1.out, fun _ => ⟨rfl, hO1⟩, hb1⟩
   ·
    have t2 : decide ((20 : Int) < n) = true := decide_eq_true (by omega)
    have h20 : 20 < n := by omega
    clear c2 c3
    by_cases c4 : n = 21
    ·
     have HN : Hid (∀ (v F : Value) (W : World), Calls Tryz.prog 63 #[v, .int .i64 20, .int .i64 n, F] W (fun e w' => e = .returned (.tuple #[]) ∧ w' = W)) := fun v F W => insRange_none 20 n v F W (by omega) (by omega) (by omega)
     have C4 := Lib.hid c4
     clear c4
     go_enter Tryz.func44, Tryz.ntmps44
     go_wp2_with fail
     refine wp_loop_rounds 3 ?_
     rw [rounds_succ]
     go_wp2_with fail
     refine H1.out.mono ?_
     rintro e w1 ⟨rfl, h1, a1, s1, hO1, hb1⟩
     have HA1 := Lib.hid a1
     have HS1 := Lib.hid s1
     clear a1 s1
     go_wp2_with fail
     rw [rounds_succ]
     go_wp2_with fail
     refine (HN.out _ _ _).mono ?_
     rintro e w2 ⟨rfl, rfl⟩
     obtain ⟨h2, hh2⟩ : ∃ h2, h2 = h1 := ⟨_, rfl⟩
     have HA2 : Hid (SameOn h1 h2 20 n) := by show SameOn _ _ _ _; rw [hh2]; exact SameOn.refl _ _ _
     have HS2 : Hid (SortR key h2 20 n) := SortR.small (by have := C4.out; omega)
     rw [← hh2] at hO1
     clear hh2
     have HPT := Lib.hid (parts_of (show 20 ≤ n by omega) HA1.out HS1.out HA2.out HS2.out)
     have HL2 : Hid (∀ k, k < n → h2 k < n) := HPT.out.2.lt (fun k hk => hk) (Nat.le_refl _)
     go_wp2_with fail
     refine wp_loop_rounds 3 ?_
     rw [rounds_succ]
     go_wp2_with fail
     refine wp_loop_rounds 3 ?_
     rw [rounds_succ]
     go_wp2_with fail
     refine (symMerge_any n key g bx cap hn HK.out w HF.out (n - 0) 0 20 n h2 _ (Nat.le_refl _) (by omega) h20 (Nat.le_refl _) HPT.out.1 HL2.out hb1 hO1).mono ?_
     rintro e w3 ⟨rfl, h3, a3, s3, hO3, hb3⟩
     have HA3 := Lib.hid a3
     have HS3 := Lib.hid s3
     clear a3 s3
     go_wp2_with fail
     rw [rounds_succ]
     go_wp2_with fail
     go_end0
     exact ⟨rfl, h3, perm_of (HPT.out.2.trans HA3.out), HS3.out, fun _ => ⟨rfl, hO3⟩, hb1.trans hb3⟩
    ·
     have h22 : 21 < n := by omega
     clear c4
     go_enter Tryz.func44, Tryz.ntmps44
     go_wp2_with fail
     refine wp_loop_rounds 3 ?_
     rw [rounds_succ]
     go_wp2_with fail
     refine H1.out.mono ?_
     rintro e w1 ⟨rfl, h1, a1, s1, hO1, hb1⟩
     have HA1 := Lib.hid a1
     have HS1 := Lib.hid s1
     clear a1 s1
     go_wp2_with fail
     rw [rounds_succ]
     go_wp2_with fail
     refine (insRange_any n key g bx cap hn HK.out w HF.out 20 n h1 _ (by omega) (Nat.le_refl _) (fun p q hp hpq hq => by rw [HA1.out.out p (.inr hp), HA1.out.out q (.inr (by omega))]; exact hpq) (HA1.out.lt (fun k hk => hk) (by omega)) hb1 hO1).mono ?_
     rintro e w2 ⟨rfl, h2, a2, s2, hO2, hb2⟩
     have HA2 := Lib.hid a2
     have HS2 := Lib.hid s2
     have hb12 := hb1.trans hb2
     clear a2 s2
     have HPT := Lib.hid (parts_of (show 20 ≤ n by omega) HA1.out HS1.out HA2.out HS2.out)
     have HL2 : Hid (∀ k, k < n → h2 k < n) := HPT.out.2.lt (fun k hk => hk) (Nat.le_refl _)
     go_wp2_with fail
     refine wp_loop_rounds 3 ?_
     rw [rounds_succ]
     go_wp2_with fail
     refine wp_loop_rounds 3 ?_
     rw [rounds_succ]
     go_wp2_with fail
     refine (symMerge_any n key g bx cap hn HK.out w HF.out (n - 0) 0 20 n h2 _ (Nat.le_refl _) (by omega) h20 (Nat.le_refl _) HPT.out.1 HL2.out hb12 hO2).mono ?_
     rintro e w3 ⟨rfl, h3, a3, s3, hO3, hb3⟩
     have HA3 := Lib.hid a3
     have HS3 := Lib.hid s3
     clear a3 s3
     go_wp2_with fail
     rw [rounds_succ]
     go_wp2_with fail
     go_end0
     exact ⟨rfl, h3, perm_of (HPT.out.2.trans HA3.out), HS3.out, fun _ => ⟨rfl, hO3⟩, hb12.trans hb3⟩

set_option maxHeartbeats 4000000 in
theorem sortStab_any (n : Nat) (key : Nat → Int) (g bx cap : Nat) (ao : Option Addr) (w : World) (hn : n ≤ 24)
  (hO : 0 < n → ao = some ⟨g, 0, none⟩ ∧ Own w g .i64 3 (ordL (fun j => j) n)) (hkey : ∀ i, i < n → 0 ≤ key i ∧ key i ≤ 1000000)
  (hf : ∀ i k, i < n → k < n → ∀ W, Below g w W → Calls Tryz.prog 27 #[.int .i64 i, .int .i64 k, .pointer (some ⟨bx, 0, none⟩)] W (RetIntQ (key k - key i) W)) :
  Calls Tryz.prog 26 #[.slice ao n cap, .func (.func 27) #[] #[.pointer (some ⟨bx, 0, none⟩)]] w (RetStab n key ao g w) := by
 have H := Lib.hid (stab_any n key g bx cap ao w hn hO hkey hf)
 clear hO hkey hf
 go_enter Tryz.func26, Tryz.ntmps26
 go_wp2_with fail
 refine H.out.mono ?_
 rintro e w1 ⟨rfl, hr⟩
 have HR := Lib.hid hr
 clear hr
 go_wp2_with fail
 go_end0
 exact ⟨rfl, HR.out⟩
end Go.Proofs.YtofijjomfhmbjaaGreat

namespace Go.Proofs.YtofijjomfhmbjaaGreat

def firstFit (sh : List (Int × Int)) (m y : Int) : Nat → Option Nat
 | 0 => none
 | k + 1 => match firstFit sh m y k with
  | some i => some i
  | none => if (sh.getD k (0, 0)).2 + y ≤ m then some k else none
theorem firstFit_none {sh : List (Int × Int)} {m y : Int} {n : Nat} (h : ∀ q, q < n → m < (sh.getD q (0, 0)).2 + y) : firstFit sh m y n = none := by
 induction n with
 | zero => rfl
 | succ n ih =>
  unfold firstFit
  rw [ih (fun q hq => h q (by omega))]
  have := h n (by omega)
  simp only
  rw [if_neg (by omega)]
theorem firstFit_some {sh : List (Int × Int)} {m y : Int} {k n : Nat} (hk : k < n) (h : ∀ q, q < k → m < (sh.getD q (0, 0)).2 + y) (hf : (sh.getD k (0, 0)).2 + y ≤ m) : firstFit sh m y n = some k := by
 induction n with
 | zero => omega
 | succ n ih =>
  unfold firstFit
  by_cases c : k < n
  ·
   rw [ih c]
  ·
   obtain rfl : k = n := by omega
   rw [firstFit_none h]
   simp only
   rw [if_pos hf]
structure NestS where
 sh : List (Int × Int)
 out : List (Int × Int)
 e : Int
def nestStep (l : List (Int × Int)) (m : Int) (i : Nat) (s : NestS) : NestS :=
 match firstFit s.sh m (l.getD i (0, 0)).2 s.sh.length with
 | some k => ⟨s.sh.set k ((s.sh.getD k (0, 0)).1, (s.sh.getD k (0, 0)).2 + (l.getD i (0, 0)).2), s.out.set i (s.sh.getD k (0, 0)), s.e⟩
 | none => ⟨s.sh ++ [(s.e, (l.getD i (0, 0)).2)], s.out.set i (s.e, 0), s.e + (l.getD i (0, 0)).1⟩
def nestTo (l : List (Int × Int)) (m : Int) (f : Nat → Nat) : Nat → NestS
 | 0 => ⟨[], List.replicate l.length (0, 0), 0⟩
 | j + 1 => nestStep l m (f j) (nestTo l m f j)
theorem nestStep_fit {l : List (Int × Int)} {m : Int} {i k : Nat} {s : NestS} (hk : k < s.sh.length) (h : ∀ q, q < k → m < (s.sh.getD q (0, 0)).2 + (l.getD i (0, 0)).2) (hf : (s.sh.getD k (0, 0)).2 + (l.getD i (0, 0)).2 ≤ m) :
  nestStep l m i s = ⟨s.sh.set k ((s.sh.getD k (0, 0)).1, (s.sh.getD k (0, 0)).2 + (l.getD i (0, 0)).2), s.out.set i (s.sh.getD k (0, 0)), s.e⟩ := by
 unfold nestStep
 rw [firstFit_some hk h hf]
theorem nestStep_new {l : List (Int × Int)} {m : Int} {i : Nat} {s : NestS} (h : ∀ q, q < s.sh.length → m < (s.sh.getD q (0, 0)).2 + (l.getD i (0, 0)).2) :
  nestStep l m i s = ⟨s.sh ++ [(s.e, (l.getD i (0, 0)).2)], s.out.set i (s.e, 0), s.e + (l.getD i (0, 0)).1⟩ := by
 unfold nestStep
 rw [firstFit_none h]
theorem order_one {key : Nat → Int} {f g : Nat → Nat} {n : Nat} (hf : PermI f n) (hg : PermI g n) (sf : SortR key f 0 n) (sg : SortR key g 0 n) : ∀ j, j < n → f j = g j := by
 intro j
 induction j using Nat.strongRecOn with
 | _ j ih =>
  intro hj
  obtain ⟨a, ha, ea⟩ := hg.surj (f j) (hf.lt j hj)
  obtain ⟨b, hb, eb⟩ := hf.surj (g j) (hg.lt j hj)
  have h1 : j ≤ a := by
   rcases Nat.lt_or_ge a j with c | c
   ·
    have := ih a c ha
    rw [ea] at this
    have := hf.inj a j ha hj this
    omega
   ·
    exact c
  have h2 : j ≤ b := by
   rcases Nat.lt_or_ge b j with c | c
   ·
    have := ih b c hb
    rw [eb] at this
    have := hg.inj b j hb hj this.symm
    omega
   ·
    exact c
  rcases Nat.eq_or_lt_of_le h1 with c | c
  ·
   rw [← c] at ea; exact ea.symm
  ·
   rcases Nat.eq_or_lt_of_le h2 with d | d
   ·
    rw [← d] at eb; exact eb
   ·
    have q1 := sg j a (Nat.zero_le _) c ha
    have q2 := sf j b (Nat.zero_le _) d hb
    rw [ea] at q1
    rw [eb] at q2
    exact (q1.trans q2).irrefl.elim
structure NestOk (l : List (Int × Int)) (m : Int) (j : Nat) (s : NestS) : Prop where
 few : s.sh.length ≤ j
 outlen : s.out.length = l.length
 e0 : 0 ≤ s.e
 e1 : s.e ≤ 1000000 * j
 sh : ∀ k, k < s.sh.length → 0 ≤ (s.sh.getD k (0, 0)).1 ∧ (s.sh.getD k (0, 0)).1 ≤ s.e ∧ 1 ≤ (s.sh.getD k (0, 0)).2 ∧ (s.sh.getD k (0, 0)).2 ≤ m
theorem nestOk_zero (l : List (Int × Int)) (m : Int) (f : Nat → Nat) : NestOk l m 0 (nestTo l m f 0) :=
 ⟨Nat.le_refl _, by simp [nestTo], Int.le_refl _, by simp [nestTo], fun k hk => absurd hk (by simp [nestTo])⟩
theorem nestOk_step {l : List (Int × Int)} {m : Int} {i j : Nat} {s : NestS} (h : NestOk l m j s) (hx : 1 ≤ (l.getD i (0, 0)).1 ∧ (l.getD i (0, 0)).1 ≤ 1000000) (hy : 1 ≤ (l.getD i (0, 0)).2 ∧ (l.getD i (0, 0)).2 ≤ m) : NestOk l m (j + 1) (nestStep l m i s) := by
 have a := h.few
 have b := h.e0
 have c := h.e1
 by_cases q : ∃ k, k < s.sh.length ∧ (s.sh.getD k (0, 0)).2 + (l.getD i (0, 0)).2 ≤ m
 ·
  obtain ⟨k, hk, hkf⟩ : ∃ k, firstFit s.sh m (l.getD i (0, 0)).2 s.sh.length = some k ∧ k < s.sh.length ∧ (s.sh.getD k (0, 0)).2 + (l.getD i (0, 0)).2 ≤ m := by
   have key : ∀ n, (∃ k, k < n ∧ (s.sh.getD k (0, 0)).2 + (l.getD i (0, 0)).2 ≤ m) → ∃ k, firstFit s.sh m (l.getD i (0, 0)).2 n = some k ∧ k < n ∧ (s.sh.getD k (0, 0)).2 + (l.getD i (0, 0)).2 ≤ m := fun n => by
    induction n with
    | zero => rintro ⟨k, hk, _⟩; omega
    | succ n ih =>
     intro he
     by_cases c1 : ∃ k, k < n ∧ (s.sh.getD k (0, 0)).2 + (l.getD i (0, 0)).2 ≤ m
     ·
      obtain ⟨k, e1, e2, e3⟩ := ih c1
      exact ⟨k, by unfold firstFit; rw [e1], by omega, e3⟩
     ·
      obtain ⟨k, hk, hf⟩ := he
      have hn : firstFit s.sh m (l.getD i (0, 0)).2 n = none := firstFit_none fun q hq => by
       rcases Int.lt_or_le m ((s.sh.getD q (0, 0)).2 + (l.getD i (0, 0)).2) with z | z
       ·
        exact z
       ·
        exact absurd ⟨q, hq, z⟩ c1
      have hkn : k = n := by
       rcases Nat.lt_or_ge k n with z | z
       ·
        exact absurd ⟨k, z, hf⟩ c1
       ·
        omega
      subst hkn
      exact ⟨k, by unfold firstFit; rw [hn]; simp only; rw [if_pos hf], by omega, hf⟩
   exact key _ q
  unfold nestStep
  rw [hk]
  refine ⟨by simp; omega, by simp [h.outlen], b, by simp; omega, fun q hq => ?_⟩
  have hq' : q < s.sh.length := by simpa using hq
  have hs := h.sh q hq'
  simp only [List.getD, List.getElem?_set]
  by_cases cq : k = q
  ·
   subst cq
   rw [if_pos rfl, if_pos hq']
   simp only [Option.getD_some]
   have hs' := h.sh k hq'
   simp only [List.getD] at hs' hkf hy
   omega
  ·
   rw [if_neg cq]
   exact hs
 ·
  unfold nestStep
  rw [firstFit_none (fun k hk => by
   rcases Int.lt_or_le m ((s.sh.getD k (0, 0)).2 + (l.getD i (0, 0)).2) with z | z
   ·
    exact z
   ·
    exact absurd ⟨k, hk, z⟩ q)]
  refine ⟨by simp; omega, by simp [h.outlen], by simp only; omega, by simp only; omega, fun k hk => ?_⟩
  by_cases ck : k < s.sh.length
  ·
   have hs := h.sh k ck
   have e1 : (s.sh ++ [(s.e, (l.getD i (0, 0)).2)]).getD k (0, 0) = s.sh.getD k (0, 0) := by simp [List.getD, List.getElem?_append_left ck]
   simp only
   rw [e1]
   omega
  ·
   have hk' : k = s.sh.length := by simp at hk; omega
   subst hk'
   have e1 : (s.sh ++ [(s.e, (l.getD i (0, 0)).2)]).getD s.sh.length (0, 0) = (s.e, (l.getD i (0, 0)).2) := by simp [List.getD]
   simp only
   rw [e1]
   dsimp only
   omega

end Go.Proofs.YtofijjomfhmbjaaGreat

namespace Go.Proofs.YtofijjomfhmbjaaGreat
open Go.RowKit

def pcErr (l : List (Int × Int)) (m : Int) (i : Nat) : Int :=
 if (inL (l.getD i (0, 0)).1 1 1000000 && inL (l.getD i (0, 0)).2 1 1000000) = false then 1 else if m < (l.getD i (0, 0)).2 then 5 else 0
def pcsErr (l : List (Int × Int)) (m : Int) : Int := if inL m 1 1000000 = false then 1 else if 24 < l.length then 4 else firstErr (pcErr l m) l.length

set_option maxRecDepth 100000 in
set_option maxHeartbeats 8000000 in
theorem checkPieces_any {l : List (Int × Int)} {m : Int} (v : Value) (w : World) (hv : PairsOf w v l) : Calls Tryz.prog 25 #[v, .int .i64 m] w (RetInt (pcsErr l m) w) := by
 obtain ⟨ao, cap, rfl, hE⟩ := hv
 have HE := Lib.hid hE
 clear hE
 cases hm : inL m 1 1000000 with
 | false =>
  have Hr : Hid (pcsErr l m = 1) := by show _ = _; unfold pcsErr; rw [if_pos hm]
  go_enter Tryz.func25, Tryz.ntmps25
  go_wp2_with fail
  refine (within_any m _ _ _).mono ?_
  rw [hm]
  rintro e w1 ⟨rfl, hb1⟩
  go_wp2_with fail
  go_ret
  exact ⟨by rw [Hr.out]; rfl, hb1⟩
 | true =>
  have HM := Lib.hid hm
  by_cases c1 : 24 < l.length
  ·
   have t1 : decide ((l.length : Int) > 24) = true := decide_eq_true (by omega)
   have Hr : Hid (pcsErr l m = 4) := by show _ = _; unfold pcsErr; rw [if_neg (by rw [hm]; simp), if_pos c1]
   clear c1 hm
   go_enter Tryz.func25, Tryz.ntmps25
   go_wp2_with fail
   refine (within_any m _ _ _).mono ?_
   rw [HM.out]
   rintro e w1 ⟨rfl, hb1⟩
   go_wp2_with fail
   go_ret
   exact ⟨by rw [Hr.out]; rfl, hb1⟩
  ·
   have t1 : decide ((l.length : Int) > 24) = false := decide_eq_false (by omega)
   have Hr : Hid (pcsErr l m = firstErr (pcErr l m) l.length) := by show _ = _; unfold pcsErr; rw [if_neg (by rw [hm]; simp), if_neg c1]
   have hlen : l.length ≤ 24 := by omega
   clear c1 hm
   go_enter Tryz.func25, Tryz.ntmps25
   go_wp2_with fail
   refine (within_any m _ _ _).mono ?_
   rw [HM.out]
   rintro e w1 ⟨rfl, hb1⟩
   go_wp2_with fail
   go_loopw [15] (fun iv wr => ∃ (i : Nat), i ≤ l.length ∧ iv = .int .i64 i ∧ Hid (firstErr (pcErr l m) i = 0) ∧ Below w.heap.size w wr)
    (fun iv _ => l.length - (intOf iv).toNat)
   case atStart => exact ⟨0, Nat.zero_le _, rfl, rfl, hb1⟩
   case round =>
    clear hb1
    obtain ⟨i, hi, rfl, hF, hbel⟩ := hrel
    by_cases hlt : i < l.length
    ·
     obtain ⟨b, off, rfl, hbl, hEE⟩ := HE.out (by omega)
     obtain ⟨g0, g1⟩ := (hEE i hlt).below hbel hbl
     have hst := Lib.hid (firstErr_step hF.out)
     have hstay : Hid (pcErr l m i ≠ 0 → pcsErr l m = pcErr l m i) := fun h => by
      rw [Hr.out, ← hst.out]
      exact firstErr_stay (by rw [hst.out]; exact h) hlt
     have hlt' : (i : Int) < l.length := by omega
     have hge' : (0 : Int) ≤ i := by omega
     have hbl2 : b < wr.heap.size := Nat.lt_of_lt_of_le hbl hbel.size
     have Hent : Hid (pcErr l m i = if (inL (l.getD i (0, 0)).1 1 1000000 && inL (l.getD i (0, 0)).2 1 1000000) = false then 1 else if m < (l.getD i (0, 0)).2 then 5 else 0) := rfl
     clear hEE
     generalize (l.getD i (0, 0)).1 = x at *
     generalize (l.getD i (0, 0)).2 = y at *
     have hN := blk_new wr #[.int .i64 x, .int .i64 y] 26
     have hx := (Below.refl wr.heap.size wr).alloc (Nat.le_refl _) (.cells #[.int .i64 x, .int .i64 y] 26)
     go_wp2_with fail
     refine (within_any x _ _ _).mono ?_
     rintro e w2 ⟨rfl, hb2⟩
     have hN2 := blk_keep hN hb2 (blk_lt hN)
     have c1 := blk_cell hN2 1 (.int .i64 y) rfl
     have hx2 := ext_trans (ext_trans hbel hx) hb2
     generalize inL x 1 1000000 = p at *
     clear g0 g1 hN hb2 hx
     cases p with
     | false =>
      have Hv : Hid (pcsErr l m = 1) := by
       have h : pcErr l m i = 1 := by rw [Hent.out]; rfl
       show _ = _
       rw [hstay.out (by rw [h]; decide), h]
      go_wp2_with fail
      go_ret
      exact ⟨by rw [Hv.out]; rfl, hx2⟩
     | true =>
      go_wp2_with fail
      refine (within_any y _ _ _).mono ?_
      rintro e w3 ⟨rfl, hb3⟩
      have hN3 := blk_keep hN2 hb3 (blk_lt hN2)
      have c3 := blk_cell hN3 1 (.int .i64 y) rfl
      have hx3 := ext_trans hx2 hb3
      generalize inL y 1 1000000 = q at *
      clear hN2 hb3 hx2 c1 hN3
      cases q with
      | false =>
       have Hv : Hid (pcsErr l m = 1) := by
        have h : pcErr l m i = 1 := by rw [Hent.out]; rfl
        show _ = _
        rw [hstay.out (by rw [h]; decide), h]
       go_wp2_with fail
       go_ret
       exact ⟨by rw [Hv.out]; rfl, hx3⟩
      | true =>
       by_cases cy : m < y
       ·
        have ty : decide (y > m) = true := decide_eq_true cy
        have Hv : Hid (pcsErr l m = 5) := by
         have h : pcErr l m i = 5 := by rw [Hent.out, if_neg (by decide), if_pos cy]
         show _ = _
         rw [hstay.out (by rw [h]; decide), h]
        clear cy
        go_wp2_with fail
        go_ret
        exact ⟨by rw [Hv.out]; rfl, hx3⟩
       ·
        have ty : decide (y > m) = false := decide_eq_false cy
        have Hv : Hid (firstErr (pcErr l m) (i + 1) = 0) := by
         show _ = _
         rw [hst.out, Hent.out, if_neg (by decide), if_neg cy]
        clear cy
        go_wp2_with fail
        exact ⟨⟨i + 1, by omega, by go_num, Hv, hx3⟩, meas_up hlt⟩
    ·
     obtain rfl : i = l.length := by omega
     have Hf : Hid (pcsErr l m = 0) := by show _ = _; rw [Hr.out, hF.out]
     clear hF
     go_wp2_with fail
     go_ret
     exact ⟨by rw [Hf.out]; rfl, hbel⟩

end Go.Proofs.YtofijjomfhmbjaaGreat

namespace Go.Proofs.YtofijjomfhmbjaaGreat
open Go.RowKit

def CapOk (v : Value) : Prop := ∃ a l c, v = .slice a l c ∧ l ≤ c ∧ c ≤ maxLen

end Go.Proofs.YtofijjomfhmbjaaGreat

namespace Go.Proofs.YtofijjomfhmbjaaGreat
open Go.RowKit

def RetBoolQ (b : Bool) (w : World) (e : Ending) (w' : World) : Prop := e = .returned (.bool b) ∧ Quiet w w'
set_option maxHeartbeats 1000000 in
theorem withinQ_any (n lo hi : Int) (w : World) : Calls Tryz.prog 30 #[.int .i64 n, .int .i64 lo, .int .i64 hi] w (RetBoolQ (inL n lo hi) w) := by
 by_cases h1 : lo ≤ n
 ·
  by_cases h2 : n ≤ hi
  ·
   have Hr : Hid (inL n lo hi = true) := by show _ = _; simp [inL, h1, h2]
   have t1 : decide (n ≥ lo) = true := decide_eq_true h1
   have t2 : decide (n ≤ hi) = true := decide_eq_true h2
   clear h1 h2
   go_enter Tryz.func30, Tryz.ntmps30
   go_wp2_with fail
   go_ret
   exact ⟨by rw [Hr.out]; rfl, Quiet.refl _⟩
  ·
   have Hr : Hid (inL n lo hi = false) := by show _ = _; simp [inL, h1, h2]
   have t1 : decide (n ≥ lo) = true := decide_eq_true h1
   have t2 : decide (n ≤ hi) = false := decide_eq_false h2
   clear h1 h2
   go_enter Tryz.func30, Tryz.ntmps30
   go_wp2_with fail
   go_ret
   exact ⟨by rw [Hr.out]; rfl, Quiet.refl _⟩
 ·
  have Hr : Hid (inL n lo hi = false) := by show _ = _; simp [inL, h1]
  have t1 : decide (n ≥ lo) = false := decide_eq_false h1
  clear h1
  go_enter Tryz.func30, Tryz.ntmps30
  go_wp2_with fail
  go_ret
  exact ⟨by rw [Hr.out]; rfl, Quiet.refl _⟩

/-! ### What CheckNest tells -/
theorem over_stop {l : List (Int × Int)} {ls : List (Int × Int)} {i k n : Nat} (hk : k < n) (h : overlapB l ls i k = true) : overTo l ls i n = true := by
 cases c : overTo l ls i n with
 | true => rfl
 | false =>
  have := (overTo_iff l ls i n).1 c k hk
  rw [this] at h; cases h
end Go.Proofs.YtofijjomfhmbjaaGreat

namespace Go.Proofs.YtofijjomfhmbjaaGreat
open Go.RowKit

structure OkPcs (l : List (Int × Int)) (m : Int) : Prop where
 m1 : 1 ≤ m
 m2 : m ≤ 1000000
 len : l.length ≤ 24
 pcs : ∀ i, i < l.length → (1 ≤ (l.getD i (0, 0)).1 ∧ (l.getD i (0, 0)).1 ≤ 1000000) ∧ 1 ≤ (l.getD i (0, 0)).2 ∧ (l.getD i (0, 0)).2 ≤ m
theorem OkPcs.at {l : List (Int × Int)} {m : Int} (h : OkPcs l m) {i : Nat} (hi : i < l.length) : (1 ≤ (l.getD i (0, 0)).1 ∧ (l.getD i (0, 0)).1 ≤ 1000000) ∧ 1 ≤ (l.getD i (0, 0)).2 ∧ (l.getD i (0, 0)).2 ≤ m := h.pcs i hi
theorem inL_of {n lo hi : Int} (h : inL n lo hi = true) : lo ≤ n ∧ n ≤ hi := by simpa [inL] using h
theorem okPcs_of {l : List (Int × Int)} {m : Int} (h : pcsErr l m = 0) : OkPcs l m := by
 unfold pcsErr at h
 cases hm : inL m 1 1000000 with
 | false => rw [if_pos hm] at h; exact absurd h (by decide)
 | true =>
  rw [if_neg (by rw [hm]; simp)] at h
  by_cases c : 24 < l.length
  ·
   rw [if_pos c] at h; exact absurd h (by decide)
  ·
   rw [if_neg c] at h
   have hm' := inL_of hm
   refine ⟨hm'.1, hm'.2, by omega, fun i hi => ?_⟩
   have := firstErr_all h i hi
   unfold pcErr at this
   cases hb : (inL (l.getD i (0, 0)).1 1 1000000 && inL (l.getD i (0, 0)).2 1 1000000) with
   | false => rw [if_pos hb] at this; exact absurd this (by decide)
   | true =>
    rw [if_neg (by rw [hb]; simp)] at this
    by_cases c2 : m < (l.getD i (0, 0)).2
    ·
     rw [if_pos c2] at this; exact absurd this (by decide)
    ·
     simp only [Bool.and_eq_true] at hb
     have a := inL_of hb.1
     have b := inL_of hb.2
     omega
def bndN (l : List (Int × Int)) (m : Int) : Int := if pcsErr l m = 0 then boundZ l m else 0

theorem longZ_rangeA {l : List (Int × Int)} {m : Int} (hg : OkPcs l m) (i : Nat) (hi : i ≤ l.length) : 0 ≤ longZ l i ∧ longZ l i ≤ 1000000 := by
 induction i with
 | zero => exact ⟨Int.le_refl _, by show (0 : Int) ≤ 1000000; omega⟩
 | succ i ih =>
  have := ih (by omega)
  have := hg.at (show i < l.length by omega)
  simp only [longZ, gP]
  omega
theorem areaZ_rangeA {l : List (Int × Int)} {m : Int} (hg : OkPcs l m) (i : Nat) (hi : i ≤ l.length) : 0 ≤ areaZ l i ∧ areaZ l i ≤ 1000000000000 * i := by
 induction i with
 | zero => exact ⟨Int.le_refl _, by show (0 : Int) ≤ _; omega⟩
 | succ i ih =>
  have := ih (by omega)
  have a := hg.at (show i < l.length by omega)
  have b := Int.mul_nonneg (show 0 ≤ (l.getD i (0, 0)).1 by omega) (show 0 ≤ (l.getD i (0, 0)).2 by omega)
  have c : (l.getD i (0, 0)).1 * (l.getD i (0, 0)).2 ≤ 1000000 * 1000000 := Int.mul_le_mul a.1.2 (by have := hg.m2; omega) (by omega) (by omega)
  have e : areaZ l (i + 1) = areaZ l i + (l.getD i (0, 0)).1 * (l.getD i (0, 0)).2 := rfl
  rw [e]
  omega
theorem aloneZ_rangeA {l : List (Int × Int)} {m : Int} (hg : OkPcs l m) (i : Nat) (hi : i ≤ l.length) : 0 ≤ aloneZ l m i ∧ aloneZ l m i ≤ 1000000 * i := by
 induction i with
 | zero => exact ⟨Int.le_refl _, by show (0 : Int) ≤ _; omega⟩
 | succ i ih =>
  have := ih (by omega)
  have a := hg.at (show i < l.length by omega)
  have e : aloneZ l m (i + 1) = aloneZ l m i + if 2 * (l.getD i (0, 0)).2 > m then (l.getD i (0, 0)).1 else 0 := rfl
  rw [e]
  split <;> omega

set_option maxRecDepth 100000 in
set_option maxHeartbeats 8000000 in
theorem lbound_any {l : List (Int × Int)} {m : Int} (v : Value) (w : World) (hv : PairsOf w v l) : Calls Tryz.prog 13 #[v, .int .i64 m] w (RetTwoN (bndN l m) (pcsErr l m) w) := by
 have HV := Lib.hid hv
 obtain ⟨ao, cap, rfl, hE⟩ := hv
 have HE := Lib.hid hE
 clear hE
 by_cases hz : pcsErr l m = 0
 ·
  have HZ := Lib.hid hz
  have HG := Lib.hid (okPcs_of hz)
  have HB : Hid (bndN l m = boundZ l m) := by show _ = _; unfold bndN; rw [if_pos hz]
  clear hz
  have hlen := HG.out.len
  have hm1 := HG.out.m1
  have hm2 := HG.out.m2
  go_enter Tryz.func13, Tryz.ntmps13
  go_wp2_with fail
  refine (checkPieces_any _ _ HV.out).mono ?_
  rw [HZ.out]
  rintro e w1 ⟨rfl, hb1⟩
  go_wp2_with fail
  go_loopw [7, 8, 9, 20] (fun lv sv av iv wr => ∃ (i : Nat), i ≤ l.length ∧ iv = .int .i64 i ∧ lv = .int .i64 (longZ l i) ∧ sv = .int .i64 (areaZ l i) ∧ av = .int .i64 (aloneZ l m i) ∧ Below w.heap.size w wr)
   (fun _ _ _ iv _ => l.length - (intOf iv).toNat)
  case atStart => exact ⟨0, Nat.zero_le _, rfl, rfl, rfl, rfl, hb1⟩
  case round =>
   clear hb1
   obtain ⟨i, hi, rfl, rfl, rfl, rfl, hbel⟩ := hrel
   have hL := longZ_rangeA HG.out i hi
   have hA := areaZ_rangeA HG.out i hi
   have hO := aloneZ_rangeA HG.out i hi
   by_cases hlt : i < l.length
   ·
    obtain ⟨b, off, rfl, hbl, hEE⟩ := HE.out (by omega)
    obtain ⟨g0, g1⟩ := (hEE i hlt).below hbel hbl
    have hlt' : (i : Int) < l.length := by omega
    have hge' : (0 : Int) ≤ i := by omega
    have hbl2 : b < wr.heap.size := Nat.lt_of_lt_of_le hbl hbel.size
    have hp := HG.out.at hlt
    have HL1 : Hid (longZ l (i + 1) = max (longZ l i) (l.getD i (0, 0)).1) := rfl
    have HA1 : Hid (areaZ l (i + 1) = areaZ l i + (l.getD i (0, 0)).1 * (l.getD i (0, 0)).2) := rfl
    have HO1 : Hid (aloneZ l m (i + 1) = aloneZ l m i + if 2 * (l.getD i (0, 0)).2 > m then (l.getD i (0, 0)).1 else 0) := rfl
    clear hEE
    generalize (l.getD i (0, 0)).1 = x at *
    generalize (l.getD i (0, 0)).2 = y at *
    generalize longZ l i = L at *
    generalize areaZ l i = A at *
    generalize aloneZ l m i = O at *
    have hxy0 := Int.mul_nonneg (show 0 ≤ x by omega) (show 0 ≤ y by omega)
    have hxy1 : x * y ≤ 1000000 * 1000000 := Int.mul_le_mul hp.1.2 (by omega) (by omega) (by omega)
    have hw1 : IntKind.i64.wrap (x * y) = x * y := IntWalk.i64_in _ (by omega)
    have hw2 : IntKind.i64.wrap (A + x * y) = A + x * y := IntWalk.i64_in _ (by omega)
    have hw3 : IntKind.i64.wrap (2 * y) = 2 * y := IntWalk.i64_in _ (by omega)
    have hw4 : IntKind.i64.wrap (O + x) = O + x := IntWalk.i64_in _ (by omega)
    have hN := blk_new wr #[.int .i64 x, .int .i64 y] 26
    have hx := hbel.alloc hbel.size (.cells #[.int .i64 x, .int .i64 y] 26)
    have n0 := blk_cell hN 0 (.int .i64 x) rfl
    have n1 := blk_cell hN 1 (.int .i64 y) rfl
    by_cases c : 2 * y > m
    ·
     have t1 : decide (2 * y > m) = true := decide_eq_true c
     have ho := HO1.out
     rw [if_pos c] at ho
     have HO2 := Lib.hid ho
     clear c ho HO1
     go_wp2_with fail
     go_region
     go_wp2_with fail
     exact ⟨⟨i + 1, by omega, by go_num, by rw [HL1.out], by rw [HA1.out], by rw [HO2.out], hx.drew⟩, meas_up hlt⟩
    ·
     have t1 : decide (2 * y > m) = false := decide_eq_false c
     have ho := HO1.out
     rw [if_neg c, Int.add_zero] at ho
     have HO2 := Lib.hid ho
     clear c ho HO1
     go_wp2_with fail
     go_region
     go_wp2_with fail
     exact ⟨⟨i + 1, by omega, by go_num, by rw [HL1.out], by rw [HA1.out], by rw [HO2.out], hx.drew⟩, meas_up hlt⟩
   ·
    obtain rfl : i = l.length := by omega
    have Ht : Hid (bndN l m = max (max (longZ l l.length) ((areaZ l l.length + m - 1) / m)) (aloneZ l m l.length)) := HB.out
    have Hu : Hid (bndN l m = max (longZ l l.length) (max ((areaZ l l.length + m - 1) / m) (aloneZ l m l.length))) := by show _ = _; rw [HB.out]; unfold boundZ; omega
    generalize longZ l l.length = L at *
    generalize areaZ l l.length = A at *
    generalize aloneZ l m l.length = O at *
    generalize bndN l m = Z at *
    have hw1 : IntKind.i64.wrap (A + m) = A + m := IntWalk.i64_in _ (by omega)
    have hw2 : IntKind.i64.wrap (A + m - 1) = A + m - 1 := IntWalk.i64_in _ (by omega)
    have hne : m ≠ 0 := by omega
    have hq0 := Int.ediv_nonneg (show 0 ≤ A + m - 1 by omega) (show 0 ≤ m by omega)
    have hq1 := Int.ediv_le_self m (show 0 ≤ A + m - 1 by omega)
    have hw3 : IntKind.i64.wrap ((A + m - 1) / m) = (A + m - 1) / m := IntWalk.i64_in _ (by omega)
    have hw4 : wrap64 ((A + m - 1) / m) = (A + m - 1) / m := (IntWalk.i64_left _).symm.trans hw3
    clear hq0 hq1
    have hM3 := fun (w : World) (ts : Array TypeId) (t : TypeId) (x y z : Int) => run_max_ints3 (P := Tryz.prog) w ts t .i64 .i64 .i64 x y z
    go_wp2_with fail
    go_ret2
    first | exact ⟨by rw [Hu.out, HZ.out]; rfl, hbel⟩ | exact ⟨by rw [Ht.out, HZ.out]; rfl, hbel⟩
 ·
  have te : (pcsErr l m != 0) = true := bne_iff_ne.2 hz
  have HB : Hid (bndN l m = 0) := by show _ = _; unfold bndN; rw [if_neg hz]
  have HP := checkPieces_any (m := m) _ w HV.out
  generalize pcsErr l m = er at *
  clear hz
  go_enter Tryz.func13, Tryz.ntmps13
  go_wp2_with fail
  refine HP.mono ?_
  rintro e w1 ⟨rfl, hb1⟩
  go_wp2_with fail
  go_ret2
  exact ⟨by rw [HB.out]; rfl, hb1⟩

def atErr (l : List (Int × Int)) (m : Int) (ls : List (Int × Int)) (i : Nat) : Int := if outB l m ls i = true then 1 else if overTo l ls i i = true then 8 else 0
def chkErr (l : List (Int × Int)) (m : Int) (ls : List (Int × Int)) : Int := if pcsErr l m ≠ 0 then pcsErr l m else if ls.length ≠ l.length then 4 else firstErr (atErr l m ls) l.length
def chkLen (l : List (Int × Int)) (m : Int) (ls : List (Int × Int)) : Int := if chkErr l m ls = 0 then endZ l ls l.length else 0
theorem chk_stop {l : List (Int × Int)} {m : Int} {ls : List (Int × Int)} {i : Nat} (h0 : pcsErr l m = 0) (h1 : ls.length = l.length) (hf : firstErr (atErr l m ls) i = 0) (hi : i < l.length) (he : atErr l m ls i ≠ 0) : chkErr l m ls = atErr l m ls i ∧ chkLen l m ls = 0 := by
 have e : chkErr l m ls = atErr l m ls i := by
  unfold chkErr
  rw [if_neg (by simp [h0]), if_neg (by simp [h1]), firstErr_stay (i := i + 1) (by rw [firstErr_step hf]; exact he) hi, firstErr_step hf]
 refine ⟨e, ?_⟩
 unfold chkLen
 rw [if_neg (by rw [e]; exact he)]
theorem chk_end {l : List (Int × Int)} {m : Int} {ls : List (Int × Int)} (h0 : pcsErr l m = 0) (h1 : ls.length = l.length) (hf : firstErr (atErr l m ls) l.length = 0) : chkErr l m ls = 0 ∧ chkLen l m ls = endZ l ls l.length := by
 have e : chkErr l m ls = 0 := by
  unfold chkErr
  rw [if_neg (by simp [h0]), if_neg (by simp [h1]), hf]
 refine ⟨e, ?_⟩
 unfold chkLen
 rw [if_pos e]
theorem chk_pcs {l : List (Int × Int)} {m : Int} {ls : List (Int × Int)} (h0 : pcsErr l m ≠ 0) : chkErr l m ls = pcsErr l m ∧ chkLen l m ls = 0 := by
 have e : chkErr l m ls = pcsErr l m := by unfold chkErr; rw [if_pos h0]
 exact ⟨e, by unfold chkLen; rw [if_neg (by rw [e]; exact h0)]⟩
theorem chk_size {l : List (Int × Int)} {m : Int} {ls : List (Int × Int)} (h0 : pcsErr l m = 0) (h1 : ls.length ≠ l.length) : chkErr l m ls = 4 ∧ chkLen l m ls = 0 := by
 have e : chkErr l m ls = 4 := by unfold chkErr; rw [if_neg (by simp [h0]), if_pos h1]
 exact ⟨e, by unfold chkLen; rw [if_neg (by rw [e]; decide)]⟩
theorem at_ok {l : List (Int × Int)} {m : Int} {ls : List (Int × Int)} {i : Nat} (h : atErr l m ls i = 0) : outB l m ls i = false ∧ overTo l ls i i = false := by
 unfold atErr at h
 cases h1 : outB l m ls i with
 | true => rw [h1, if_pos rfl] at h; exact absurd h (by decide)
 | false =>
  cases h2 : overTo l ls i i with
  | true => rw [h1, h2] at h; exact absurd h (by decide)
  | false => exact ⟨rfl, rfl⟩
theorem at_out {l : List (Int × Int)} {m : Int} {ls : List (Int × Int)} {i : Nat} (h : outB l m ls i = true) : atErr l m ls i = 1 := by unfold atErr; rw [if_pos h]
theorem at_over {l : List (Int × Int)} {m : Int} {ls : List (Int × Int)} {i : Nat} (h : outB l m ls i = false) (h2 : overTo l ls i i = true) : atErr l m ls i = 8 := by unfold atErr; rw [if_neg (by rw [h]; simp), if_pos h2]
theorem at_none {l : List (Int × Int)} {m : Int} {ls : List (Int × Int)} {i : Nat} (h : outB l m ls i = false) (h2 : overTo l ls i i = false) : atErr l m ls i = 0 := by unfold atErr; rw [if_neg (by rw [h]; simp), if_neg (by rw [h2]; simp)]
theorem out_ok {l : List (Int × Int)} {m : Int} {ls : List (Int × Int)} {i : Nat} (h : outB l m ls i = false) : (0 ≤ (ls.getD i (0, 0)).1 ∧ (ls.getD i (0, 0)).1 ≤ 1099511627776) ∧ 0 ≤ (ls.getD i (0, 0)).2 ∧ (ls.getD i (0, 0)).2 ≤ m - (l.getD i (0, 0)).2 := by
 unfold outB gP at h
 simp only [Bool.or_eq_false_iff, Bool.not_eq_false', Bool.and_eq_true, decide_eq_true_eq, decide_eq_false_iff_not] at h
 omega
theorem endZ_rangeA {l : List (Int × Int)} {m : Int} {ls : List (Int × Int)} (hg : OkPcs l m) (i : Nat) (hi : i ≤ l.length) (h : ∀ j, j < i → (ls.getD j (0, 0)).1 ≤ 1099511627776) : 0 ≤ endZ l ls i ∧ endZ l ls i ≤ 1099512627776 := by
 induction i with
 | zero => exact ⟨Int.le_refl _, by show (0 : Int) ≤ _; omega⟩
 | succ i ih =>
  have := ih (by omega) (fun j hj => h j (by omega))
  have a := hg.at (show i < l.length by omega)
  have b := h i (by omega)
  simp only [endZ, gP]
  omega

set_option maxRecDepth 100000 in
set_option maxHeartbeats 16000000 in
theorem checkNestE_any {l : List (Int × Int)} {m : Int} (ls : List (Int × Int)) (v vl : Value) (w : World) (hv : PairsOf w v l) (hl : PairsOf w vl ls) (hcap : CapOk vl) :
  Calls Tryz.prog 11 #[v, .int .i64 m, vl] w (RetTwoN (chkLen l m ls) (chkErr l m ls) w) := by
 have HV := Lib.hid hv
 obtain ⟨aoj, capj, rfl, hJ⟩ := hv
 obtain ⟨aol, capl, rfl, hL⟩ := hl
 have HJE := Lib.hid hJ
 have HLE := Lib.hid hL
 have hcp : ls.length ≤ capl ∧ capl ≤ maxLen := by
  obtain ⟨a, l, c, e, h1, h2⟩ := hcap
  simp only [Value.slice.injEq] at e
  obtain ⟨rfl, rfl, rfl⟩ := e
  exact ⟨h1, h2⟩
 unfold maxLen at hcp
 clear hJ hL hcap
 by_cases hz : pcsErr l m = 0
 ·
  have HZ := Lib.hid hz
  have HG := Lib.hid (okPcs_of hz)
  clear hz
  by_cases hll : ls.length = l.length
  ·
   skip
   have hlen := HG.out.len
   have hm1 := HG.out.m1
   have hm2 := HG.out.m2
   have H1 := Lib.hid hll
   have t1 : ((ls.length : Int) != (l.length : Int)) = false := by simp [hll]
   have hls : ls.length ≤ 24 := by omega
   clear hll
   go_enter Tryz.func11, Tryz.ntmps11
   go_wp2_with fail
   refine (checkPieces_any _ _ HV.out).mono ?_
   rw [HZ.out]
   rintro e w1 ⟨rfl, hb1⟩
   go_wp2_with fail
   go_loopw [9, 27] (fun nv iv wr => ∃ (i : Nat), i ≤ ls.length ∧ iv = .int .i64 i ∧ nv = .int .i64 (endZ l ls i) ∧ Hid (firstErr (atErr l m ls) i = 0) ∧ Below w.heap.size w wr)
    (fun _ iv _ => ls.length - (intOf iv).toNat)
   case atStart => exact ⟨0, Nat.zero_le _, rfl, rfl, rfl, hb1⟩
   case round =>
    clear hb1
    obtain ⟨i, hi, rfl, rfl, hA, hbel⟩ := hrel
    have Hprev : Hid (∀ j, j < i → (0 ≤ (ls.getD j (0, 0)).1 ∧ (ls.getD j (0, 0)).1 ≤ 1099511627776) ∧ 0 ≤ (ls.getD j (0, 0)).2 ∧ (ls.getD j (0, 0)).2 ≤ m - (l.getD j (0, 0)).2) := fun j hj => out_ok (at_ok (firstErr_all hA.out j hj)).1
    have hend := endZ_rangeA (m := m) HG.out i (by rw [← H1.out]; exact hi) (fun j hj => (Hprev.out j hj).1.2)
    by_cases hlt : i < ls.length
    ·
     obtain ⟨b, off, rfl, hbl, hLL⟩ := HLE.out (by omega)
     have hltj : i < l.length := by rw [← H1.out]; exact hlt
     obtain ⟨bj, offj, rfl, hblj, hJJ⟩ := HJE.out (by omega)
     obtain ⟨g0, g1⟩ := (hLL i hlt).below hbel hbl
     obtain ⟨k0, k1⟩ := (hJJ i hltj).below hbel hblj
     have hlt' : (i : Int) < ls.length := by omega
     have hltj' : (i : Int) < l.length := by omega
     have hge' : (0 : Int) ≤ i := by omega
     have hicap : (i : Int) ≤ capl := by omega
     have hbl2 : b < wr.heap.size := Nat.lt_of_lt_of_le hbl hbel.size
     have hblj2 : bj < wr.heap.size := Nat.lt_of_lt_of_le hblj hbel.size
     have hp := HG.out.at hltj
     have Hend1 : Hid (endZ l ls (i + 1) = max (endZ l ls i) ((ls.getD i (0, 0)).1 + (l.getD i (0, 0)).1)) := rfl
     have Hout : Hid (outB l m ls i = (!(decide (0 ≤ (ls.getD i (0, 0)).1) && decide ((ls.getD i (0, 0)).1 ≤ 1099511627776)) || (decide ((ls.getD i (0, 0)).2 < 0) || decide ((ls.getD i (0, 0)).2 > m - (l.getD i (0, 0)).2)))) := rfl
     have Hgood : Hid (outB l m ls i = false → overTo l ls i i = false → firstErr (atErr l m ls) (i + 1) = 0) := fun h h2 => by rw [firstErr_step hA.out]; exact at_none h h2
     have Hov : Hid (∀ k, overlapB l ls i k = (decide ((ls.getD i (0, 0)).1 < (ls.getD k (0, 0)).1 + (l.getD k (0, 0)).1) && (decide ((ls.getD k (0, 0)).1 < (ls.getD i (0, 0)).1 + (l.getD i (0, 0)).1) && (decide ((ls.getD i (0, 0)).2 < (ls.getD k (0, 0)).2 + (l.getD k (0, 0)).2) && decide ((ls.getD k (0, 0)).2 < (ls.getD i (0, 0)).2 + (l.getD i (0, 0)).2))))) := fun k => rfl
     have Hno : Hid (outB l m ls i = true → chkErr l m ls = 1 ∧ chkLen l m ls = 0) := fun h => by
      have e := at_out h
      have := chk_stop HZ.out H1.out hA.out hltj (by rw [e]; decide)
      rwa [e] at this
     have Hno2 : Hid (outB l m ls i = false → overTo l ls i i = true → chkErr l m ls = 8 ∧ chkLen l m ls = 0) := fun h h2 => by
      have e := at_over h h2
      have := chk_stop HZ.out H1.out hA.out hltj (by rw [e]; decide)
      rwa [e] at this
     have HLL := Lib.hid hLL
     have HJJ := Lib.hid hJJ
     clear hLL hJJ
     generalize (ls.getD i (0, 0)).1 = x0 at *
     generalize (ls.getD i (0, 0)).2 = x1 at *
     generalize (l.getD i (0, 0)).1 = r at *
     generalize (l.getD i (0, 0)).2 = d at *
     have hN := blk_new wr #[.int .i64 x0, .int .i64 x1] 45
     have hal := (Below.refl wr.heap.size wr).alloc (Nat.le_refl _) (.cells #[.int .i64 x0, .int .i64 x1] 45)
     have hxa := hbel.alloc hbel.size (.cells #[.int .i64 x0, .int .i64 x1] 45)
     have hwd : IntKind.i64.wrap (m - d) = m - d := IntWalk.i64_in _ (by omega)
     have s0 := blk_cell hN 0 (.int .i64 x0) rfl
     have s1 := blk_cell hN 1 (.int .i64 x1) rfl
     have j0 := (hal.cell (p := ⟨bj, offj + i * 2, none⟩) hblj2).trans k0
     have j1 := (hal.cell (p := ⟨bj, offj + i * 2 + 1, none⟩) hblj2).trans k1
     have Hin : Hid (inL x0 0 1099511627776 = (decide (0 ≤ x0) && decide (x0 ≤ 1099511627776))) := rfl
     cases tx : inL x0 0 1099511627776 with
     | false =>
      have Hv : Hid (chkErr l m ls = 1 ∧ chkLen l m ls = 0) := Hno.out (by rw [Hout.out, ← Hin.out, tx]; rfl)
      have TX := Lib.hid tx
      clear tx
      have HW : Hid (∀ W, Calls Tryz.prog 30 #[.int .i64 x0, .int .i64 0, .int .i64 1099511627776] W (fun e w' => e = .returned (.bool false) ∧ Quiet W w')) := fun W => by rw [← TX.out]; exact withinQ_any x0 0 1099511627776 W
      go_wp2_with fail
      go_quiet ((go_at_call 30; first | exact quiet_at0 (HW.out _) | exact quiet_at (HW.out _)))
      go_wp2_with fail
      go_ret2
      exact ⟨by rw [Hv.out.1, Hv.out.2]; rfl, below_dn hxa _⟩
     | true =>
      have TX := Lib.hid tx
      have HW : Hid (∀ W, Calls Tryz.prog 30 #[.int .i64 x0, .int .i64 0, .int .i64 1099511627776] W (fun e w' => e = .returned (.bool true) ∧ Quiet W w')) := fun W => by rw [← TX.out]; exact withinQ_any x0 0 1099511627776 W
      have hx0 : 0 ≤ x0 ∧ x0 ≤ 1099511627776 := by rw [Hin.out] at tx; simpa using tx
      clear tx
      by_cases c1 : x1 < 0
      ·
       have t2 : decide (x1 < 0) = true := decide_eq_true c1
       have Hv : Hid (chkErr l m ls = 1 ∧ chkLen l m ls = 0) := Hno.out (by rw [Hout.out, ← Hin.out, TX.out, t2]; rfl)
       go_wp2_with fail
       go_quiet ((go_at_call 30; first | exact quiet_at0 (HW.out _) | exact quiet_at (HW.out _)))
       go_wp2_with fail
       go_ret2
       exact ⟨by rw [Hv.out.1, Hv.out.2]; rfl, below_dn hxa _⟩
      ·
       have t2 : decide (x1 < 0) = false := decide_eq_false c1
       by_cases c2 : x1 > m - d
       ·
        have t3 : decide (x1 > m - d) = true := decide_eq_true c2
        have Hv : Hid (chkErr l m ls = 1 ∧ chkLen l m ls = 0) := Hno.out (by rw [Hout.out, ← Hin.out, TX.out, t2, t3]; rfl)
        go_wp2_with fail
        go_quiet ((go_at_call 30; first | exact quiet_at0 (HW.out _) | exact quiet_at (HW.out _)))
        go_wp2_with fail
        go_ret2
        exact ⟨by rw [Hv.out.1, Hv.out.2]; rfl, below_dn hxa _⟩
       ·
        have t3 : decide (x1 > m - d) = false := decide_eq_false c2
        have Hv : Hid (outB l m ls i = false) := by show _ = _; rw [Hout.out, ← Hin.out, TX.out, t2, t3]; rfl
        have hx1r : 0 ≤ x1 ∧ x1 ≤ m - d := by omega
        clear Hout
        go_wp2_with fail
        go_quiet ((go_at_call 30; first | exact quiet_at0 (HW.out _) | exact quiet_at (HW.out _)))
        go_wp2_with fail
        have hNd : ((wr.alloc (.cells #[.int .i64 x0, .int .i64 x1] 45)).drewN nq).heap[wr.heap.size]? = some (.cells #[.int .i64 x0, .int .i64 x1] 45 (0, 0)) := hN
        have hxd := below_dn hxa nq
        have j0d : ((wr.alloc (.cells #[.int .i64 x0, .int .i64 x1] 45)).drewN nq).cell? ⟨bj, offj + i * 2, none⟩ = some (.int .i64 r) := j0
        have j1d : ((wr.alloc (.cells #[.int .i64 x0, .int .i64 x1] 45)).drewN nq).cell? ⟨bj, offj + i * 2 + 1, none⟩ = some (.int .i64 d) := j1
        have hsz1 : wr.heap.size < ((wr.alloc (.cells #[.int .i64 x0, .int .i64 x1] 45)).drewN nq).heap.size := by show wr.heap.size < (wr.alloc _).heap.size; simp
        clear hN hal hxa g0 g1 k0 k1 hbel hbl2 hblj2 s0 s1 j0 j1 t2 t3 c1 c2 hwd Hin
        generalize wr.heap.size = B9 at *
        generalize ((wr.alloc (.cells #[.int .i64 x0, .int .i64 x1] 45)).drewN nq) = W1 at *
        go_loopw [57] (fun kv wq => ∃ (k : Nat), k ≤ i ∧ kv = .int .i64 k ∧ Hid (overTo l ls i k = false) ∧ Below W1.heap.size W1 wq) (fun kv _ => i - (intOf kv).toNat)
        case atStart => exact ⟨0, Nat.zero_le _, rfl, rfl, Below.refl _ _⟩
        case round =>
         obtain ⟨k, hk, rfl, hHt, hxq⟩ := hrel
         have hxw := hxd.trans (hxq.mono hxd.size)
         by_cases hkl : k < i
         ·
          have hkl' : (k : Int) < i := by omega
          have hkg' : (0 : Int) ≤ k := by omega
          have hkj' : (k : Int) < l.length := by omega
          obtain ⟨e0, e1⟩ := (HLL.out k (by omega)).below hxw hbl
          obtain ⟨f0, f1⟩ := (HJJ.out k (by omega)).below hxw hblj
          have hNq := blk_keep hNd hxq hsz1
          have s0 := blk_cell hNq 0 (.int .i64 x0) rfl
          have s1 := blk_cell hNq 1 (.int .i64 x1) rfl
          have j0 := (hxq.cell (World.block_lt_of_cell? (h := j0d))).trans j0d
          have j1 := (hxq.cell (World.block_lt_of_cell? (h := j1d))).trans j1d
          have hblq : b < wr.heap.size := Nat.lt_of_lt_of_le hbl hxw.size
          have hbljq : bj < wr.heap.size := Nat.lt_of_lt_of_le hblj hxw.size
          have hB9q := blk_lt hNq
          have hpk := HG.out.at (show k < l.length by omega)
          have hqk := Hprev.out k hkl
          have Hh2 := Lib.hid (Hov.out k)
          have Hst1 : Hid (overTo l ls i (k + 1) = (overTo l ls i k || overlapB l ls i k)) := rfl
          have Hstop : Hid (overlapB l ls i k = true → chkErr l m ls = 8 ∧ chkLen l m ls = 0) := fun h => Hno2.out Hv.out (over_stop hkl h)
          generalize (ls.getD k (0, 0)).1 = y0 at *
          generalize (ls.getD k (0, 0)).2 = y1 at *
          generalize (l.getD k (0, 0)).1 = rk at *
          generalize (l.getD k (0, 0)).2 = dk at *
          generalize overlapB l ls i k = ov at *
          have hw1 : IntKind.i64.wrap (y0 + rk) = y0 + rk := IntWalk.i64_in _ (by omega)
          have hw2 : IntKind.i64.wrap (x0 + r) = x0 + r := IntWalk.i64_in _ (by omega)
          have hw3 : IntKind.i64.wrap (y1 + dk) = y1 + dk := IntWalk.i64_in _ (by omega)
          have hw4 : IntKind.i64.wrap (x1 + d) = x1 + d := IntWalk.i64_in _ (by omega)
          have hal2 := (Below.refl wr.heap.size wr).alloc (Nat.le_refl _) (.cells #[.int .i64 y0, .int .i64 y1] 45)
          have hxe := hxq.alloc hxq.size (.cells #[.int .i64 y0, .int .i64 y1] 45)
          have hM := blk_new wr #[.int .i64 y0, .int .i64 y1] 45
          have m0 := blk_cell hM 0 (.int .i64 y0) rfl
          have m1 := blk_cell hM 1 (.int .i64 y1) rfl
          have up : ∀ (q o : Nat) (v : Value), q < wr.heap.size → wr.cell? ⟨q, o, none⟩ = some v → (wr.alloc (.cells #[.int .i64 y0, .int .i64 y1] 45)).cell? ⟨q, o, none⟩ = some v := fun q o v hq h => (hal2.cell (p := ⟨q, o, none⟩) hq).trans h
          have a0 := up _ _ _ hB9q s0
          have a1 := up _ _ _ hB9q s1
          have a2 := up _ _ _ hbljq j0
          have a3 := up _ _ _ hbljq j1
          have a4 := up _ _ _ hbljq f0
          have a5 := up _ _ _ hbljq f1
          clear up s0 s1 j0 j1 f0 f1 hal2 hM
          by_cases c1 : x0 < y0 + rk
          ·
           have t1 : decide (x0 < y0 + rk) = true := decide_eq_true c1
           by_cases c2 : y0 < x0 + r
           ·
            have t2 : decide (y0 < x0 + r) = true := decide_eq_true c2
            by_cases c3 : x1 < y1 + dk
            ·
             have t3 : decide (x1 < y1 + dk) = true := decide_eq_true c3
             by_cases c4 : y1 < x1 + d
             ·
              have t4 : decide (y1 < x1 + d) = true := decide_eq_true c4
              have Hw : Hid (chkErr l m ls = 8 ∧ chkLen l m ls = 0) := Hstop.out (by rw [Hh2.out, t1, t2, t3, t4]; rfl)
              go_wp2_with fail
              go_quiet (fail)
              go_wp2_with fail
              go_ret2
              exact ⟨by rw [Hw.out.1, Hw.out.2]; rfl, hxd.trans ((below_dn hxe _).mono hxd.size)⟩
             ·
              have t4 : decide (y1 < x1 + d) = false := decide_eq_false c4
              have Hn : Hid (overTo l ls i (k + 1) = false) := by show _ = _; rw [Hst1.out, Hh2.out, hHt.out, t1, t2, t3, t4]; rfl
              go_wp2_with fail
              go_quiet (fail)
              go_wp2_with fail
              exact ⟨⟨k + 1, by omega, by go_num, Hn, below_dn hxe _⟩, meas_up hkl⟩
            ·
             have t3 : decide (x1 < y1 + dk) = false := decide_eq_false c3
             have Hn : Hid (overTo l ls i (k + 1) = false) := by show _ = _; rw [Hst1.out, Hh2.out, hHt.out, t1, t2, t3]; rfl
             go_wp2_with fail
             go_quiet (fail)
             go_wp2_with fail
             exact ⟨⟨k + 1, by omega, by go_num, Hn, below_dn hxe _⟩, meas_up hkl⟩
           ·
            have t2 : decide (y0 < x0 + r) = false := decide_eq_false c2
            have Hn : Hid (overTo l ls i (k + 1) = false) := by show _ = _; rw [Hst1.out, Hh2.out, hHt.out, t1, t2]; rfl
            go_wp2_with fail
            go_quiet (fail)
            go_wp2_with fail
            exact ⟨⟨k + 1, by omega, by go_num, Hn, below_dn hxe _⟩, meas_up hkl⟩
          ·
           have t1 : decide (x0 < y0 + rk) = false := decide_eq_false c1
           have Hn : Hid (overTo l ls i (k + 1) = false) := by show _ = _; rw [Hst1.out, Hh2.out, hHt.out, t1]; rfl
           go_wp2_with fail
           go_quiet (fail)
           go_wp2_with fail
           exact ⟨⟨k + 1, by omega, by go_num, Hn, below_dn hxe _⟩, meas_up hkl⟩
         ·
          obtain rfl : k = i := by omega
          have hNq := blk_keep hNd hxq hsz1
          have s0 := blk_cell hNq 0 (.int .i64 x0) rfl
          have j0 := (hxq.cell (World.block_lt_of_cell? (h := j0d))).trans j0d
          have hbljq : bj < wr.heap.size := Nat.lt_of_lt_of_le hblj hxw.size
          have hB9q := blk_lt hNq
          have hw2 : IntKind.i64.wrap (x0 + r) = x0 + r := IntWalk.i64_in _ (by omega)
          have Hv1 : Hid (firstErr (atErr l m ls) (k + 1) = 0) := Hgood.out Hv.out hHt.out
          go_wp2_with fail
          go_quiet (fail)
          go_wp2_with fail
          exact ⟨⟨k + 1, by omega, by go_num, by rw [Hend1.out], Hv1, below_dn hxw _⟩, meas_up hlt⟩
    ·
     obtain rfl : i = ls.length := by omega
     have HE := Lib.hid (chk_end HZ.out H1.out (by rw [← H1.out]; exact hA.out))
     have HN : Hid (endZ l ls l.length = endZ l ls ls.length) := by show _ = _; rw [H1.out]
     clear hA
     go_wp2_with fail
     go_ret2
     exact ⟨by rw [HE.out.1, HE.out.2, HN.out]; rfl, hbel⟩
  ·
   have HR := Lib.hid (chk_size (m := m) HZ.out hll)
   have t1 : ((ls.length : Int) != (l.length : Int)) = true := bne_iff_ne.2 (by omega)
   clear hll
   go_enter Tryz.func11, Tryz.ntmps11
   go_wp2_with fail
   refine (checkPieces_any _ _ HV.out).mono ?_
   rw [HZ.out]
   rintro e w1 ⟨rfl, hb1⟩
   go_wp2_with fail
   go_ret2
   exact ⟨by rw [HR.out.1, HR.out.2]; rfl, hb1⟩
 ·
  have te : (pcsErr l m != 0) = true := bne_iff_ne.2 hz
  have HR := Lib.hid (chk_pcs (ls := ls) hz)
  have HP := checkPieces_any (m := m) _ w HV.out
  generalize pcsErr l m = er at *
  clear hz
  go_enter Tryz.func11, Tryz.ntmps11
  go_wp2_with fail
  refine HP.mono ?_
  rintro e w1 ⟨rfl, hb1⟩
  go_wp2_with fail
  go_ret2
  exact ⟨by rw [HR.out.1, HR.out.2]; rfl, hb1⟩

end Go.Proofs.YtofijjomfhmbjaaGreat

namespace Go.Proofs.YtofijjomfhmbjaaGreat

def loF (f : Nat → Int) : Nat → Int
 | 0 => f 0
 | i + 1 => min (loF f i) (f i)
def hiF (f : Nat → Int) : Nat → Int
 | 0 => f 0
 | i + 1 => max (hiF f i) (f i)
theorem loF_range {f : Nat → Int} {n : Nat} {A : Int} (hn : 0 < n) (h : ∀ i, i < n → -A ≤ f i ∧ f i ≤ A) : ∀ i, i ≤ n → -A ≤ loF f i ∧ loF f i ≤ A
 | 0, _ => h 0 hn
 | i + 1, hi => by
  have a := loF_range hn h i (by omega)
  have b := h i (by omega)
  simp only [loF]
  omega
theorem hiF_range {f : Nat → Int} {n : Nat} {A : Int} (hn : 0 < n) (h : ∀ i, i < n → -A ≤ f i ∧ f i ≤ A) : ∀ i, i ≤ n → -A ≤ hiF f i ∧ hiF f i ≤ A
 | 0, _ => h 0 hn
 | i + 1, hi => by
  have a := hiF_range hn h i (by omega)
  have b := h i (by omega)
  simp only [hiF]
  omega
theorem loF_same {f g : Nat → Int} : ∀ i, f 0 = g 0 → (∀ j, j < i → f j = g j) → loF f i = loF g i
 | 0, h0, _ => h0
 | i + 1, h0, h => by simp only [loF]; rw [loF_same i h0 (fun j hj => h j (by omega)), h i (by omega)]
theorem hiF_same {f g : Nat → Int} : ∀ i, f 0 = g 0 → (∀ j, j < i → f j = g j) → hiF f i = hiF g i
 | 0, h0, _ => h0
 | i + 1, h0, h => by simp only [hiF]; rw [hiF_same i h0 (fun j hj => h j (by omega)), h i (by omega)]
noncomputable def cutX (l : List (Int × Int)) : Int := if outErr l = 0 then hiF (fun i => (l.getD i (0, 0)).1) l.length - loF (fun i => (l.getD i (0, 0)).1) l.length else 0
noncomputable def cutY (l : List (Int × Int)) : Int := if outErr l = 0 then hiF (fun i => (l.getD i (0, 0)).2) l.length - loF (fun i => (l.getD i (0, 0)).2) l.length else 0
theorem outErr_zero {l : List (Int × Int)} (h : outErr l = 0) : (3 ≤ l.length ∧ l.length ≤ 16) ∧ ptsOk l = true := by
 unfold outErr at h
 by_cases c : l.length < 3 ∨ 16 < l.length
 ·
  rw [if_pos c] at h; cases h
 ·
  rw [if_neg c] at h
  refine ⟨by omega, ?_⟩
  cases hp : ptsOk l with
  | true => rfl
  | false => rw [if_pos hp] at h; cases h
theorem outErr_pt {l : List (Int × Int)} (h : outErr l = 0) (i : Nat) (hi : i < l.length) : (-4398046511104 ≤ (l.getD i (0, 0)).1 ∧ (l.getD i (0, 0)).1 ≤ 4398046511104) ∧ -4398046511104 ≤ (l.getD i (0, 0)).2 ∧ (l.getD i (0, 0)).2 ≤ 4398046511104 := by
 have := ptOk_range (ptsOk_get (outErr_zero h).2 i hi)
 unfold far ptAt at this
 exact this

def longTo (key : Nat → Int) (d : Nat → Bool) : Nat → Option Nat
 | 0 => none
 | i + 1 => if d i = true then longTo key d i else match longTo key d i with
  | none => some i
  | some b => if key b < key i then some i else some b
def optI : Option Nat → Int
 | none => -1
 | some b => b
theorem best_done {key : Nat → Int} {d : Nat → Bool} {i : Nat} (h : d i = true) : longTo key d (i + 1) = longTo key d i := by
 simp only [longTo]; rw [if_pos h]
theorem best_none {key : Nat → Int} {d : Nat → Bool} {i : Nat} (h : d i = false) (hb : longTo key d i = none) : longTo key d (i + 1) = some i := by
 simp only [longTo]; rw [if_neg (by rw [h]; simp), hb]
theorem best_more {key : Nat → Int} {d : Nat → Bool} {i b : Nat} (h : d i = false) (hb : longTo key d i = some b) (hk : key b < key i) : longTo key d (i + 1) = some i := by
 simp only [longTo]; rw [if_neg (by rw [h]; simp), hb]; simp only; rw [if_pos hk]
theorem best_keep {key : Nat → Int} {d : Nat → Bool} {i b : Nat} (h : d i = false) (hb : longTo key d i = some b) (hk : ¬ key b < key i) : longTo key d (i + 1) = some b := by
 simp only [longTo]; rw [if_neg (by rw [h]; simp), hb]; simp only; rw [if_neg hk]
theorem best_is (key : Nat → Int) (d : Nat → Bool) : ∀ n, (longTo key d n = none ∧ ∀ k, k < n → d k = true) ∨ ∃ b, longTo key d n = some b ∧ b < n ∧ d b = false ∧ ∀ k, k < n → d k = false → k = b ∨ LtK key b k
 | 0 => .inl ⟨rfl, fun k hk => by omega⟩
 | n + 1 => by
  cases hd : d n with
  | true =>
   rw [best_done hd]
   rcases best_is key d n with ⟨e, h⟩ | ⟨b, e, h1, h2, h3⟩
   ·
    refine .inl ⟨e, fun k hk => ?_⟩
    rcases Nat.lt_or_ge k n with c | c
    ·
     exact h k c
    ·
     obtain rfl : k = n := by omega
     exact hd
   ·
    refine .inr ⟨b, e, by omega, h2, fun k hk hk2 => ?_⟩
    rcases Nat.lt_or_ge k n with c | c
    ·
     exact h3 k c hk2
    ·
     obtain rfl : k = n := by omega
     rw [hd] at hk2; cases hk2
  | false =>
   rcases best_is key d n with ⟨e, h⟩ | ⟨b, e, h1, h2, h3⟩
   ·
    refine .inr ⟨n, best_none hd e, by omega, hd, fun k hk hk2 => ?_⟩
    rcases Nat.lt_or_ge k n with c | c
    ·
     rw [h k c] at hk2; cases hk2
    ·
     exact .inl (by omega)
   ·
    by_cases c1 : key b < key n
    ·
     refine .inr ⟨n, best_more hd e c1, by omega, hd, fun k hk hk2 => ?_⟩
     rcases Nat.lt_or_ge k n with c | c
     ·
      rcases h3 k c hk2 with rfl | h
      ·
       exact .inr (.inl c1)
      ·
       exact .inr (.inl (by unfold LtK at h; omega))
     ·
      exact .inl (by omega)
    ·
     refine .inr ⟨b, best_keep hd e c1, by omega, h2, fun k hk hk2 => ?_⟩
     rcases Nat.lt_or_ge k n with c | c
     ·
      exact h3 k c hk2
     ·
      obtain rfl : k = n := by omega
      exact .inr (by unfold LtK; omega)
theorem best_lt {key : Nat → Int} {d : Nat → Bool} {n b : Nat} (h : longTo key d n = some b) : b < n := by
 rcases best_is key d n with ⟨e, _⟩ | ⟨c, e, h1, _⟩
 ·
  rw [e] at h; cases h
 ·
  rw [e] at h; cases h; exact h1
def doneB (f : Nat → Nat) (j i : Nat) : Bool := (List.range j).any fun q => f q == i
theorem doneB_iff (f : Nat → Nat) (j i : Nat) : doneB f j i = true ↔ ∃ q, q < j ∧ f q = i := by
 simp [doneB, List.any_eq_true]
theorem doneB_succ (f : Nat → Nat) (j i : Nat) : doneB f (j + 1) i = (doneB f j i || f j == i) := by
 simp [doneB, List.range_succ]
theorem best_next {key : Nat → Int} {f : Nat → Nat} {n j : Nat} (hp : PermI f n) (hs : SortR key f 0 n) (hj : j < n) : longTo key (doneB f j) n = some (f j) := by
 have hdj : doneB f j (f j) = false := by
  cases h : doneB f j (f j) with
  | false => rfl
  | true =>
   obtain ⟨q, hq, e⟩ := (doneB_iff f j (f j)).1 h
   have := hp.inj q j (by omega) hj e
   omega
 rcases best_is key (doneB f j) n with ⟨e, h⟩ | ⟨b, e, h1, h2, h3⟩
 ·
  rw [h (f j) (hp.lt j hj)] at hdj; cases hdj
 ·
  rw [e]
  rcases h3 (f j) (hp.lt j hj) hdj with h | h
  ·
   rw [h]
  ·
   obtain ⟨q, hq, eq⟩ := hp.surj b h1
   have hqj : j ≤ q := by
    rcases Nat.lt_or_ge q j with c | c
    ·
     have := (doneB_iff f j b).2 ⟨q, c, eq⟩
     rw [h2] at this; cases this
    ·
     exact c
   rcases Nat.eq_or_lt_of_le hqj with c | c
   ·
    rw [c, eq]
   ·
    have := hs j q (Nat.zero_le _) c hq
    rw [eq] at this
    exact (this.trans h).irrefl.elim

end Go.Proofs.YtofijjomfhmbjaaGreat

namespace Go.Proofs.YtofijjomfhmbjaaGreat
open Go.RowKit

theorem pcErr_arg {l : List (Int × Int)} {m : Int} {i : Nat} (h : (l.getD i (0, 0)).1 < 1 ∨ (l.getD i (0, 0)).1 > 1000000 ∨ (l.getD i (0, 0)).2 < 1 ∨ (l.getD i (0, 0)).2 > 1000000) : pcErr l m i = 1 := by
 unfold pcErr
 rw [if_pos]
 cases hb : (inL (l.getD i (0, 0)).1 1 1000000 && inL (l.getD i (0, 0)).2 1 1000000) with
 | false => rfl
 | true =>
  simp only [Bool.and_eq_true] at hb
  have a := inL_of hb.1
  have b := inL_of hb.2
  omega
theorem pcErr_in {l : List (Int × Int)} {m : Int} {i : Nat} (h : ¬ (l.getD i (0, 0)).1 < 1 ∧ ¬ (l.getD i (0, 0)).1 > 1000000 ∧ ¬ (l.getD i (0, 0)).2 < 1 ∧ ¬ (l.getD i (0, 0)).2 > 1000000) : pcErr l m i = if m < (l.getD i (0, 0)).2 then 5 else 0 := by
 have hb : (inL (l.getD i (0, 0)).1 1 1000000 && inL (l.getD i (0, 0)).2 1 1000000) = true := by
  rw [inL_yes (by omega) (by omega), inL_yes (by omega) (by omega)]; rfl
 unfold pcErr
 rw [if_neg (by rw [hb]; simp)]

set_option maxRecDepth 100000 in
set_option maxHeartbeats 8000000 in
theorem qpieces_any {l : List (Int × Int)} {m : Int} (v : Value) (w : World) (hv : PairsOf w v l) : Calls Tryz.prog 28 #[v, .int .i64 m] w (RetInt (pcsErr l m) w) := by
 obtain ⟨ao, cap, rfl, hE⟩ := hv
 have HE := Lib.hid hE
 clear hE
 by_cases a1 : m < 1
 ·
  have t1 : decide (m < 1) = true := decide_eq_true a1
  have Hr : Hid (pcsErr l m = 1) := by
   show _ = _
   unfold pcsErr
   rw [if_pos]
   cases h : inL m 1 1000000 with
   | false => rfl
   | true => have := inL_of h; omega
  clear a1
  go_enter Tryz.func28, Tryz.ntmps28
  go_wp2_with fail
  go_ret
  exact ⟨by rw [Hr.out]; rfl, Below.refl _ _⟩
 ·
  have t1 : decide (m < 1) = false := decide_eq_false a1
  by_cases a2 : m > 1000000
  ·
   have t2 : decide (m > 1000000) = true := decide_eq_true a2
   have Hr : Hid (pcsErr l m = 1) := by
    show _ = _
    unfold pcsErr
    rw [if_pos]
    cases h : inL m 1 1000000 with
    | false => rfl
    | true => have := inL_of h; omega
   clear a1 a2
   go_enter Tryz.func28, Tryz.ntmps28
   go_wp2_with fail
   go_ret
   exact ⟨by rw [Hr.out]; rfl, Below.refl _ _⟩
  ·
   have t2 : decide (m > 1000000) = false := decide_eq_false a2
   have HM : Hid (inL m 1 1000000 = true) := inL_yes (by omega) (by omega)
   clear a1 a2
   by_cases c1 : 24 < l.length
   ·
    have t3 : decide ((l.length : Int) > 24) = true := decide_eq_true (by omega)
    have Hr : Hid (pcsErr l m = 4) := by show _ = _; unfold pcsErr; rw [if_neg (by rw [HM.out]; simp), if_pos c1]
    clear c1
    go_enter Tryz.func28, Tryz.ntmps28
    go_wp2_with fail
    go_ret
    exact ⟨by rw [Hr.out]; rfl, Below.refl _ _⟩
   ·
    have t3 : decide ((l.length : Int) > 24) = false := decide_eq_false (by omega)
    have Hr : Hid (pcsErr l m = firstErr (pcErr l m) l.length) := by show _ = _; unfold pcsErr; rw [if_neg (by rw [HM.out]; simp), if_neg c1]
    have hlen : l.length ≤ 24 := by omega
    clear c1
    go_enter Tryz.func28, Tryz.ntmps28
    go_wp2_with fail
    go_loopw [5] (fun iv wr => ∃ (i : Nat), i ≤ l.length ∧ iv = .int .i64 i ∧ Hid (firstErr (pcErr l m) i = 0) ∧ Below w.heap.size w wr)
     (fun iv _ => l.length - (intOf iv).toNat)
    case atStart => exact ⟨0, Nat.zero_le _, rfl, rfl, Below.refl _ _⟩
    case round =>
     obtain ⟨i, hi, rfl, hF, hbel⟩ := hrel
     by_cases hlt : i < l.length
     ·
      obtain ⟨b, off, rfl, hbl, hEE⟩ := HE.out (by omega)
      obtain ⟨g0, g1⟩ := (hEE i hlt).below hbel hbl
      have hst := Lib.hid (firstErr_step hF.out)
      have HA : Hid ((l.getD i (0, 0)).1 < 1 ∨ (l.getD i (0, 0)).1 > 1000000 ∨ (l.getD i (0, 0)).2 < 1 ∨ (l.getD i (0, 0)).2 > 1000000 → pcsErr l m = 1) := fun h => by
       have e := pcErr_arg (m := m) h
       rw [Hr.out, ← e, ← hst.out]
       exact firstErr_stay (by rw [hst.out, e]; decide) hlt
      have HN : Hid (¬ (l.getD i (0, 0)).1 < 1 ∧ ¬ (l.getD i (0, 0)).1 > 1000000 ∧ ¬ (l.getD i (0, 0)).2 < 1 ∧ ¬ (l.getD i (0, 0)).2 > 1000000 → (l.getD i (0, 0)).2 > m → pcsErr l m = 5) := fun h h2 => by
       have e : pcErr l m i = 5 := by rw [pcErr_in h, if_pos h2]
       rw [Hr.out, ← e, ← hst.out]
       exact firstErr_stay (by rw [hst.out, e]; decide) hlt
      have HO : Hid (¬ (l.getD i (0, 0)).1 < 1 ∧ ¬ (l.getD i (0, 0)).1 > 1000000 ∧ ¬ (l.getD i (0, 0)).2 < 1 ∧ ¬ (l.getD i (0, 0)).2 > 1000000 → ¬ (l.getD i (0, 0)).2 > m → firstErr (pcErr l m) (i + 1) = 0) := fun h h2 => by
       rw [hst.out, pcErr_in h, if_neg h2]
      have hlt' : (i : Int) < l.length := by omega
      have hge' : (0 : Int) ≤ i := by omega
      have hbl2 : b < wr.heap.size := Nat.lt_of_lt_of_le hbl hbel.size
      clear hEE hst
      generalize (l.getD i (0, 0)).1 = x at *
      generalize (l.getD i (0, 0)).2 = y at *
      by_cases q1 : x < 1
      ·
       have q1t : decide (x < 1) = true := decide_eq_true q1
       have Hv : Hid (pcsErr l m = 1) := HA.out (by omega)
       clear q1 HA HN HO
       go_wp2_with fail
       go_ret
       exact ⟨by rw [Hv.out]; rfl, hbel⟩
      ·
       have q1t : decide (x < 1) = false := decide_eq_false q1
       by_cases q2 : x > 1000000
       ·
        have q2t : decide (x > 1000000) = true := decide_eq_true q2
        have Hv : Hid (pcsErr l m = 1) := HA.out (by omega)
        clear q1 q2 HA HN HO
        go_wp2_with fail
        go_ret
        exact ⟨by rw [Hv.out]; rfl, hbel⟩
       ·
        have q2t : decide (x > 1000000) = false := decide_eq_false q2
        by_cases q3 : y < 1
        ·
         have q3t : decide (y < 1) = true := decide_eq_true q3
         have Hv : Hid (pcsErr l m = 1) := HA.out (by omega)
         clear q1 q2 q3 HA HN HO
         go_wp2_with fail
         go_ret
         exact ⟨by rw [Hv.out]; rfl, hbel⟩
        ·
         have q3t : decide (y < 1) = false := decide_eq_false q3
         by_cases q4 : y > 1000000
         ·
          have q4t : decide (y > 1000000) = true := decide_eq_true q4
          have Hv : Hid (pcsErr l m = 1) := HA.out (by omega)
          clear q1 q2 q3 q4 HA HN HO
          go_wp2_with fail
          go_ret
          exact ⟨by rw [Hv.out]; rfl, hbel⟩
         ·
          have q4t : decide (y > 1000000) = false := decide_eq_false q4
          by_cases q5 : y > m
          ·
           have q5t : decide (y > m) = true := decide_eq_true q5
           have Hv : Hid (pcsErr l m = 5) := HN.out ⟨q1, q2, q3, q4⟩ q5
           clear q1 q2 q3 q4 q5 HA HN HO
           go_wp2_with fail
           go_ret
           exact ⟨by rw [Hv.out]; rfl, hbel⟩
          ·
           have q5t : decide (y > m) = false := decide_eq_false q5
           have Hv : Hid (firstErr (pcErr l m) (i + 1) = 0) := HO.out ⟨q1, q2, q3, q4⟩ q5
           clear q1 q2 q3 q4 q5 HA HN HO
           go_wp2_with fail
           exact ⟨⟨i + 1, by omega, by go_num, Hv, hbel⟩, meas_up hlt⟩
     ·
      obtain rfl : i = l.length := by omega
      have Hf : Hid (pcsErr l m = 0) := by show _ = _; rw [Hr.out, hF.out]
      clear hF
      go_wp2_with fail
      go_ret
      exact ⟨by rw [Hf.out]; rfl, hbel⟩

set_option maxRecDepth 100000 in
set_option maxHeartbeats 8000000 in
theorem qnbound_any {l : List (Int × Int)} {m : Int} (v : Value) (w : World) (hv : PairsOf w v l) : Calls Tryz.prog 14 #[v, .int .i64 m] w (RetTwoN (bndN l m) (pcsErr l m) w) := by
 have HV := Lib.hid hv
 obtain ⟨ao, cap, rfl, hE⟩ := hv
 have HE := Lib.hid hE
 clear hE
 by_cases hz : pcsErr l m = 0
 ·
  have HZ := Lib.hid hz
  have HG := Lib.hid (okPcs_of hz)
  have HB : Hid (bndN l m = boundZ l m) := by show _ = _; unfold bndN; rw [if_pos hz]
  clear hz
  have hlen := HG.out.len
  have hm1 := HG.out.m1
  have hm2 := HG.out.m2
  go_enter Tryz.func14, Tryz.ntmps14
  go_wp2_with fail
  refine (qpieces_any _ _ HV.out).mono ?_
  rw [HZ.out]
  rintro e w1 ⟨rfl, hb1⟩
  go_wp2_with fail
  go_loopw [7, 8, 9, 10] (fun lv sv av iv wr => ∃ (i : Nat), i ≤ l.length ∧ iv = .int .i64 i ∧ lv = .int .i64 (longZ l i) ∧ sv = .int .i64 (areaZ l i) ∧ av = .int .i64 (aloneZ l m i) ∧ Below w.heap.size w wr)
   (fun _ _ _ iv _ => l.length - (intOf iv).toNat)
  case atStart => exact ⟨0, Nat.zero_le _, rfl, rfl, rfl, rfl, hb1⟩
  case round =>
   clear hb1
   obtain ⟨i, hi, rfl, rfl, rfl, rfl, hbel⟩ := hrel
   have hL := longZ_rangeA HG.out i hi
   have hA := areaZ_rangeA HG.out i hi
   have hO := aloneZ_rangeA HG.out i hi
   by_cases hlt : i < l.length
   ·
    obtain ⟨b, off, rfl, hbl, hEE⟩ := HE.out (by omega)
    obtain ⟨g0, g1⟩ := (hEE i hlt).below hbel hbl
    have hlt' : (i : Int) < l.length := by omega
    have hge' : (0 : Int) ≤ i := by omega
    have hbl2 : b < wr.heap.size := Nat.lt_of_lt_of_le hbl hbel.size
    have hp := HG.out.at hlt
    have HL1 : Hid (longZ l (i + 1) = max (longZ l i) (l.getD i (0, 0)).1) := rfl
    have HA1 : Hid (areaZ l (i + 1) = areaZ l i + (l.getD i (0, 0)).1 * (l.getD i (0, 0)).2) := rfl
    have HO1 : Hid (aloneZ l m (i + 1) = aloneZ l m i + if 2 * (l.getD i (0, 0)).2 > m then (l.getD i (0, 0)).1 else 0) := rfl
    clear hEE
    generalize (l.getD i (0, 0)).1 = x at *
    generalize (l.getD i (0, 0)).2 = y at *
    generalize longZ l i = L at *
    generalize areaZ l i = A at *
    generalize aloneZ l m i = O at *
    have hxy0 := Int.mul_nonneg (show 0 ≤ x by omega) (show 0 ≤ y by omega)
    have hxy1 : x * y ≤ 1000000 * 1000000 := Int.mul_le_mul hp.1.2 (by omega) (by omega) (by omega)
    have hw1 : IntKind.i64.wrap (x * y) = x * y := IntWalk.i64_in _ (by omega)
    have hw2 : IntKind.i64.wrap (A + x * y) = A + x * y := IntWalk.i64_in _ (by omega)
    have hw3 : IntKind.i64.wrap (2 * y) = 2 * y := IntWalk.i64_in _ (by omega)
    have hw4 : IntKind.i64.wrap (O + x) = O + x := IntWalk.i64_in _ (by omega)
    by_cases c : 2 * y > m
    ·
     have t1 : decide (2 * y > m) = true := decide_eq_true c
     have ho := HO1.out
     rw [if_pos c] at ho
     have HO2 := Lib.hid ho
     clear c ho HO1
     go_wp2_with fail
     go_region
     go_wp2_with fail
     exact ⟨⟨i + 1, by omega, by go_num, by rw [HL1.out], by rw [HA1.out], by rw [HO2.out], hbel.drew⟩, meas_up hlt⟩
    ·
     have t1 : decide (2 * y > m) = false := decide_eq_false c
     have ho := HO1.out
     rw [if_neg c, Int.add_zero] at ho
     have HO2 := Lib.hid ho
     clear c ho HO1
     go_wp2_with fail
     go_region
     go_wp2_with fail
     exact ⟨⟨i + 1, by omega, by go_num, by rw [HL1.out], by rw [HA1.out], by rw [HO2.out], hbel.drew⟩, meas_up hlt⟩
   ·
    obtain rfl : i = l.length := by omega
    have Ht : Hid (bndN l m = max (max (longZ l l.length) ((areaZ l l.length + m - 1) / m)) (aloneZ l m l.length)) := HB.out
    have Hu : Hid (bndN l m = max (longZ l l.length) (max ((areaZ l l.length + m - 1) / m) (aloneZ l m l.length))) := by show _ = _; rw [HB.out]; unfold boundZ; omega
    generalize longZ l l.length = L at *
    generalize areaZ l l.length = A at *
    generalize aloneZ l m l.length = O at *
    generalize bndN l m = Z at *
    have hw1 : IntKind.i64.wrap (A + m) = A + m := IntWalk.i64_in _ (by omega)
    have hw2 : IntKind.i64.wrap (A + m - 1) = A + m - 1 := IntWalk.i64_in _ (by omega)
    have hne : m ≠ 0 := by omega
    have hq0 := Int.ediv_nonneg (show 0 ≤ A + m - 1 by omega) (show 0 ≤ m by omega)
    have hq1 := Int.ediv_le_self m (show 0 ≤ A + m - 1 by omega)
    have hw3 : IntKind.i64.wrap ((A + m - 1) / m) = (A + m - 1) / m := IntWalk.i64_in _ (by omega)
    have hw4 : wrap64 ((A + m - 1) / m) = (A + m - 1) / m := (IntWalk.i64_left _).symm.trans hw3
    clear hq0 hq1
    have hM3 := fun (w : World) (ts : Array TypeId) (t : TypeId) (x y z : Int) => run_max_ints3 (P := Tryz.prog) w ts t .i64 .i64 .i64 x y z
    go_wp2_with fail
    go_ret2
    first | exact ⟨by rw [Hu.out, HZ.out]; rfl, hbel⟩ | exact ⟨by rw [Ht.out, HZ.out]; rfl, hbel⟩
 ·
  have te : (pcsErr l m != 0) = true := bne_iff_ne.2 hz
  have HB : Hid (bndN l m = 0) := by show _ = _; unfold bndN; rw [if_neg hz]
  have HP := qpieces_any (m := m) _ w HV.out
  generalize pcsErr l m = er at *
  clear hz
  go_enter Tryz.func14, Tryz.ntmps14
  go_wp2_with fail
  refine HP.mono ?_
  rintro e w1 ⟨rfl, hb1⟩
  go_wp2_with fail
  go_ret2
  exact ⟨by rw [HB.out]; rfl, hb1⟩

def BoolsOf (w : World) (v : Value) (n : Nat) (d : Nat → Bool) : Prop :=
 ∃ ao cap, v = .slice ao n cap ∧ (0 < n → ∃ b off, ao = some ⟨b, off, none⟩ ∧ b < w.heap.size ∧ ∀ i, i < n → w.cell? ⟨b, off + i, none⟩ = some (.bool (d i)))

set_option maxRecDepth 100000 in
set_option maxHeartbeats 8000000 in
theorem qnext_any {l : List (Int × Int)} {d : Nat → Bool} (v vd : Value) (w : World) (hv : PairsOf w v l) (hd : BoolsOf w vd l.length d) (hlen : l.length ≤ 24) : Calls Tryz.prog 29 #[v, vd] w (RetInt (optI (longTo (fun i => (gP l i).1) d l.length)) w) := by
 obtain ⟨ao, cap, rfl, hE⟩ := hv
 obtain ⟨ad, capd, rfl, hD⟩ := hd
 have HE := Lib.hid hE
 have HD := Lib.hid hD
 clear hE hD
 go_enter Tryz.func29, Tryz.ntmps29
 go_wp2_with fail
 go_loopw [5, 6] (fun bv iv wr => ∃ (i : Nat), i ≤ l.length ∧ iv = .int .i64 i ∧ bv = .int .i64 (optI (longTo (fun i => (gP l i).1) d i)) ∧ Below w.heap.size w wr)
  (fun _ iv _ => l.length - (intOf iv).toNat)
 case atStart => exact ⟨0, Nat.zero_le _, rfl, rfl, Below.refl _ _⟩
 case round =>
  obtain ⟨i, hi, rfl, rfl, hbel⟩ := hrel
  by_cases hlt : i < l.length
  ·
   obtain ⟨b, off, rfl, hbl, hEE⟩ := HE.out (by omega)
   obtain ⟨bd, offd, rfl, hbd, hDD⟩ := HD.out (by omega)
   obtain ⟨g0, _⟩ := (hEE i hlt).below hbel hbl
   have d0 := (hbel.cell (p := ⟨bd, offd + i, none⟩) hbd).trans (hDD i hlt)
   have hlt' : (i : Int) < l.length := by omega
   have hge' : (0 : Int) ≤ i := by omega
   have hbl2 : b < wr.heap.size := Nat.lt_of_lt_of_le hbl hbel.size
   have hbd2 : bd < wr.heap.size := Nat.lt_of_lt_of_le hbd hbel.size
   cases hdi : d i with
   | true =>
    have HB : Hid (longTo (fun i => (gP l i).1) d (i + 1) = longTo (fun i => (gP l i).1) d i) := best_done hdi
    rw [hdi] at d0
    clear hdi hEE hDD
    generalize longTo (fun i => (gP l i).1) d i = be at *
    go_wp2_with fail
    go_quiet (fail)
    go_wp2_with fail
    exact ⟨⟨i + 1, by omega, by go_num, by rw [HB.out], below_dn hbel _⟩, meas_up hlt⟩
   | false =>
    rw [hdi] at d0
    cases hbe : longTo (fun i => (gP l i).1) d i with
    | none =>
     have HB : Hid (longTo (fun i => (gP l i).1) d (i + 1) = some i) := best_none hdi hbe
     have tm : decide ((-1 : Int) < 0) = true := by decide
     clear hdi hEE hDD hbe
     simp only [optI]
     go_wp2_with fail
     go_quiet (fail)
     go_wp2_with fail
     exact ⟨⟨i + 1, by omega, by go_num, by rw [HB.out] <;> rfl, below_dn hbel _⟩, meas_up hlt⟩
    | some k =>
     have hk := best_lt hbe
     obtain ⟨k0, _⟩ := (hEE k (by omega)).below hbel hbl
     have hk' : (k : Int) < l.length := by omega
     have hk0 : (0 : Int) ≤ k := by omega
     have tm : decide ((k : Int) < 0) = false := decide_eq_false (by omega)
     simp only [optI]
     by_cases c : (l.getD i (0, 0)).1 > (l.getD k (0, 0)).1
     ·
      have HB : Hid (longTo (fun i => (gP l i).1) d (i + 1) = some i) := best_more hdi hbe c
      have t1 : decide ((l.getD i (0, 0)).1 > (l.getD k (0, 0)).1) = true := decide_eq_true c
      clear hdi hEE hDD hbe c
      generalize (l.getD i (0, 0)).1 = x at *
      generalize (l.getD k (0, 0)).1 = y at *
      go_wp2_with fail
      go_quiet (fail)
      go_wp2_with fail
      exact ⟨⟨i + 1, by omega, by go_num, by rw [HB.out] <;> rfl, below_dn hbel _⟩, meas_up hlt⟩
     ·
      have HB : Hid (longTo (fun i => (gP l i).1) d (i + 1) = some k) := best_keep hdi hbe (by unfold gP; omega)
      have t1 : decide ((l.getD i (0, 0)).1 > (l.getD k (0, 0)).1) = false := decide_eq_false c
      clear hdi hEE hDD hbe c
      generalize (l.getD i (0, 0)).1 = x at *
      generalize (l.getD k (0, 0)).1 = y at *
      go_wp2_with fail
      go_quiet (fail)
      go_wp2_with fail
      exact ⟨⟨i + 1, by omega, by go_num, by rw [HB.out] <;> rfl, below_dn hbel _⟩, meas_up hlt⟩
  ·
   obtain rfl : i = l.length := by omega
   generalize hBE : optI (longTo (fun i => (gP l i).1) d l.length) = be at *
   have HBE := Lib.hid hBE
   clear hBE
   go_wp2_with fail
   go_ret
   exact ⟨by rw [HBE.out]; rfl, hbel⟩

end Go.Proofs.YtofijjomfhmbjaaGreat
