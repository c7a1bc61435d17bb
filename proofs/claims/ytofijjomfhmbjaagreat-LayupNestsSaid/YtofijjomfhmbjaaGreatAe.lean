/- Part e of the lemmas and walks. -/
import Derived.Test.YtofijjomfhmbjaaGreatAd

namespace Go.Proofs.YtofijjomfhmbjaaGreat
open Go.RowKit

theorem rot_up (f : Nat → Nat) {a k : Nat} (h : a ≤ k) : swp2 (rotF f a (a + 1) (k + 1)) k (k + 1) = rotF f a (a + 1) (k + 2) := by
 funext x
 unfold swp2 rotF
 repeat' split
 all_goals first | (exfalso; omega) | (congr 1 <;> omega)
theorem rot_down (f : Nat → Nat) {k m : Nat} (hk : 0 < k) (h : k ≤ m) : swp2 (rotF f k m (m + 1)) k (k - 1) = rotF f (k - 1) m (m + 1) := by
 funext x
 unfold swp2 rotF
 repeat' split
 all_goals first | (exfalso; omega) | (congr 1 <;> omega)
theorem rot_none (f : Nat → Nat) (a m : Nat) : rotF f a m m = f := by
 funext k
 unfold rotF
 repeat' split
 all_goals first | rfl | (exfalso; omega) | (congr 1 <;> omega)
theorem rot_none' (f : Nat → Nat) (a b : Nat) : rotF f a a b = f := by
 funext k
 unfold rotF
 repeat' split
 all_goals first | rfl | (exfalso; omega) | (congr 1 <;> omega)
theorem Parts.done {key : Nat → Int} {f : Nat → Nat} {a m b : Nat} (h : Parts key f a m b) (c : m ≤ a ∨ b ≤ m) : SortR key f a b := by
 intro i j p1 p2 p3
 rcases c with c | c
 ·
  exact h.r i j (by omega) p2 p3
 ·
  exact h.l i j p1 p2 (by omega)
theorem SameOn.lt {f g : Nat → Nat} {a b N : Nat} (h : SameOn f g a b) (hf : ∀ k, k < N → f k < N) (hb : b ≤ N) : ∀ k, k < N → g k < N := fun k hk => by
 by_cases c : a ≤ k ∧ k < b
 ·
  obtain ⟨j, ja, jb, e⟩ := h.hits k c.1 c.2
  rw [e]; exact hf j (by omega)
 ·
  rw [h.out k (by omega)]; exact hf k hk
theorem Parts.of_same {key : Nat → Int} {f g : Nat → Nat} {a m b c d : Nat} (h : Parts key f a m b) (ha : a ≤ m) (hm : m ≤ b) (s : SameOn f g c d) (hd : d ≤ a ∨ b ≤ c) : Parts key g a m b :=
 ⟨fun i j p1 p2 p3 => by rw [s.out i (by omega), s.out j (by omega)]; exact h.l i j p1 p2 p3, fun i j p1 p2 p3 => by rw [s.out i (by omega), s.out j (by omega)]; exact h.r i j p1 p2 p3, fun i j p1 p2 p3 p4 => by rw [s.out i (by omega), s.out j (by omega)]; exact h.old i j p1 p2 p3 p4⟩
def RetMerge (key : Nat → Int) (f : Nat → Nat) (a b N g : Nat) (w : World) (e : Ending) (w' : World) : Prop := e = .returned (.tuple #[]) ∧ ∃ h, SameOn f h a b ∧ SortR key h a b ∧ Own w' g .i64 3 (ordL h N) ∧ Below g w w'
set_option maxRecDepth 100000 in
set_option maxHeartbeats 16000000 in
theorem symMerge_any (N : Nat) (key : Nat → Int) (g bx cap : Nat) (hN : N ≤ 24) (hkey : ∀ i, i < N → 0 ≤ key i ∧ key i ≤ 1000000) (w0 : World)
  (hf : ∀ i k, i < N → k < N → ∀ W, Below g w0 W → Calls Tryz.prog 27 #[.int .i64 i, .int .i64 k, .pointer (some ⟨bx, 0, none⟩)] W (RetIntQ (key k - key i) W)) : ∀ (n a m b : Nat) (f : Nat → Nat) (w : World), b - a ≤ n → a < m → m < b → b ≤ N → Parts key f a m b → (∀ k, k < N → f k < N) → Below g w0 w → Own w g .i64 3 (ordL f N) →
  Calls Tryz.prog 64 #[.slice (some ⟨g, 0, none⟩) N cap, .int .i64 a, .int .i64 m, .int .i64 b, .func (.func 27) #[] #[.pointer (some ⟨bx, 0, none⟩)]] w (RetMerge key f a b N g w) := by
 have HF := Lib.hid hf
 have HK := Lib.hid hkey
 clear hf hkey
 intro n
 induction n with
 | zero => intro a m b f w h1 h2 h3; omega
 | succ n ih =>
  have IH := Lib.hid ih
  clear ih
  intro a m b f w hn ham hmb hbN hP hfN hB0 hO
  have HP := Lib.hid hP
  have HFN := Lib.hid hfN
  have HB0 := Lib.hid hB0
  clear hP hfN hB0
  have hgl := hO.lt
  have hw1 : IntKind.i64.wrap ((m : Int) - a) = (m : Int) - a := IntWalk.i64_in _ (by omega)
  have hw2 : IntKind.i64.wrap ((b : Int) - m) = (b : Int) - m := IntWalk.i64_in _ (by omega)
  by_cases c1 : m = a + 1
  ·
   have t1 : ((m : Int) - a == 1) = true := by simp; omega
   have C1 := Lib.hid c1
   have haN : (a : Int) < N := by omega
   have ha0 : (0 : Int) ≤ a := by omega
   have hx1 : IntKind.i64.wrap ((a : Int) + 1) = (a : Int) + 1 := IntWalk.i64_in _ (by omega)
   have hmb' : m ≤ b := by omega
   have ham' : a + 1 ≤ m := by omega
   have hma' : m ≤ a + 1 := by omega
   clear c1
   go_enter Tryz.func64, Tryz.ntmps64
   go_wp2_with fail
   go_loopw [10, 11] (fun iv jv wr => ∃ i j : Nat, m ≤ i ∧ i ≤ j ∧ j ≤ b ∧ iv = .int .i64 i ∧ jv = .int .i64 j ∧ Hid (∀ k, m ≤ k → k < i → LtK key (f k) (f a)) ∧ Hid (∀ k, j ≤ k → k < b → LtK key (f a) (f k)) ∧ Own wr g .i64 3 (ordL f N) ∧ Below g w wr)
    (fun iv jv _ => (intOf jv).toNat - (intOf iv).toNat)
   case atStart => exact ⟨m, b, Nat.le_refl _, by omega, Nat.le_refl _, rfl, rfl, fun k h1 h2 => by omega, fun k h1 h2 => by omega, hO, Below.refl _ _⟩
   case round =>
    clear hO
    obtain ⟨i, j, hi, hij, hj, rfl, rfl, H1, H2, hO, hbel⟩ := hrel
    by_cases hlt : i < j
    ·
     have hlt' : (i : Int) < j := by omega
     obtain ⟨h, hh⟩ : ∃ h : Nat, (i + j) / 2 = h := ⟨_, rfl⟩
     have hw3 : IntKind.i64.wrap ((i : Int) + j) = (i : Int) + j := IntWalk.i64_in _ (by omega)
     have hhq : ((i : Int) + j) / 2 = (h : Int) := by omega
     have hhb : i ≤ h ∧ h < j := by omega
     have hh0 : (0 : Int) ≤ h := by omega
     have hhN : (h : Int) < N := by omega
     have hwh : IntKind.i64.wrap ((h : Int) + 1) = ((h + 1 : Nat) : Int) := by rw [IntWalk.i64_in _ (by omega)]; omega
     clear hh
     go_upto_region 5 with (fail)
     have cp := hO.cell h (by rw [ordL_length]; omega)
     have cq := hO.cell a (by rw [ordL_length]; omega)
     rw [ordL_get f (show h < N by omega)] at cp
     rw [ordL_get f (show a < N by omega)] at cq
     have HC : Hid (∀ W, Below g w0 W → Calls Tryz.prog 27 #[.int .i64 (f h : Nat), .int .i64 (f a : Nat), .pointer (some ⟨bx, 0, none⟩)] W (fun e w' => e = .returned (.int .i64 (key (f a) - key (f h))) ∧ Quiet W w')) := HF.out (f h) (f a) (HFN.out h (by omega)) (HFN.out a (by omega))
     have kp := HK.out (f h) (HFN.out h (by omega))
     have kq := HK.out (f a) (HFN.out a (by omega))
     have HBL := Lib.hid (HB0.out.trans hbel)
     have HO := Lib.hid hO
     have HBE := Lib.hid hbel
     by_cases cc : key (f a) < key (f h)
     ·
      have tc : decide (key (f a) - key (f h) < 0) = true := decide_eq_true (by omega)
      have H3 : Hid (∀ k, m ≤ k → k < h + 1 → LtK key (f k) (f a)) := fun k k1 k2 => by
       have q := LtK.of_gt (key := key) cc
       rcases Nat.lt_or_ge k h with z | z
       ·
        exact (HP.out.r k h k1 z (by omega)).trans q
       ·
        rw [show k = h by omega]; exact q
      clear cc kp kq hO hbel
      generalize key (f a) - key (f h) = dk at *
      go_wp2_with fail
      go_quiet ((go_at_call 27; first | exact quiet_at0 (HC.out _ (below_dn HBL.out _)) | exact quiet_at (HC.out _ (below_dn HBL.out _))))
      go_wp2_with fail
      exact ⟨⟨h + 1, j, by omega, by omega, hj, by go_num, rfl, H3, H2, HO.out.drewN _, below_dn HBE.out _⟩, by simp [intOf]; omega⟩
     ·
      have tc : decide (key (f a) - key (f h) < 0) = false := decide_eq_false (by omega)
      have H3 : Hid (∀ k, h ≤ k → k < b → LtK key (f a) (f k)) := fun k k1 k2 => by
       have q := (HP.out.lt_iff (i := a) (j := h) (Nat.le_refl _) (by omega) (by omega) (by omega)).2 cc
       rcases Nat.lt_or_ge h k with z | z
       ·
        exact q.trans (HP.out.r h k (by omega) z k2)
       ·
        rw [show k = h by omega]; exact q
      clear cc kp kq hO hbel
      generalize key (f a) - key (f h) = dk at *
      go_wp2_with fail
      go_quiet ((go_at_call 27; first | exact quiet_at0 (HC.out _ (below_dn HBL.out _)) | exact quiet_at (HC.out _ (below_dn HBL.out _))))
      go_wp2_with fail
      exact ⟨⟨i, h, hi, by omega, by omega, rfl, rfl, H1, H3, HO.out.drewN _, below_dn HBE.out _⟩, by simp [intOf]; omega⟩
    ·
     obtain rfl : i = j := by omega
     obtain ⟨p1, hp1⟩ : ∃ p1 : Nat, i = p1 + 1 := ⟨i - 1, by omega⟩
     have HP1 := Lib.hid hp1
     have hx2 : IntKind.i64.wrap ((i : Int) - 1) = (p1 : Int) := by rw [IntWalk.i64_in _ (by omega)]; omega
     have hp1a : a ≤ p1 := by omega
     have hp1N : p1 + 1 ≤ N := by omega
     clear hp1
     go_wp2_with fail
     go_loopw [13] (fun kv wr => ∃ k : Nat, a ≤ k ∧ k ≤ p1 ∧ kv = .int .i64 k ∧ Own wr g .i64 3 (ordL (rotF f a (a + 1) (k + 1)) N) ∧ Below g w wr)
      (fun kv _ => p1 - (intOf kv).toNat)
     case atStart => exact ⟨a, Nat.le_refl _, hp1a, rfl, by rw [rot_none]; exact hO, hbel⟩
     case round =>
      clear hO hbel
      obtain ⟨k, hk, hkp, rfl, hO, hbel⟩ := hrel
      by_cases hkl : k < p1
      ·
       have hkl' : (k : Int) < p1 := by omega
       obtain ⟨q, hq⟩ : ∃ q : Nat, k + 1 = q := ⟨_, rfl⟩
       have HQ := Lib.hid hq
       have hqb : q ≤ p1 := by omega
       have hkq : k < q := by omega
       have hwk : IntKind.i64.wrap ((k : Int) + 1) = (q : Int) := by rw [IntWalk.i64_in _ (by omega)]; omega
       clear hq
       have c1 := hO.cell k (by rw [ordL_length]; omega)
       have c2 := hO.cell q (by rw [ordL_length]; omega)
       rw [ordL_get _ (show k < N by omega)] at c1
       rw [ordL_get _ (show q < N by omega)] at c2
       have f1 := hO.frozen k
       have f2 := hO.frozen q
       have hkN : (k : Int) < N := by omega
       have hk0 : (0 : Int) ≤ k := by omega
       have hqN : (q : Int) < N := by omega
       have hq0 : (0 : Int) ≤ q := by omega
       have HSW : Hid (((ordL (rotF f a (a + 1) (k + 1)) N).set k (rotF f a (a + 1) (k + 1) q)).set q (rotF f a (a + 1) (k + 1) k) = ordL (rotF f a (a + 1) (q + 1)) N) := by
        show _ = _
        rw [ordL_swp _ (show k < N by omega) (show q < N by omega)]
        rw [← HQ.out, rot_up f hk]
       have HO := Lib.hid hO
       have HBE := Lib.hid hbel
       clear hO hbel
       generalize rotF f a (a + 1) (k + 1) k = vk at *
       generalize rotF f a (a + 1) (k + 1) q = vq at *
       go_wp2_with fail
       go_region
       go_wp2_with fail
       exact ⟨⟨q, by omega, hqb, rfl, by rw [← HSW.out]; exact ((HO.out.store k vq).store q vk).drew, ((HBE.out.setCell (p := ⟨g, k, none⟩) (Nat.le_refl _) _).setCell (p := ⟨g, q, none⟩) (Nat.le_refl _) _).drew⟩, by have := HQ.out; simp [intOf]; omega⟩
      ·
       obtain rfl : k = p1 := by omega
       have HR : Hid (SameOn f (rotF f a (a + 1) (k + 1)) a b ∧ SortR key (rotF f a (a + 1) (k + 1)) a b) := by
        have e1 : a + 1 = m := by omega
        have e2 : k + 1 = i := HP1.out.symm
        rw [e1, e2]
        exact ⟨(rot_same f (by omega) (by omega)).wide (Nat.le_refl _) (by omega) (by omega), merge_one HP.out C1.out hi (by omega) H1.out H2.out⟩
       have HO := Lib.hid hO
       go_wp2_with fail
       go_end0
       exact ⟨rfl, _, HR.out.1, HR.out.2, HO.out, hbel⟩
  ·
   have t1 : ((m : Int) - a == 1) = false := by simp; omega
   have C1 := Lib.hid c1
   clear c1
   by_cases c2 : b = m + 1
   ·
    have t2 : ((b : Int) - m == 1) = true := by simp; omega
    have C2 := Lib.hid c2
    have hmN : (m : Int) < N := by omega
    have hm0 : (0 : Int) ≤ m := by omega
    have ham' : a ≤ m := by omega
    have hbm' : b ≤ m + 1 := by omega
    have hbm2 : m + 1 ≤ b := by omega
    clear c2
    go_enter Tryz.func64, Tryz.ntmps64
    go_wp2_with fail
    go_loopw [14, 15] (fun iv jv wr => ∃ i j : Nat, a ≤ i ∧ i ≤ j ∧ j ≤ m ∧ iv = .int .i64 i ∧ jv = .int .i64 j ∧ Hid (∀ k, a ≤ k → k < i → LtK key (f k) (f m)) ∧ Hid (∀ k, j ≤ k → k < m → LtK key (f m) (f k)) ∧ Own wr g .i64 3 (ordL f N) ∧ Below g w wr)
     (fun iv jv _ => (intOf jv).toNat - (intOf iv).toNat)
    case atStart => exact ⟨a, m, Nat.le_refl _, by omega, Nat.le_refl _, rfl, rfl, fun k h1 h2 => by omega, fun k h1 h2 => by omega, hO, Below.refl _ _⟩
    case round =>
     clear hO
     obtain ⟨i, j, hi, hij, hj, rfl, rfl, H1, H2, hO, hbel⟩ := hrel
     by_cases hlt : i < j
     ·
      have hlt' : (i : Int) < j := by omega
      obtain ⟨h, hh⟩ : ∃ h : Nat, (i + j) / 2 = h := ⟨_, rfl⟩
      have hw3 : IntKind.i64.wrap ((i : Int) + j) = (i : Int) + j := IntWalk.i64_in _ (by omega)
      have hhq : ((i : Int) + j) / 2 = (h : Int) := by omega
      have hhb : i ≤ h ∧ h < j := by omega
      have hh0 : (0 : Int) ≤ h := by omega
      have hhN : (h : Int) < N := by omega
      have hwh : IntKind.i64.wrap ((h : Int) + 1) = ((h + 1 : Nat) : Int) := by rw [IntWalk.i64_in _ (by omega)]; omega
      clear hh
      go_upto_region 17 with (fail)
      have cp := hO.cell m (by rw [ordL_length]; omega)
      have cq := hO.cell h (by rw [ordL_length]; omega)
      rw [ordL_get f (show m < N by omega)] at cp
      rw [ordL_get f (show h < N by omega)] at cq
      have HC : Hid (∀ W, Below g w0 W → Calls Tryz.prog 27 #[.int .i64 (f m : Nat), .int .i64 (f h : Nat), .pointer (some ⟨bx, 0, none⟩)] W (fun e w' => e = .returned (.int .i64 (key (f h) - key (f m))) ∧ Quiet W w')) := HF.out (f m) (f h) (HFN.out m (by omega)) (HFN.out h (by omega))
      have kp := HK.out (f m) (HFN.out m (by omega))
      have kq := HK.out (f h) (HFN.out h (by omega))
      have HBL := Lib.hid (HB0.out.trans hbel)
      have HO := Lib.hid hO
      have HBE := Lib.hid hbel
      by_cases cc : key (f h) < key (f m)
      ·
       have tc : decide (key (f h) - key (f m) < 0) = true := decide_eq_true (by omega)
       have H3 : Hid (∀ k, h ≤ k → k < m → LtK key (f m) (f k)) := fun k k1 k2 => by
        have q := LtK.of_gt (key := key) cc
        rcases Nat.lt_or_ge h k with z | z
        ·
         exact q.trans (HP.out.l h k (by omega) z k2)
        ·
         rw [show k = h by omega]; exact q
       clear cc kp kq hO hbel
       generalize key (f h) - key (f m) = dk at *
       go_wp2_with fail
       go_quiet ((go_at_call 27; first | exact quiet_at0 (HC.out _ (below_dn HBL.out _)) | exact quiet_at (HC.out _ (below_dn HBL.out _))))
       go_wp2_with fail
       exact ⟨⟨i, h, hi, by omega, by omega, rfl, rfl, H1, H3, HO.out.drewN _, below_dn HBE.out _⟩, by simp [intOf]; omega⟩
      ·
       have tc : decide (key (f h) - key (f m) < 0) = false := decide_eq_false (by omega)
       have H3 : Hid (∀ k, a ≤ k → k < h + 1 → LtK key (f k) (f m)) := fun k k1 k2 => by
        have q := (HP.out.lt_iff (i := h) (j := m) (by omega) (by omega) (Nat.le_refl _) (by omega)).2 cc
        rcases Nat.lt_or_ge k h with z | z
        ·
         exact (HP.out.l k h k1 z (by omega)).trans q
        ·
         rw [show k = h by omega]; exact q
       clear cc kp kq hO hbel
       generalize key (f h) - key (f m) = dk at *
       go_wp2_with fail
       go_quiet ((go_at_call 27; first | exact quiet_at0 (HC.out _ (below_dn HBL.out _)) | exact quiet_at (HC.out _ (below_dn HBL.out _))))
       go_wp2_with fail
       exact ⟨⟨h + 1, j, by omega, by omega, hj, by go_num, rfl, H3, H2, HO.out.drewN _, below_dn HBE.out _⟩, by simp [intOf]; omega⟩
     ·
      obtain rfl : i = j := by omega
      go_wp2_with fail
      go_loopw [17] (fun kv wr => ∃ k : Nat, i ≤ k ∧ k ≤ m ∧ kv = .int .i64 k ∧ Own wr g .i64 3 (ordL (rotF f k m (m + 1)) N) ∧ Below g w wr)
       (fun kv _ => (intOf kv).toNat)
      case atStart => exact ⟨m, hj, Nat.le_refl _, rfl, by rw [rot_none']; exact hO, hbel⟩
      case round =>
       clear hO hbel
       obtain ⟨k, hk, hkm, rfl, hO, hbel⟩ := hrel
       by_cases hkl : i < k
       ·
        have hkl' : (i : Int) < k := by omega
        have tk : decide ((k : Int) > i) = true := decide_eq_true (by omega)
        obtain ⟨q, hq⟩ : ∃ q : Nat, k - 1 = q := ⟨_, rfl⟩
        have HQ := Lib.hid hq
        have hqb : i ≤ q := by omega
        have hkq : q < k := by omega
        have hwk : IntKind.i64.wrap ((k : Int) - 1) = (q : Int) := by rw [IntWalk.i64_in _ (by omega)]; omega
        clear hq
        have c1 := hO.cell k (by rw [ordL_length]; omega)
        have c2 := hO.cell q (by rw [ordL_length]; omega)
        rw [ordL_get _ (show k < N by omega)] at c1
        rw [ordL_get _ (show q < N by omega)] at c2
        have f1 := hO.frozen k
        have f2 := hO.frozen q
        have hkN : (k : Int) < N := by omega
        have hk0 : (0 : Int) ≤ k := by omega
        have hqN : (q : Int) < N := by omega
        have hq0 : (0 : Int) ≤ q := by omega
        have HSW : Hid (((ordL (rotF f k m (m + 1)) N).set k (rotF f k m (m + 1) q)).set q (rotF f k m (m + 1) k) = ordL (rotF f q m (m + 1)) N) := by
         show _ = _
         rw [ordL_swp _ (show k < N by omega) (show q < N by omega)]
         rw [← HQ.out, rot_down f (by omega) hkm]
        have HO := Lib.hid hO
        have HBE := Lib.hid hbel
        clear hO hbel
        generalize rotF f k m (m + 1) k = vk at *
        generalize rotF f k m (m + 1) q = vq at *
        go_wp2_with fail
        go_region
        go_wp2_with fail
        exact ⟨⟨q, hqb, by omega, rfl, by rw [← HSW.out]; exact ((HO.out.store k vq).store q vk).drew, ((HBE.out.setCell (p := ⟨g, k, none⟩) (Nat.le_refl _) _).setCell (p := ⟨g, q, none⟩) (Nat.le_refl _) _).drew⟩, by simp [intOf]; omega⟩
       ·
        obtain rfl : i = k := by omega
        have tk : decide ((i : Int) > i) = false := decide_eq_false (by omega)
        have HR : Hid (SameOn f (rotF f i m (m + 1)) a b ∧ SortR key (rotF f i m (m + 1)) a b) := by
         have e1 : m + 1 = b := by omega
         rw [e1]
         exact ⟨(rot_same f (by omega) (by omega)).wide (by omega) (by omega) (Nat.le_refl _), merge_one' HP.out C2.out hi hj H1.out H2.out⟩
        have HO := Lib.hid hO
        go_wp2_with fail
        go_end0
        exact ⟨rfl, _, HR.out.1, HR.out.2, HO.out, hbel⟩
   ·
    have t2 : ((b : Int) - m == 1) = false := by simp; omega
    have C2 := Lib.hid c2
    clear c2
    obtain ⟨d, hd⟩ : ∃ d : Nat, (a + b) / 2 = d := ⟨_, rfl⟩
    have hwab : IntKind.i64.wrap ((a : Int) + b) = (a : Int) + b := IntWalk.i64_in _ (by omega)
    have hdq : ((a : Int) + b) / 2 = (d : Int) := by omega
    have hda : a < d ∧ d < b := by have := C1.out; have := C2.out; omega
    have hdd : a + b ≤ 2 * d + 1 ∧ 2 * d ≤ a + b := by omega
    have hn' : (d : Int) + m = ((d + m : Nat) : Int) := by omega
    have hwn : IntKind.i64.wrap ((d : Int) + m) = (d : Int) + m := IntWalk.i64_in _ (by omega)
    have hwp : IntKind.i64.wrap ((d : Int) + m - 1) = (d : Int) + m - 1 := IntWalk.i64_in _ (by omega)
    have hwb : IntKind.i64.wrap ((d : Int) + m - b) = (d : Int) + m - b := IntWalk.i64_in _ (by omega)
    clear hd hn'
    by_cases cm : d < m
    ·
     have tm : decide ((m : Int) > d) = true := decide_eq_true (by omega)
     obtain ⟨s0, hs0⟩ : ∃ s0 : Nat, s0 = d + m - b := ⟨_, rfl⟩
     have hq0 : (d : Int) + m - b = (s0 : Int) := by omega
     have hs1 : a ≤ s0 ∧ s0 ≤ d ∧ d + m ≤ b + s0 ∧ (s0 = a ∨ s0 + b = d + m) := by omega
     have HS0 := Lib.hid hs0
     clear hs0
     go_enter Tryz.func64, Tryz.ntmps64
     go_wp2_with fail
     go_loopw [20, 21] (fun iv jv wr => ∃ i j : Nat, s0 ≤ i ∧ i ≤ j ∧ j ≤ d ∧ iv = .int .i64 i ∧ jv = .int .i64 j ∧ Hid (∀ c, s0 ≤ c → c < i → LtK key (f c) (f (d + m - 1 - c))) ∧ Hid (∀ c, j ≤ c → c < d → LtK key (f (d + m - 1 - c)) (f c)) ∧ Own wr g .i64 3 (ordL f N) ∧ Below g w wr)
      (fun iv jv _ => (intOf jv).toNat - (intOf iv).toNat)
     case atStart => exact ⟨s0, d, Nat.le_refl _, by omega, Nat.le_refl _, by first | rfl | (rw [hq0]), rfl, fun k h1 h2 => by omega, fun k h1 h2 => by omega, hO, Below.refl _ _⟩
     case round =>
      clear hO hq0
      obtain ⟨i, j, hi, hij, hj, rfl, rfl, H1, H2, hO, hbel⟩ := hrel
      by_cases hlt : i < j
      ·
       have hlt' : (i : Int) < j := by omega
       obtain ⟨h, hh⟩ : ∃ h : Nat, (i + j) / 2 = h := ⟨_, rfl⟩
       have hw3 : IntKind.i64.wrap ((i : Int) + j) = (i : Int) + j := IntWalk.i64_in _ (by omega)
       have hhq : ((i : Int) + j) / 2 = (h : Int) := by omega
       have hhb : i ≤ h ∧ h < j := by omega
       have hh0 : (0 : Int) ≤ h := by omega
       have hhN : (h : Int) < N := by omega
       have hwh : IntKind.i64.wrap ((h : Int) + 1) = ((h + 1 : Nat) : Int) := by rw [IntWalk.i64_in _ (by omega)]; omega
       clear hh
       obtain ⟨u, hu⟩ : ∃ u : Nat, d + m - 1 - h = u := ⟨_, rfl⟩
       have HU := Lib.hid hu
       have hub : m ≤ u ∧ u < b := by omega
       have huq : (d : Int) + m - 1 - h = (u : Int) := by omega
       have hwu : IntKind.i64.wrap ((d : Int) + m - 1 - h) = (d : Int) + m - 1 - h := IntWalk.i64_in _ (by omega)
       have huN : (u : Int) < N := by omega
       have hu0 : (0 : Int) ≤ u := by omega
       clear hu
       go_upto_region 35 with (fail)
       have cp := hO.cell u (by rw [ordL_length]; omega)
       have cq := hO.cell h (by rw [ordL_length]; omega)
       rw [ordL_get f (show u < N by omega)] at cp
       rw [ordL_get f (show h < N by omega)] at cq
       have HC : Hid (∀ W, Below g w0 W → Calls Tryz.prog 27 #[.int .i64 (f u : Nat), .int .i64 (f h : Nat), .pointer (some ⟨bx, 0, none⟩)] W (fun e w' => e = .returned (.int .i64 (key (f h) - key (f u))) ∧ Quiet W w')) := HF.out (f u) (f h) (HFN.out u (by omega)) (HFN.out h (by omega))
       have kp := HK.out (f u) (HFN.out u (by omega))
       have kq := HK.out (f h) (HFN.out h (by omega))
       have HBL := Lib.hid (HB0.out.trans hbel)
       have HO := Lib.hid hO
       have HBE := Lib.hid hbel
       by_cases cc : key (f h) < key (f u)
       ·
        have tc : decide (key (f h) - key (f u) < 0) = true := decide_eq_true (by omega)
        have H3 : Hid (∀ c, h ≤ c → c < d → LtK key (f (d + m - 1 - c)) (f c)) := fun c k1 k2 => by
         have q := LtK.of_gt (key := key) cc
         have hU := HU.out
         rcases Nat.lt_or_ge h c with z | z
         ·
          have q2 := HP.out.l h c (by omega) z (by omega)
          have q3 := HP.out.r (d + m - 1 - c) u (by omega) (by omega) (by omega)
          exact (q3.trans q).trans q2
         ·
          rw [show c = h by omega, hU]; exact q
        clear cc kp kq hO hbel
        generalize key (f h) - key (f u) = dk at *
        go_wp2_with fail
        go_quiet ((go_at_call 27; first | exact quiet_at0 (HC.out _ (below_dn HBL.out _)) | exact quiet_at (HC.out _ (below_dn HBL.out _))))
        go_wp2_with fail
        exact ⟨⟨i, h, hi, by omega, by omega, rfl, rfl, H1, H3, HO.out.drewN _, below_dn HBE.out _⟩, by simp [intOf]; omega⟩
       ·
        have tc : decide (key (f h) - key (f u) < 0) = false := decide_eq_false (by omega)
        have H3 : Hid (∀ c, s0 ≤ c → c < h + 1 → LtK key (f c) (f (d + m - 1 - c))) := fun c k1 k2 => by
         have q := (HP.out.lt_iff (i := h) (j := u) (by omega) (by omega) (by omega) (by omega)).2 cc
         have hU := HU.out
         rcases Nat.lt_or_ge c h with z | z
         ·
          have q2 := HP.out.l c h (by omega) z (by omega)
          have q3 := HP.out.r u (d + m - 1 - c) (by omega) (by omega) (by omega)
          exact (q2.trans q).trans q3
         ·
          rw [show c = h by omega, hU]; exact q
        clear cc kp kq hO hbel
        generalize key (f h) - key (f u) = dk at *
        go_wp2_with fail
        go_quiet ((go_at_call 27; first | exact quiet_at0 (HC.out _ (below_dn HBL.out _)) | exact quiet_at (HC.out _ (below_dn HBL.out _))))
        go_wp2_with fail
        exact ⟨⟨h + 1, j, by omega, by omega, hj, by go_num, rfl, H3, H2, HO.out.drewN _, below_dn HBE.out _⟩, by simp [intOf]; omega⟩
      ·
       obtain rfl : i = j := by omega
       have hws : IntKind.i64.wrap ((d : Int) + m - i) = (d : Int) + m - i := IntWalk.i64_in _ (by omega)
       obtain ⟨ee, hee0⟩ : ∃ ee : Nat, ee = d + m - i := ⟨_, rfl⟩
       have hem : m ≤ ee ∧ ee ≤ b := by omega
       have HEE := Lib.hid hee0
       have hed : d = i + (ee - m) := by omega
       have HM := Lib.hid (merge_rot HP.out (show a ≤ i by omega) (show i ≤ m by omega) hem.1 hem.2 hed (fun p1 p2 => by
        have q := H1.out (i - 1) (by omega) (by omega)
        rw [show d + m - 1 - (i - 1) = ee by omega] at q
        exact q) (fun p1 p2 => by
        have q := H2.out i (Nat.le_refl _) (by omega)
        rw [show d + m - 1 - i = ee - 1 by omega] at q
        exact q))
       have HED := Lib.hid hed
       have hee : (d : Int) + m - i = (ee : Int) := by omega
       clear hed hee0
       by_cases zY : i < d
       ·
        by_cases zZ : a < i
        ·
         by_cases zV : ee < b
         ·
          have q1 : decide ((i : Int) < m) = true := decide_eq_true (by omega)
          have q2 : decide ((m : Int) < (d : Int) + m - i) = true := decide_eq_true (by omega)
          have q3 : decide ((a : Int) < i) = true := decide_eq_true (by omega)
          have q4 : decide ((i : Int) < d) = true := decide_eq_true (by omega)
          have q5 : decide ((d : Int) < (d : Int) + m - i) = true := decide_eq_true (by omega)
          have q6 : decide ((d : Int) + m - i < b) = true := decide_eq_true (by omega)
          have hed := HED.out
          rw [hee] at q2 q5 q6
          have HB1 := Lib.hid (HB0.out.trans hbel)
          have HSA : Hid (SameOn f (rotF f i m ee) a b) := (rot_same f (by omega) (by omega)).wide (by omega) (by omega) (by omega)
          have HLT : Hid (∀ k, k < N → rotF f i m ee k < N) := HSA.out.lt HFN.out hbN
          have hdl : d + m = i + ee := by omega
          have HDL := Lib.hid hdl
          clear hed hdl
          go_wp2_with fail
          all_goals
           refine (rotate_any N i m ee f g cap _ _ (by omega) (by omega) (by omega) hN hO).mono ?_
           rintro e1 w1 ⟨rfl, hO1, hb1⟩
           have HB2 := Lib.hid (HB1.out.trans hb1)
           have hx1 := hbel.trans hb1
           go_wp2_with fail
           all_goals
            refine (IH.out a i d (rotF f i m ee) _ (by omega) (by omega) (by omega) (by omega) HM.out.1 HLT.out HB2.out hO1).mono ?_
            rintro e2 w2 ⟨rfl, F2, hS2, hR2, hO2, hb2⟩
            have HS2 := Lib.hid hS2
            have HR2 := Lib.hid hR2
            have HB3 := Lib.hid (HB2.out.trans hb2)
            have hx2 := hx1.trans hb2
            clear hS2 hR2
            go_wp2_with fail
            all_goals
             have HP2 : Hid (Parts key F2 d ee b) := HM.out.2.1.of_same (by omega) (by omega) HS2.out (by omega)
             have HL2 : Hid (∀ k, k < N → F2 k < N) := HS2.out.lt HLT.out (by omega)
             refine (IH.out d ee b F2 _ (by omega) (by omega) (by omega) hbN HP2.out HL2.out HB3.out hO2).mono ?_
             rintro e3 w3 ⟨rfl, F3, hS3, hR3, hO3, hb3⟩
             have HS3 := Lib.hid hS3
             have HR3 := Lib.hid hR3
             have hx3 := hx2.trans hb3
             clear hS3 hR3
             go_wp2_with fail
             all_goals
              have HJ := Lib.hid (merge_join (by omega) (by omega) HM.out.2.2 HS2.out HR2.out HS3.out HR3.out)
              go_end0
              exact ⟨rfl, F3, HSA.out.trans HJ.out.1, HJ.out.2, hO3, hx3⟩
         ·
          have q1 : decide ((i : Int) < m) = true := decide_eq_true (by omega)
          have q2 : decide ((m : Int) < (d : Int) + m - i) = true := decide_eq_true (by omega)
          have q3 : decide ((a : Int) < i) = true := decide_eq_true (by omega)
          have q4 : decide ((i : Int) < d) = true := decide_eq_true (by omega)
          have q5 : decide ((d : Int) < (d : Int) + m - i) = true := decide_eq_true (by omega)
          have q6 : decide ((d : Int) + m - i < b) = false := decide_eq_false (by omega)
          have hed := HED.out
          rw [hee] at q2 q5 q6
          have HB1 := Lib.hid (HB0.out.trans hbel)
          have HSA : Hid (SameOn f (rotF f i m ee) a b) := (rot_same f (by omega) (by omega)).wide (by omega) (by omega) (by omega)
          have HLT : Hid (∀ k, k < N → rotF f i m ee k < N) := HSA.out.lt HFN.out hbN
          have hdl : d + m = i + ee := by omega
          have HDL := Lib.hid hdl
          clear hed hdl
          go_wp2_with fail
          all_goals
           refine (rotate_any N i m ee f g cap _ _ (by omega) (by omega) (by omega) hN hO).mono ?_
           rintro e1 w1 ⟨rfl, hO1, hb1⟩
           have HB2 := Lib.hid (HB1.out.trans hb1)
           have hx1 := hbel.trans hb1
           go_wp2_with fail
           all_goals
            refine (IH.out a i d (rotF f i m ee) _ (by omega) (by omega) (by omega) (by omega) HM.out.1 HLT.out HB2.out hO1).mono ?_
            rintro e2 w2 ⟨rfl, F2, hS2, hR2, hO2, hb2⟩
            have HS2 := Lib.hid hS2
            have HR2 := Lib.hid hR2
            have HB3 := Lib.hid (HB2.out.trans hb2)
            have hx2 := hx1.trans hb2
            clear hS2 hR2
            go_wp2_with fail
            all_goals
             have HP2 : Hid (Parts key F2 d ee b) := HM.out.2.1.of_same (by omega) (by omega) HS2.out (by omega)
             have HL2 : Hid (∀ k, k < N → F2 k < N) := HS2.out.lt HLT.out (by omega)
             obtain ⟨F3, hF3⟩ : ∃ F3, F3 = F2 := ⟨_, rfl⟩
             have HS3 : Hid (SameOn F2 F3 d b) := by show SameOn _ _ _ _; rw [hF3]; exact SameOn.refl _ _ _
             have HR3 : Hid (SortR key F3 d b) := by show SortR _ _ _ _; rw [hF3]; exact HP2.out.done (by omega)
             have hO3 := hO2
             rw [← hF3] at hO3
             have hx3 := hx2
             clear hF3
             have HJ := Lib.hid (merge_join (by omega) (by omega) HM.out.2.2 HS2.out HR2.out HS3.out HR3.out)
             go_end0
             exact ⟨rfl, F3, HSA.out.trans HJ.out.1, HJ.out.2, hO3, hx3⟩
        ·
         by_cases zV : ee < b
         ·
          have q1 : decide ((i : Int) < m) = true := decide_eq_true (by omega)
          have q2 : decide ((m : Int) < (d : Int) + m - i) = true := decide_eq_true (by omega)
          have q3 : decide ((a : Int) < i) = false := decide_eq_false (by omega)
          have q4 : decide ((i : Int) < d) = true := decide_eq_true (by omega)
          have q5 : decide ((d : Int) < (d : Int) + m - i) = true := decide_eq_true (by omega)
          have q6 : decide ((d : Int) + m - i < b) = true := decide_eq_true (by omega)
          have hed := HED.out
          rw [hee] at q2 q5 q6
          have HB1 := Lib.hid (HB0.out.trans hbel)
          have HSA : Hid (SameOn f (rotF f i m ee) a b) := (rot_same f (by omega) (by omega)).wide (by omega) (by omega) (by omega)
          have HLT : Hid (∀ k, k < N → rotF f i m ee k < N) := HSA.out.lt HFN.out hbN
          have hdl : d + m = i + ee := by omega
          have HDL := Lib.hid hdl
          clear hed hdl
          go_wp2_with fail
          all_goals
           refine (rotate_any N i m ee f g cap _ _ (by omega) (by omega) (by omega) hN hO).mono ?_
           rintro e1 w1 ⟨rfl, hO1, hb1⟩
           have HB2 := Lib.hid (HB1.out.trans hb1)
           have hx1 := hbel.trans hb1
           go_wp2_with fail
           all_goals
            obtain ⟨F2, hF2⟩ : ∃ F2, F2 = rotF f i m ee := ⟨_, rfl⟩
            have HS2 : Hid (SameOn (rotF f i m ee) F2 a d) := by show SameOn _ _ _ _; rw [hF2]; exact SameOn.refl _ _ _
            have HR2 : Hid (SortR key F2 a d) := by show SortR _ _ _ _; rw [hF2]; exact HM.out.1.done (by omega)
            have hO2 := hO1
            rw [← hF2] at hO2
            have HB3 := HB2
            have hx2 := hx1
            clear hF2
            have HP2 : Hid (Parts key F2 d ee b) := HM.out.2.1.of_same (by omega) (by omega) HS2.out (by omega)
            have HL2 : Hid (∀ k, k < N → F2 k < N) := HS2.out.lt HLT.out (by omega)
            refine (IH.out d ee b F2 _ (by omega) (by omega) (by omega) hbN HP2.out HL2.out HB3.out hO2).mono ?_
            rintro e3 w3 ⟨rfl, F3, hS3, hR3, hO3, hb3⟩
            have HS3 := Lib.hid hS3
            have HR3 := Lib.hid hR3
            have hx3 := hx2.trans hb3
            clear hS3 hR3
            go_wp2_with fail
            all_goals
             have HJ := Lib.hid (merge_join (by omega) (by omega) HM.out.2.2 HS2.out HR2.out HS3.out HR3.out)
             go_end0
             exact ⟨rfl, F3, HSA.out.trans HJ.out.1, HJ.out.2, hO3, hx3⟩
         ·
          have q1 : decide ((i : Int) < m) = true := decide_eq_true (by omega)
          have q2 : decide ((m : Int) < (d : Int) + m - i) = true := decide_eq_true (by omega)
          have q3 : decide ((a : Int) < i) = false := decide_eq_false (by omega)
          have q4 : decide ((i : Int) < d) = true := decide_eq_true (by omega)
          have q5 : decide ((d : Int) < (d : Int) + m - i) = true := decide_eq_true (by omega)
          have q6 : decide ((d : Int) + m - i < b) = false := decide_eq_false (by omega)
          have hed := HED.out
          rw [hee] at q2 q5 q6
          have HB1 := Lib.hid (HB0.out.trans hbel)
          have HSA : Hid (SameOn f (rotF f i m ee) a b) := (rot_same f (by omega) (by omega)).wide (by omega) (by omega) (by omega)
          have HLT : Hid (∀ k, k < N → rotF f i m ee k < N) := HSA.out.lt HFN.out hbN
          have hdl : d + m = i + ee := by omega
          have HDL := Lib.hid hdl
          clear hed hdl
          go_wp2_with fail
          all_goals
           refine (rotate_any N i m ee f g cap _ _ (by omega) (by omega) (by omega) hN hO).mono ?_
           rintro e1 w1 ⟨rfl, hO1, hb1⟩
           have HB2 := Lib.hid (HB1.out.trans hb1)
           have hx1 := hbel.trans hb1
           go_wp2_with fail
           all_goals
            obtain ⟨F2, hF2⟩ : ∃ F2, F2 = rotF f i m ee := ⟨_, rfl⟩
            have HS2 : Hid (SameOn (rotF f i m ee) F2 a d) := by show SameOn _ _ _ _; rw [hF2]; exact SameOn.refl _ _ _
            have HR2 : Hid (SortR key F2 a d) := by show SortR _ _ _ _; rw [hF2]; exact HM.out.1.done (by omega)
            have hO2 := hO1
            rw [← hF2] at hO2
            have HB3 := HB2
            have hx2 := hx1
            clear hF2
            have HP2 : Hid (Parts key F2 d ee b) := HM.out.2.1.of_same (by omega) (by omega) HS2.out (by omega)
            have HL2 : Hid (∀ k, k < N → F2 k < N) := HS2.out.lt HLT.out (by omega)
            obtain ⟨F3, hF3⟩ : ∃ F3, F3 = F2 := ⟨_, rfl⟩
            have HS3 : Hid (SameOn F2 F3 d b) := by show SameOn _ _ _ _; rw [hF3]; exact SameOn.refl _ _ _
            have HR3 : Hid (SortR key F3 d b) := by show SortR _ _ _ _; rw [hF3]; exact HP2.out.done (by omega)
            have hO3 := hO2
            rw [← hF3] at hO3
            have hx3 := hx2
            clear hF3
            have HJ := Lib.hid (merge_join (by omega) (by omega) HM.out.2.2 HS2.out HR2.out HS3.out HR3.out)
            go_end0
            exact ⟨rfl, F3, HSA.out.trans HJ.out.1, HJ.out.2, hO3, hx3⟩
       ·
        by_cases zZ : a < i
        ·
         by_cases zV : ee < b
         ·
          have q1 : decide ((i : Int) < m) = true := decide_eq_true (by omega)
          have q2 : decide ((m : Int) < (d : Int) + m - i) = false := decide_eq_false (by omega)
          have q3 : decide ((a : Int) < i) = true := decide_eq_true (by omega)
          have q4 : decide ((i : Int) < d) = false := decide_eq_false (by omega)
          have q5 : decide ((d : Int) < (d : Int) + m - i) = true := decide_eq_true (by omega)
          have q6 : decide ((d : Int) + m - i < b) = true := decide_eq_true (by omega)
          have hed := HED.out
          rw [hee] at q2 q5 q6
          have HB1 := Lib.hid (HB0.out.trans hbel)
          have HSA : Hid (SameOn f (rotF f i m ee) a b) := (rot_same f (by omega) (by omega)).wide (by omega) (by omega) (by omega)
          have HLT : Hid (∀ k, k < N → rotF f i m ee k < N) := HSA.out.lt HFN.out hbN
          have hdl : d + m = i + ee := by omega
          have HDL := Lib.hid hdl
          clear hed hdl
          go_wp2_with fail
          all_goals
           have hO1 : Own wr g .i64 3 (ordL (rotF f i m ee) N) := by
            have z : rotF f i m ee = f := by
             rw [show ee = m by omega]; exact rot_none f i m
            rw [z]; exact hO
           have HB2 := HB1
           have hx1 := hbel
           obtain ⟨F2, hF2⟩ : ∃ F2, F2 = rotF f i m ee := ⟨_, rfl⟩
           have HS2 : Hid (SameOn (rotF f i m ee) F2 a d) := by show SameOn _ _ _ _; rw [hF2]; exact SameOn.refl _ _ _
           have HR2 : Hid (SortR key F2 a d) := by show SortR _ _ _ _; rw [hF2]; exact HM.out.1.done (by omega)
           have hO2 := hO1
           rw [← hF2] at hO2
           have HB3 := HB2
           have hx2 := hx1
           clear hF2
           have HP2 : Hid (Parts key F2 d ee b) := HM.out.2.1.of_same (by omega) (by omega) HS2.out (by omega)
           have HL2 : Hid (∀ k, k < N → F2 k < N) := HS2.out.lt HLT.out (by omega)
           refine (IH.out d ee b F2 _ (by omega) (by omega) (by omega) hbN HP2.out HL2.out HB3.out hO2).mono ?_
           rintro e3 w3 ⟨rfl, F3, hS3, hR3, hO3, hb3⟩
           have HS3 := Lib.hid hS3
           have HR3 := Lib.hid hR3
           have hx3 := hx2.trans hb3
           clear hS3 hR3
           go_wp2_with fail
           all_goals
            have HJ := Lib.hid (merge_join (by omega) (by omega) HM.out.2.2 HS2.out HR2.out HS3.out HR3.out)
            go_end0
            exact ⟨rfl, F3, HSA.out.trans HJ.out.1, HJ.out.2, hO3, hx3⟩
         ·
          have q1 : decide ((i : Int) < m) = true := decide_eq_true (by omega)
          have q2 : decide ((m : Int) < (d : Int) + m - i) = false := decide_eq_false (by omega)
          have q3 : decide ((a : Int) < i) = true := decide_eq_true (by omega)
          have q4 : decide ((i : Int) < d) = false := decide_eq_false (by omega)
          have q5 : decide ((d : Int) < (d : Int) + m - i) = true := decide_eq_true (by omega)
          have q6 : decide ((d : Int) + m - i < b) = false := decide_eq_false (by omega)
          have hed := HED.out
          rw [hee] at q2 q5 q6
          have HB1 := Lib.hid (HB0.out.trans hbel)
          have HSA : Hid (SameOn f (rotF f i m ee) a b) := (rot_same f (by omega) (by omega)).wide (by omega) (by omega) (by omega)
          have HLT : Hid (∀ k, k < N → rotF f i m ee k < N) := HSA.out.lt HFN.out hbN
          have hdl : d + m = i + ee := by omega
          have HDL := Lib.hid hdl
          clear hed hdl
          go_wp2_with fail
          all_goals
           have hO1 : Own wr g .i64 3 (ordL (rotF f i m ee) N) := by
            have z : rotF f i m ee = f := by
             rw [show ee = m by omega]; exact rot_none f i m
            rw [z]; exact hO
           have HB2 := HB1
           have hx1 := hbel
           obtain ⟨F2, hF2⟩ : ∃ F2, F2 = rotF f i m ee := ⟨_, rfl⟩
           have HS2 : Hid (SameOn (rotF f i m ee) F2 a d) := by show SameOn _ _ _ _; rw [hF2]; exact SameOn.refl _ _ _
           have HR2 : Hid (SortR key F2 a d) := by show SortR _ _ _ _; rw [hF2]; exact HM.out.1.done (by omega)
           have hO2 := hO1
           rw [← hF2] at hO2
           have HB3 := HB2
           have hx2 := hx1
           clear hF2
           have HP2 : Hid (Parts key F2 d ee b) := HM.out.2.1.of_same (by omega) (by omega) HS2.out (by omega)
           have HL2 : Hid (∀ k, k < N → F2 k < N) := HS2.out.lt HLT.out (by omega)
           obtain ⟨F3, hF3⟩ : ∃ F3, F3 = F2 := ⟨_, rfl⟩
           have HS3 : Hid (SameOn F2 F3 d b) := by show SameOn _ _ _ _; rw [hF3]; exact SameOn.refl _ _ _
           have HR3 : Hid (SortR key F3 d b) := by show SortR _ _ _ _; rw [hF3]; exact HP2.out.done (by omega)
           have hO3 := hO2
           rw [← hF3] at hO3
           have hx3 := hx2
           clear hF3
           have HJ := Lib.hid (merge_join (by omega) (by omega) HM.out.2.2 HS2.out HR2.out HS3.out HR3.out)
           go_end0
           exact ⟨rfl, F3, HSA.out.trans HJ.out.1, HJ.out.2, hO3, hx3⟩
        ·
         by_cases zV : ee < b
         ·
          have q1 : decide ((i : Int) < m) = true := decide_eq_true (by omega)
          have q2 : decide ((m : Int) < (d : Int) + m - i) = false := decide_eq_false (by omega)
          have q3 : decide ((a : Int) < i) = false := decide_eq_false (by omega)
          have q4 : decide ((i : Int) < d) = false := decide_eq_false (by omega)
          have q5 : decide ((d : Int) < (d : Int) + m - i) = true := decide_eq_true (by omega)
          have q6 : decide ((d : Int) + m - i < b) = true := decide_eq_true (by omega)
          have hed := HED.out
          rw [hee] at q2 q5 q6
          have HB1 := Lib.hid (HB0.out.trans hbel)
          have HSA : Hid (SameOn f (rotF f i m ee) a b) := (rot_same f (by omega) (by omega)).wide (by omega) (by omega) (by omega)
          have HLT : Hid (∀ k, k < N → rotF f i m ee k < N) := HSA.out.lt HFN.out hbN
          have hdl : d + m = i + ee := by omega
          have HDL := Lib.hid hdl
          clear hed hdl
          go_wp2_with fail
          all_goals
           have hO1 : Own wr g .i64 3 (ordL (rotF f i m ee) N) := by
            have z : rotF f i m ee = f := by
             rw [show ee = m by omega]; exact rot_none f i m
            rw [z]; exact hO
           have HB2 := HB1
           have hx1 := hbel
           obtain ⟨F2, hF2⟩ : ∃ F2, F2 = rotF f i m ee := ⟨_, rfl⟩
           have HS2 : Hid (SameOn (rotF f i m ee) F2 a d) := by show SameOn _ _ _ _; rw [hF2]; exact SameOn.refl _ _ _
           have HR2 : Hid (SortR key F2 a d) := by show SortR _ _ _ _; rw [hF2]; exact HM.out.1.done (by omega)
           have hO2 := hO1
           rw [← hF2] at hO2
           have HB3 := HB2
           have hx2 := hx1
           clear hF2
           have HP2 : Hid (Parts key F2 d ee b) := HM.out.2.1.of_same (by omega) (by omega) HS2.out (by omega)
           have HL2 : Hid (∀ k, k < N → F2 k < N) := HS2.out.lt HLT.out (by omega)
           refine (IH.out d ee b F2 _ (by omega) (by omega) (by omega) hbN HP2.out HL2.out HB3.out hO2).mono ?_
           rintro e3 w3 ⟨rfl, F3, hS3, hR3, hO3, hb3⟩
           have HS3 := Lib.hid hS3
           have HR3 := Lib.hid hR3
           have hx3 := hx2.trans hb3
           clear hS3 hR3
           go_wp2_with fail
           all_goals
            have HJ := Lib.hid (merge_join (by omega) (by omega) HM.out.2.2 HS2.out HR2.out HS3.out HR3.out)
            go_end0
            exact ⟨rfl, F3, HSA.out.trans HJ.out.1, HJ.out.2, hO3, hx3⟩
         ·
          have q1 : decide ((i : Int) < m) = true := decide_eq_true (by omega)
          have q2 : decide ((m : Int) < (d : Int) + m - i) = false := decide_eq_false (by omega)
          have q3 : decide ((a : Int) < i) = false := decide_eq_false (by omega)
          have q4 : decide ((i : Int) < d) = false := decide_eq_false (by omega)
          have q5 : decide ((d : Int) < (d : Int) + m - i) = true := decide_eq_true (by omega)
          have q6 : decide ((d : Int) + m - i < b) = false := decide_eq_false (by omega)
          have hed := HED.out
          rw [hee] at q2 q5 q6
          have HB1 := Lib.hid (HB0.out.trans hbel)
          have HSA : Hid (SameOn f (rotF f i m ee) a b) := (rot_same f (by omega) (by omega)).wide (by omega) (by omega) (by omega)
          have HLT : Hid (∀ k, k < N → rotF f i m ee k < N) := HSA.out.lt HFN.out hbN
          have hdl : d + m = i + ee := by omega
          have HDL := Lib.hid hdl
          clear hed hdl
          go_wp2_with fail
          all_goals
           have hO1 : Own wr g .i64 3 (ordL (rotF f i m ee) N) := by
            have z : rotF f i m ee = f := by
             rw [show ee = m by omega]; exact rot_none f i m
            rw [z]; exact hO
           have HB2 := HB1
           have hx1 := hbel
           obtain ⟨F2, hF2⟩ : ∃ F2, F2 = rotF f i m ee := ⟨_, rfl⟩
           have HS2 : Hid (SameOn (rotF f i m ee) F2 a d) := by show SameOn _ _ _ _; rw [hF2]; exact SameOn.refl _ _ _
           have HR2 : Hid (SortR key F2 a d) := by show SortR _ _ _ _; rw [hF2]; exact HM.out.1.done (by omega)
           have hO2 := hO1
           rw [← hF2] at hO2
           have HB3 := HB2
           have hx2 := hx1
           clear hF2
           have HP2 : Hid (Parts key F2 d ee b) := HM.out.2.1.of_same (by omega) (by omega) HS2.out (by omega)
           have HL2 : Hid (∀ k, k < N → F2 k < N) := HS2.out.lt HLT.out (by omega)
           obtain ⟨F3, hF3⟩ : ∃ F3, F3 = F2 := ⟨_, rfl⟩
           have HS3 : Hid (SameOn F2 F3 d b) := by show SameOn _ _ _ _; rw [hF3]; exact SameOn.refl _ _ _
           have HR3 : Hid (SortR key F3 d b) := by show SortR _ _ _ _; rw [hF3]; exact HP2.out.done (by omega)
           have hO3 := hO2
           rw [← hF3] at hO3
           have hx3 := hx2
           clear hF3
           have HJ := Lib.hid (merge_join (by omega) (by omega) HM.out.2.2 HS2.out HR2.out HS3.out HR3.out)
           go_end0
           exact ⟨rfl, F3, HSA.out.trans HJ.out.1, HJ.out.2, hO3, hx3⟩
    ·
     have tm : decide ((m : Int) > d) = false := decide_eq_false (by omega)
     obtain ⟨s0, hs0⟩ : ∃ s0 : Nat, s0 = a := ⟨_, rfl⟩
     have hq0 : True := trivial
     have hs1 : a ≤ s0 ∧ s0 ≤ m ∧ d + m ≤ b + s0 ∧ (s0 = a ∨ s0 + b = d + m) := by omega
     have HS0 := Lib.hid hs0
     clear hs0
     go_enter Tryz.func64, Tryz.ntmps64
     go_wp2_with fail
     go_loopw [20, 21] (fun iv jv wr => ∃ i j : Nat, s0 ≤ i ∧ i ≤ j ∧ j ≤ m ∧ iv = .int .i64 i ∧ jv = .int .i64 j ∧ Hid (∀ c, s0 ≤ c → c < i → LtK key (f c) (f (d + m - 1 - c))) ∧ Hid (∀ c, j ≤ c → c < m → LtK key (f (d + m - 1 - c)) (f c)) ∧ Own wr g .i64 3 (ordL f N) ∧ Below g w wr)
      (fun iv jv _ => (intOf jv).toNat - (intOf iv).toNat)
     case atStart => exact ⟨s0, m, Nat.le_refl _, by omega, Nat.le_refl _, by first | rfl | (rw [HS0.out]), rfl, fun k h1 h2 => by omega, fun k h1 h2 => by omega, hO, Below.refl _ _⟩
     case round =>
      clear hO hq0
      obtain ⟨i, j, hi, hij, hj, rfl, rfl, H1, H2, hO, hbel⟩ := hrel
      by_cases hlt : i < j
      ·
       have hlt' : (i : Int) < j := by omega
       obtain ⟨h, hh⟩ : ∃ h : Nat, (i + j) / 2 = h := ⟨_, rfl⟩
       have hw3 : IntKind.i64.wrap ((i : Int) + j) = (i : Int) + j := IntWalk.i64_in _ (by omega)
       have hhq : ((i : Int) + j) / 2 = (h : Int) := by omega
       have hhb : i ≤ h ∧ h < j := by omega
       have hh0 : (0 : Int) ≤ h := by omega
       have hhN : (h : Int) < N := by omega
       have hwh : IntKind.i64.wrap ((h : Int) + 1) = ((h + 1 : Nat) : Int) := by rw [IntWalk.i64_in _ (by omega)]; omega
       clear hh
       obtain ⟨u, hu⟩ : ∃ u : Nat, d + m - 1 - h = u := ⟨_, rfl⟩
       have HU := Lib.hid hu
       have hub : m ≤ u ∧ u < b := by omega
       have huq : (d : Int) + m - 1 - h = (u : Int) := by omega
       have hwu : IntKind.i64.wrap ((d : Int) + m - 1 - h) = (d : Int) + m - 1 - h := IntWalk.i64_in _ (by omega)
       have huN : (u : Int) < N := by omega
       have hu0 : (0 : Int) ≤ u := by omega
       clear hu
       go_upto_region 35 with (fail)
       have cp := hO.cell u (by rw [ordL_length]; omega)
       have cq := hO.cell h (by rw [ordL_length]; omega)
       rw [ordL_get f (show u < N by omega)] at cp
       rw [ordL_get f (show h < N by omega)] at cq
       have HC : Hid (∀ W, Below g w0 W → Calls Tryz.prog 27 #[.int .i64 (f u : Nat), .int .i64 (f h : Nat), .pointer (some ⟨bx, 0, none⟩)] W (fun e w' => e = .returned (.int .i64 (key (f h) - key (f u))) ∧ Quiet W w')) := HF.out (f u) (f h) (HFN.out u (by omega)) (HFN.out h (by omega))
       have kp := HK.out (f u) (HFN.out u (by omega))
       have kq := HK.out (f h) (HFN.out h (by omega))
       have HBL := Lib.hid (HB0.out.trans hbel)
       have HO := Lib.hid hO
       have HBE := Lib.hid hbel
       by_cases cc : key (f h) < key (f u)
       ·
        have tc : decide (key (f h) - key (f u) < 0) = true := decide_eq_true (by omega)
        have H3 : Hid (∀ c, h ≤ c → c < m → LtK key (f (d + m - 1 - c)) (f c)) := fun c k1 k2 => by
         have q := LtK.of_gt (key := key) cc
         have hU := HU.out
         rcases Nat.lt_or_ge h c with z | z
         ·
          have q2 := HP.out.l h c (by omega) z (by omega)
          have q3 := HP.out.r (d + m - 1 - c) u (by omega) (by omega) (by omega)
          exact (q3.trans q).trans q2
         ·
          rw [show c = h by omega, hU]; exact q
        clear cc kp kq hO hbel
        generalize key (f h) - key (f u) = dk at *
        go_wp2_with fail
        go_quiet ((go_at_call 27; first | exact quiet_at0 (HC.out _ (below_dn HBL.out _)) | exact quiet_at (HC.out _ (below_dn HBL.out _))))
        go_wp2_with fail
        exact ⟨⟨i, h, hi, by omega, by omega, rfl, rfl, H1, H3, HO.out.drewN _, below_dn HBE.out _⟩, by simp [intOf]; omega⟩
       ·
        have tc : decide (key (f h) - key (f u) < 0) = false := decide_eq_false (by omega)
        have H3 : Hid (∀ c, s0 ≤ c → c < h + 1 → LtK key (f c) (f (d + m - 1 - c))) := fun c k1 k2 => by
         have q := (HP.out.lt_iff (i := h) (j := u) (by omega) (by omega) (by omega) (by omega)).2 cc
         have hU := HU.out
         rcases Nat.lt_or_ge c h with z | z
         ·
          have q2 := HP.out.l c h (by omega) z (by omega)
          have q3 := HP.out.r u (d + m - 1 - c) (by omega) (by omega) (by omega)
          exact (q2.trans q).trans q3
         ·
          rw [show c = h by omega, hU]; exact q
        clear cc kp kq hO hbel
        generalize key (f h) - key (f u) = dk at *
        go_wp2_with fail
        go_quiet ((go_at_call 27; first | exact quiet_at0 (HC.out _ (below_dn HBL.out _)) | exact quiet_at (HC.out _ (below_dn HBL.out _))))
        go_wp2_with fail
        exact ⟨⟨h + 1, j, by omega, by omega, hj, by go_num, rfl, H3, H2, HO.out.drewN _, below_dn HBE.out _⟩, by simp [intOf]; omega⟩
      ·
       obtain rfl : i = j := by omega
       have hws : IntKind.i64.wrap ((d : Int) + m - i) = (d : Int) + m - i := IntWalk.i64_in _ (by omega)
       obtain ⟨ee, hee0⟩ : ∃ ee : Nat, ee = d + m - i := ⟨_, rfl⟩
       have hem : m ≤ ee ∧ ee ≤ b := by omega
       have HEE := Lib.hid hee0
       have hed : d = i + (ee - m) := by omega
       have HM := Lib.hid (merge_rot HP.out (show a ≤ i by omega) (show i ≤ m by omega) hem.1 hem.2 hed (fun p1 p2 => by
        have q := H1.out (i - 1) (by omega) (by omega)
        rw [show d + m - 1 - (i - 1) = ee by omega] at q
        exact q) (fun p1 p2 => by
        have q := H2.out i (Nat.le_refl _) (by omega)
        rw [show d + m - 1 - i = ee - 1 by omega] at q
        exact q))
       have HED := Lib.hid hed
       have hee : (d : Int) + m - i = (ee : Int) := by omega
       clear hed hee0
       by_cases zX : i < m
       ·
        by_cases zY : i < d
        ·
         by_cases zZ : a < i
         ·
          by_cases zV : ee < b
          ·
           have q1 : decide ((i : Int) < m) = true := decide_eq_true (by omega)
           have q2 : decide ((m : Int) < (d : Int) + m - i) = true := decide_eq_true (by omega)
           have q3 : decide ((a : Int) < i) = true := decide_eq_true (by omega)
           have q4 : decide ((i : Int) < d) = true := decide_eq_true (by omega)
           have q5 : decide ((d : Int) < (d : Int) + m - i) = true := decide_eq_true (by omega)
           have q6 : decide ((d : Int) + m - i < b) = true := decide_eq_true (by omega)
           have hed := HED.out
           rw [hee] at q2 q5 q6
           have HB1 := Lib.hid (HB0.out.trans hbel)
           have HSA : Hid (SameOn f (rotF f i m ee) a b) := (rot_same f (by omega) (by omega)).wide (by omega) (by omega) (by omega)
           have HLT : Hid (∀ k, k < N → rotF f i m ee k < N) := HSA.out.lt HFN.out hbN
           have hdl : d + m = i + ee := by omega
           have HDL := Lib.hid hdl
           clear hed hdl
           go_wp2_with fail
           all_goals
            refine (rotate_any N i m ee f g cap _ _ (by omega) (by omega) (by omega) hN hO).mono ?_
            rintro e1 w1 ⟨rfl, hO1, hb1⟩
            have HB2 := Lib.hid (HB1.out.trans hb1)
            have hx1 := hbel.trans hb1
            go_wp2_with fail
            all_goals
             refine (IH.out a i d (rotF f i m ee) _ (by omega) (by omega) (by omega) (by omega) HM.out.1 HLT.out HB2.out hO1).mono ?_
             rintro e2 w2 ⟨rfl, F2, hS2, hR2, hO2, hb2⟩
             have HS2 := Lib.hid hS2
             have HR2 := Lib.hid hR2
             have HB3 := Lib.hid (HB2.out.trans hb2)
             have hx2 := hx1.trans hb2
             clear hS2 hR2
             go_wp2_with fail
             all_goals
              have HP2 : Hid (Parts key F2 d ee b) := HM.out.2.1.of_same (by omega) (by omega) HS2.out (by omega)
              have HL2 : Hid (∀ k, k < N → F2 k < N) := HS2.out.lt HLT.out (by omega)
              refine (IH.out d ee b F2 _ (by omega) (by omega) (by omega) hbN HP2.out HL2.out HB3.out hO2).mono ?_
              rintro e3 w3 ⟨rfl, F3, hS3, hR3, hO3, hb3⟩
              have HS3 := Lib.hid hS3
              have HR3 := Lib.hid hR3
              have hx3 := hx2.trans hb3
              clear hS3 hR3
              go_wp2_with fail
              all_goals
               have HJ := Lib.hid (merge_join (by omega) (by omega) HM.out.2.2 HS2.out HR2.out HS3.out HR3.out)
               go_end0
               exact ⟨rfl, F3, HSA.out.trans HJ.out.1, HJ.out.2, hO3, hx3⟩
          ·
           have q1 : decide ((i : Int) < m) = true := decide_eq_true (by omega)
           have q2 : decide ((m : Int) < (d : Int) + m - i) = true := decide_eq_true (by omega)
           have q3 : decide ((a : Int) < i) = true := decide_eq_true (by omega)
           have q4 : decide ((i : Int) < d) = true := decide_eq_true (by omega)
           have q5 : decide ((d : Int) < (d : Int) + m - i) = true := decide_eq_true (by omega)
           have q6 : decide ((d : Int) + m - i < b) = false := decide_eq_false (by omega)
           have hed := HED.out
           rw [hee] at q2 q5 q6
           have HB1 := Lib.hid (HB0.out.trans hbel)
           have HSA : Hid (SameOn f (rotF f i m ee) a b) := (rot_same f (by omega) (by omega)).wide (by omega) (by omega) (by omega)
           have HLT : Hid (∀ k, k < N → rotF f i m ee k < N) := HSA.out.lt HFN.out hbN
           have hdl : d + m = i + ee := by omega
           have HDL := Lib.hid hdl
           clear hed hdl
           go_wp2_with fail
           all_goals
            refine (rotate_any N i m ee f g cap _ _ (by omega) (by omega) (by omega) hN hO).mono ?_
            rintro e1 w1 ⟨rfl, hO1, hb1⟩
            have HB2 := Lib.hid (HB1.out.trans hb1)
            have hx1 := hbel.trans hb1
            go_wp2_with fail
            all_goals
             refine (IH.out a i d (rotF f i m ee) _ (by omega) (by omega) (by omega) (by omega) HM.out.1 HLT.out HB2.out hO1).mono ?_
             rintro e2 w2 ⟨rfl, F2, hS2, hR2, hO2, hb2⟩
             have HS2 := Lib.hid hS2
             have HR2 := Lib.hid hR2
             have HB3 := Lib.hid (HB2.out.trans hb2)
             have hx2 := hx1.trans hb2
             clear hS2 hR2
             go_wp2_with fail
             all_goals
              have HP2 : Hid (Parts key F2 d ee b) := HM.out.2.1.of_same (by omega) (by omega) HS2.out (by omega)
              have HL2 : Hid (∀ k, k < N → F2 k < N) := HS2.out.lt HLT.out (by omega)
              obtain ⟨F3, hF3⟩ : ∃ F3, F3 = F2 := ⟨_, rfl⟩
              have HS3 : Hid (SameOn F2 F3 d b) := by show SameOn _ _ _ _; rw [hF3]; exact SameOn.refl _ _ _
              have HR3 : Hid (SortR key F3 d b) := by show SortR _ _ _ _; rw [hF3]; exact HP2.out.done (by omega)
              have hO3 := hO2
              rw [← hF3] at hO3
              have hx3 := hx2
              clear hF3
              have HJ := Lib.hid (merge_join (by omega) (by omega) HM.out.2.2 HS2.out HR2.out HS3.out HR3.out)
              go_end0
              exact ⟨rfl, F3, HSA.out.trans HJ.out.1, HJ.out.2, hO3, hx3⟩
         ·
          by_cases zV : ee < b
          ·
           have q1 : decide ((i : Int) < m) = true := decide_eq_true (by omega)
           have q2 : decide ((m : Int) < (d : Int) + m - i) = true := decide_eq_true (by omega)
           have q3 : decide ((a : Int) < i) = false := decide_eq_false (by omega)
           have q4 : decide ((i : Int) < d) = true := decide_eq_true (by omega)
           have q5 : decide ((d : Int) < (d : Int) + m - i) = true := decide_eq_true (by omega)
           have q6 : decide ((d : Int) + m - i < b) = true := decide_eq_true (by omega)
           have hed := HED.out
           rw [hee] at q2 q5 q6
           have HB1 := Lib.hid (HB0.out.trans hbel)
           have HSA : Hid (SameOn f (rotF f i m ee) a b) := (rot_same f (by omega) (by omega)).wide (by omega) (by omega) (by omega)
           have HLT : Hid (∀ k, k < N → rotF f i m ee k < N) := HSA.out.lt HFN.out hbN
           have hdl : d + m = i + ee := by omega
           have HDL := Lib.hid hdl
           clear hed hdl
           go_wp2_with fail
           all_goals
            refine (rotate_any N i m ee f g cap _ _ (by omega) (by omega) (by omega) hN hO).mono ?_
            rintro e1 w1 ⟨rfl, hO1, hb1⟩
            have HB2 := Lib.hid (HB1.out.trans hb1)
            have hx1 := hbel.trans hb1
            go_wp2_with fail
            all_goals
             obtain ⟨F2, hF2⟩ : ∃ F2, F2 = rotF f i m ee := ⟨_, rfl⟩
             have HS2 : Hid (SameOn (rotF f i m ee) F2 a d) := by show SameOn _ _ _ _; rw [hF2]; exact SameOn.refl _ _ _
             have HR2 : Hid (SortR key F2 a d) := by show SortR _ _ _ _; rw [hF2]; exact HM.out.1.done (by omega)
             have hO2 := hO1
             rw [← hF2] at hO2
             have HB3 := HB2
             have hx2 := hx1
             clear hF2
             have HP2 : Hid (Parts key F2 d ee b) := HM.out.2.1.of_same (by omega) (by omega) HS2.out (by omega)
             have HL2 : Hid (∀ k, k < N → F2 k < N) := HS2.out.lt HLT.out (by omega)
             refine (IH.out d ee b F2 _ (by omega) (by omega) (by omega) hbN HP2.out HL2.out HB3.out hO2).mono ?_
             rintro e3 w3 ⟨rfl, F3, hS3, hR3, hO3, hb3⟩
             have HS3 := Lib.hid hS3
             have HR3 := Lib.hid hR3
             have hx3 := hx2.trans hb3
             clear hS3 hR3
             go_wp2_with fail
             all_goals
              have HJ := Lib.hid (merge_join (by omega) (by omega) HM.out.2.2 HS2.out HR2.out HS3.out HR3.out)
              go_end0
              exact ⟨rfl, F3, HSA.out.trans HJ.out.1, HJ.out.2, hO3, hx3⟩
          ·
           have q1 : decide ((i : Int) < m) = true := decide_eq_true (by omega)
           have q2 : decide ((m : Int) < (d : Int) + m - i) = true := decide_eq_true (by omega)
           have q3 : decide ((a : Int) < i) = false := decide_eq_false (by omega)
           have q4 : decide ((i : Int) < d) = true := decide_eq_true (by omega)
           have q5 : decide ((d : Int) < (d : Int) + m - i) = true := decide_eq_true (by omega)
           have q6 : decide ((d : Int) + m - i < b) = false := decide_eq_false (by omega)
           have hed := HED.out
           rw [hee] at q2 q5 q6
           have HB1 := Lib.hid (HB0.out.trans hbel)
           have HSA : Hid (SameOn f (rotF f i m ee) a b) := (rot_same f (by omega) (by omega)).wide (by omega) (by omega) (by omega)
           have HLT : Hid (∀ k, k < N → rotF f i m ee k < N) := HSA.out.lt HFN.out hbN
           have hdl : d + m = i + ee := by omega
           have HDL := Lib.hid hdl
           clear hed hdl
           go_wp2_with fail
           all_goals
            refine (rotate_any N i m ee f g cap _ _ (by omega) (by omega) (by omega) hN hO).mono ?_
            rintro e1 w1 ⟨rfl, hO1, hb1⟩
            have HB2 := Lib.hid (HB1.out.trans hb1)
            have hx1 := hbel.trans hb1
            go_wp2_with fail
            all_goals
             obtain ⟨F2, hF2⟩ : ∃ F2, F2 = rotF f i m ee := ⟨_, rfl⟩
             have HS2 : Hid (SameOn (rotF f i m ee) F2 a d) := by show SameOn _ _ _ _; rw [hF2]; exact SameOn.refl _ _ _
             have HR2 : Hid (SortR key F2 a d) := by show SortR _ _ _ _; rw [hF2]; exact HM.out.1.done (by omega)
             have hO2 := hO1
             rw [← hF2] at hO2
             have HB3 := HB2
             have hx2 := hx1
             clear hF2
             have HP2 : Hid (Parts key F2 d ee b) := HM.out.2.1.of_same (by omega) (by omega) HS2.out (by omega)
             have HL2 : Hid (∀ k, k < N → F2 k < N) := HS2.out.lt HLT.out (by omega)
             obtain ⟨F3, hF3⟩ : ∃ F3, F3 = F2 := ⟨_, rfl⟩
             have HS3 : Hid (SameOn F2 F3 d b) := by show SameOn _ _ _ _; rw [hF3]; exact SameOn.refl _ _ _
             have HR3 : Hid (SortR key F3 d b) := by show SortR _ _ _ _; rw [hF3]; exact HP2.out.done (by omega)
             have hO3 := hO2
             rw [← hF3] at hO3
             have hx3 := hx2
             clear hF3
             have HJ := Lib.hid (merge_join (by omega) (by omega) HM.out.2.2 HS2.out HR2.out HS3.out HR3.out)
             go_end0
             exact ⟨rfl, F3, HSA.out.trans HJ.out.1, HJ.out.2, hO3, hx3⟩
        ·
         by_cases zZ : a < i
         ·
          by_cases zV : ee < b
          ·
           have q1 : decide ((i : Int) < m) = true := decide_eq_true (by omega)
           have q2 : decide ((m : Int) < (d : Int) + m - i) = false := decide_eq_false (by omega)
           have q3 : decide ((a : Int) < i) = true := decide_eq_true (by omega)
           have q4 : decide ((i : Int) < d) = false := decide_eq_false (by omega)
           have q5 : decide ((d : Int) < (d : Int) + m - i) = true := decide_eq_true (by omega)
           have q6 : decide ((d : Int) + m - i < b) = true := decide_eq_true (by omega)
           have hed := HED.out
           rw [hee] at q2 q5 q6
           have HB1 := Lib.hid (HB0.out.trans hbel)
           have HSA : Hid (SameOn f (rotF f i m ee) a b) := (rot_same f (by omega) (by omega)).wide (by omega) (by omega) (by omega)
           have HLT : Hid (∀ k, k < N → rotF f i m ee k < N) := HSA.out.lt HFN.out hbN
           have hdl : d + m = i + ee := by omega
           have HDL := Lib.hid hdl
           clear hed hdl
           go_wp2_with fail
           all_goals
            have hO1 : Own wr g .i64 3 (ordL (rotF f i m ee) N) := by
             have z : rotF f i m ee = f := by
              rw [show ee = m by omega]; exact rot_none f i m
             rw [z]; exact hO
            have HB2 := HB1
            have hx1 := hbel
            obtain ⟨F2, hF2⟩ : ∃ F2, F2 = rotF f i m ee := ⟨_, rfl⟩
            have HS2 : Hid (SameOn (rotF f i m ee) F2 a d) := by show SameOn _ _ _ _; rw [hF2]; exact SameOn.refl _ _ _
            have HR2 : Hid (SortR key F2 a d) := by show SortR _ _ _ _; rw [hF2]; exact HM.out.1.done (by omega)
            have hO2 := hO1
            rw [← hF2] at hO2
            have HB3 := HB2
            have hx2 := hx1
            clear hF2
            have HP2 : Hid (Parts key F2 d ee b) := HM.out.2.1.of_same (by omega) (by omega) HS2.out (by omega)
            have HL2 : Hid (∀ k, k < N → F2 k < N) := HS2.out.lt HLT.out (by omega)
            refine (IH.out d ee b F2 _ (by omega) (by omega) (by omega) hbN HP2.out HL2.out HB3.out hO2).mono ?_
            rintro e3 w3 ⟨rfl, F3, hS3, hR3, hO3, hb3⟩
            have HS3 := Lib.hid hS3
            have HR3 := Lib.hid hR3
            have hx3 := hx2.trans hb3
            clear hS3 hR3
            go_wp2_with fail
            all_goals
             have HJ := Lib.hid (merge_join (by omega) (by omega) HM.out.2.2 HS2.out HR2.out HS3.out HR3.out)
             go_end0
             exact ⟨rfl, F3, HSA.out.trans HJ.out.1, HJ.out.2, hO3, hx3⟩
          ·
           have q1 : decide ((i : Int) < m) = true := decide_eq_true (by omega)
           have q2 : decide ((m : Int) < (d : Int) + m - i) = false := decide_eq_false (by omega)
           have q3 : decide ((a : Int) < i) = true := decide_eq_true (by omega)
           have q4 : decide ((i : Int) < d) = false := decide_eq_false (by omega)
           have q5 : decide ((d : Int) < (d : Int) + m - i) = true := decide_eq_true (by omega)
           have q6 : decide ((d : Int) + m - i < b) = false := decide_eq_false (by omega)
           have hed := HED.out
           rw [hee] at q2 q5 q6
           have HB1 := Lib.hid (HB0.out.trans hbel)
           have HSA : Hid (SameOn f (rotF f i m ee) a b) := (rot_same f (by omega) (by omega)).wide (by omega) (by omega) (by omega)
           have HLT : Hid (∀ k, k < N → rotF f i m ee k < N) := HSA.out.lt HFN.out hbN
           have hdl : d + m = i + ee := by omega
           have HDL := Lib.hid hdl
           clear hed hdl
           go_wp2_with fail
           all_goals
            have hO1 : Own wr g .i64 3 (ordL (rotF f i m ee) N) := by
             have z : rotF f i m ee = f := by
              rw [show ee = m by omega]; exact rot_none f i m
             rw [z]; exact hO
            have HB2 := HB1
            have hx1 := hbel
            obtain ⟨F2, hF2⟩ : ∃ F2, F2 = rotF f i m ee := ⟨_, rfl⟩
            have HS2 : Hid (SameOn (rotF f i m ee) F2 a d) := by show SameOn _ _ _ _; rw [hF2]; exact SameOn.refl _ _ _
            have HR2 : Hid (SortR key F2 a d) := by show SortR _ _ _ _; rw [hF2]; exact HM.out.1.done (by omega)
            have hO2 := hO1
            rw [← hF2] at hO2
            have HB3 := HB2
            have hx2 := hx1
            clear hF2
            have HP2 : Hid (Parts key F2 d ee b) := HM.out.2.1.of_same (by omega) (by omega) HS2.out (by omega)
            have HL2 : Hid (∀ k, k < N → F2 k < N) := HS2.out.lt HLT.out (by omega)
            obtain ⟨F3, hF3⟩ : ∃ F3, F3 = F2 := ⟨_, rfl⟩
            have HS3 : Hid (SameOn F2 F3 d b) := by show SameOn _ _ _ _; rw [hF3]; exact SameOn.refl _ _ _
            have HR3 : Hid (SortR key F3 d b) := by show SortR _ _ _ _; rw [hF3]; exact HP2.out.done (by omega)
            have hO3 := hO2
            rw [← hF3] at hO3
            have hx3 := hx2
            clear hF3
            have HJ := Lib.hid (merge_join (by omega) (by omega) HM.out.2.2 HS2.out HR2.out HS3.out HR3.out)
            go_end0
            exact ⟨rfl, F3, HSA.out.trans HJ.out.1, HJ.out.2, hO3, hx3⟩
         ·
          by_cases zV : ee < b
          ·
           have q1 : decide ((i : Int) < m) = true := decide_eq_true (by omega)
           have q2 : decide ((m : Int) < (d : Int) + m - i) = false := decide_eq_false (by omega)
           have q3 : decide ((a : Int) < i) = false := decide_eq_false (by omega)
           have q4 : decide ((i : Int) < d) = false := decide_eq_false (by omega)
           have q5 : decide ((d : Int) < (d : Int) + m - i) = true := decide_eq_true (by omega)
           have q6 : decide ((d : Int) + m - i < b) = true := decide_eq_true (by omega)
           have hed := HED.out
           rw [hee] at q2 q5 q6
           have HB1 := Lib.hid (HB0.out.trans hbel)
           have HSA : Hid (SameOn f (rotF f i m ee) a b) := (rot_same f (by omega) (by omega)).wide (by omega) (by omega) (by omega)
           have HLT : Hid (∀ k, k < N → rotF f i m ee k < N) := HSA.out.lt HFN.out hbN
           have hdl : d + m = i + ee := by omega
           have HDL := Lib.hid hdl
           clear hed hdl
           go_wp2_with fail
           all_goals
            have hO1 : Own wr g .i64 3 (ordL (rotF f i m ee) N) := by
             have z : rotF f i m ee = f := by
              rw [show ee = m by omega]; exact rot_none f i m
             rw [z]; exact hO
            have HB2 := HB1
            have hx1 := hbel
            obtain ⟨F2, hF2⟩ : ∃ F2, F2 = rotF f i m ee := ⟨_, rfl⟩
            have HS2 : Hid (SameOn (rotF f i m ee) F2 a d) := by show SameOn _ _ _ _; rw [hF2]; exact SameOn.refl _ _ _
            have HR2 : Hid (SortR key F2 a d) := by show SortR _ _ _ _; rw [hF2]; exact HM.out.1.done (by omega)
            have hO2 := hO1
            rw [← hF2] at hO2
            have HB3 := HB2
            have hx2 := hx1
            clear hF2
            have HP2 : Hid (Parts key F2 d ee b) := HM.out.2.1.of_same (by omega) (by omega) HS2.out (by omega)
            have HL2 : Hid (∀ k, k < N → F2 k < N) := HS2.out.lt HLT.out (by omega)
            refine (IH.out d ee b F2 _ (by omega) (by omega) (by omega) hbN HP2.out HL2.out HB3.out hO2).mono ?_
            rintro e3 w3 ⟨rfl, F3, hS3, hR3, hO3, hb3⟩
            have HS3 := Lib.hid hS3
            have HR3 := Lib.hid hR3
            have hx3 := hx2.trans hb3
            clear hS3 hR3
            go_wp2_with fail
            all_goals
             have HJ := Lib.hid (merge_join (by omega) (by omega) HM.out.2.2 HS2.out HR2.out HS3.out HR3.out)
             go_end0
             exact ⟨rfl, F3, HSA.out.trans HJ.out.1, HJ.out.2, hO3, hx3⟩
          ·
           have q1 : decide ((i : Int) < m) = true := decide_eq_true (by omega)
           have q2 : decide ((m : Int) < (d : Int) + m - i) = false := decide_eq_false (by omega)
           have q3 : decide ((a : Int) < i) = false := decide_eq_false (by omega)
           have q4 : decide ((i : Int) < d) = false := decide_eq_false (by omega)
           have q5 : decide ((d : Int) < (d : Int) + m - i) = true := decide_eq_true (by omega)
           have q6 : decide ((d : Int) + m - i < b) = false := decide_eq_false (by omega)
           have hed := HED.out
           rw [hee] at q2 q5 q6
           have HB1 := Lib.hid (HB0.out.trans hbel)
           have HSA : Hid (SameOn f (rotF f i m ee) a b) := (rot_same f (by omega) (by omega)).wide (by omega) (by omega) (by omega)
           have HLT : Hid (∀ k, k < N → rotF f i m ee k < N) := HSA.out.lt HFN.out hbN
           have hdl : d + m = i + ee := by omega
           have HDL := Lib.hid hdl
           clear hed hdl
           go_wp2_with fail
           all_goals
            have hO1 : Own wr g .i64 3 (ordL (rotF f i m ee) N) := by
             have z : rotF f i m ee = f := by
              rw [show ee = m by omega]; exact rot_none f i m
             rw [z]; exact hO
            have HB2 := HB1
            have hx1 := hbel
            obtain ⟨F2, hF2⟩ : ∃ F2, F2 = rotF f i m ee := ⟨_, rfl⟩
            have HS2 : Hid (SameOn (rotF f i m ee) F2 a d) := by show SameOn _ _ _ _; rw [hF2]; exact SameOn.refl _ _ _
            have HR2 : Hid (SortR key F2 a d) := by show SortR _ _ _ _; rw [hF2]; exact HM.out.1.done (by omega)
            have hO2 := hO1
            rw [← hF2] at hO2
            have HB3 := HB2
            have hx2 := hx1
            clear hF2
            have HP2 : Hid (Parts key F2 d ee b) := HM.out.2.1.of_same (by omega) (by omega) HS2.out (by omega)
            have HL2 : Hid (∀ k, k < N → F2 k < N) := HS2.out.lt HLT.out (by omega)
            obtain ⟨F3, hF3⟩ : ∃ F3, F3 = F2 := ⟨_, rfl⟩
            have HS3 : Hid (SameOn F2 F3 d b) := by show SameOn _ _ _ _; rw [hF3]; exact SameOn.refl _ _ _
            have HR3 : Hid (SortR key F3 d b) := by show SortR _ _ _ _; rw [hF3]; exact HP2.out.done (by omega)
            have hO3 := hO2
            rw [← hF3] at hO3
            have hx3 := hx2
            clear hF3
            have HJ := Lib.hid (merge_join (by omega) (by omega) HM.out.2.2 HS2.out HR2.out HS3.out HR3.out)
            go_end0
            exact ⟨rfl, F3, HSA.out.trans HJ.out.1, HJ.out.2, hO3, hx3⟩
       ·
        by_cases zY : i < d
        ·
         by_cases zZ : a < i
         ·
          by_cases zV : ee < b
          ·
           have q1 : decide ((i : Int) < m) = false := decide_eq_false (by omega)
           have q2 : decide ((m : Int) < (d : Int) + m - i) = true := decide_eq_true (by omega)
           have q3 : decide ((a : Int) < i) = true := decide_eq_true (by omega)
           have q4 : decide ((i : Int) < d) = true := decide_eq_true (by omega)
           have q5 : decide ((d : Int) < (d : Int) + m - i) = false := decide_eq_false (by omega)
           have q6 : decide ((d : Int) + m - i < b) = true := decide_eq_true (by omega)
           have hed := HED.out
           rw [hee] at q2 q5 q6
           have HB1 := Lib.hid (HB0.out.trans hbel)
           have HSA : Hid (SameOn f (rotF f i m ee) a b) := (rot_same f (by omega) (by omega)).wide (by omega) (by omega) (by omega)
           have HLT : Hid (∀ k, k < N → rotF f i m ee k < N) := HSA.out.lt HFN.out hbN
           have hdl : d + m = i + ee := by omega
           have HDL := Lib.hid hdl
           clear hed hdl
           go_wp2_with fail
           all_goals
            have hO1 : Own wr g .i64 3 (ordL (rotF f i m ee) N) := by
             have z : rotF f i m ee = f := by
              rw [show m = i by omega]; exact rot_none' f i ee
             rw [z]; exact hO
            have HB2 := HB1
            have hx1 := hbel
            refine (IH.out a i d (rotF f i m ee) _ (by omega) (by omega) (by omega) (by omega) HM.out.1 HLT.out HB2.out hO1).mono ?_
            rintro e2 w2 ⟨rfl, F2, hS2, hR2, hO2, hb2⟩
            have HS2 := Lib.hid hS2
            have HR2 := Lib.hid hR2
            have HB3 := Lib.hid (HB2.out.trans hb2)
            have hx2 := hx1.trans hb2
            clear hS2 hR2
            go_wp2_with fail
            all_goals
             have HP2 : Hid (Parts key F2 d ee b) := HM.out.2.1.of_same (by omega) (by omega) HS2.out (by omega)
             have HL2 : Hid (∀ k, k < N → F2 k < N) := HS2.out.lt HLT.out (by omega)
             obtain ⟨F3, hF3⟩ : ∃ F3, F3 = F2 := ⟨_, rfl⟩
             have HS3 : Hid (SameOn F2 F3 d b) := by show SameOn _ _ _ _; rw [hF3]; exact SameOn.refl _ _ _
             have HR3 : Hid (SortR key F3 d b) := by show SortR _ _ _ _; rw [hF3]; exact HP2.out.done (by omega)
             have hO3 := hO2
             rw [← hF3] at hO3
             have hx3 := hx2
             clear hF3
             have HJ := Lib.hid (merge_join (by omega) (by omega) HM.out.2.2 HS2.out HR2.out HS3.out HR3.out)
             go_end0
             exact ⟨rfl, F3, HSA.out.trans HJ.out.1, HJ.out.2, hO3, hx3⟩
          ·
           have q1 : decide ((i : Int) < m) = false := decide_eq_false (by omega)
           have q2 : decide ((m : Int) < (d : Int) + m - i) = true := decide_eq_true (by omega)
           have q3 : decide ((a : Int) < i) = true := decide_eq_true (by omega)
           have q4 : decide ((i : Int) < d) = true := decide_eq_true (by omega)
           have q5 : decide ((d : Int) < (d : Int) + m - i) = false := decide_eq_false (by omega)
           have q6 : decide ((d : Int) + m - i < b) = false := decide_eq_false (by omega)
           have hed := HED.out
           rw [hee] at q2 q5 q6
           have HB1 := Lib.hid (HB0.out.trans hbel)
           have HSA : Hid (SameOn f (rotF f i m ee) a b) := (rot_same f (by omega) (by omega)).wide (by omega) (by omega) (by omega)
           have HLT : Hid (∀ k, k < N → rotF f i m ee k < N) := HSA.out.lt HFN.out hbN
           have hdl : d + m = i + ee := by omega
           have HDL := Lib.hid hdl
           clear hed hdl
           go_wp2_with fail
           all_goals
            have hO1 : Own wr g .i64 3 (ordL (rotF f i m ee) N) := by
             have z : rotF f i m ee = f := by
              rw [show m = i by omega]; exact rot_none' f i ee
             rw [z]; exact hO
            have HB2 := HB1
            have hx1 := hbel
            refine (IH.out a i d (rotF f i m ee) _ (by omega) (by omega) (by omega) (by omega) HM.out.1 HLT.out HB2.out hO1).mono ?_
            rintro e2 w2 ⟨rfl, F2, hS2, hR2, hO2, hb2⟩
            have HS2 := Lib.hid hS2
            have HR2 := Lib.hid hR2
            have HB3 := Lib.hid (HB2.out.trans hb2)
            have hx2 := hx1.trans hb2
            clear hS2 hR2
            go_wp2_with fail
            all_goals
             have HP2 : Hid (Parts key F2 d ee b) := HM.out.2.1.of_same (by omega) (by omega) HS2.out (by omega)
             have HL2 : Hid (∀ k, k < N → F2 k < N) := HS2.out.lt HLT.out (by omega)
             obtain ⟨F3, hF3⟩ : ∃ F3, F3 = F2 := ⟨_, rfl⟩
             have HS3 : Hid (SameOn F2 F3 d b) := by show SameOn _ _ _ _; rw [hF3]; exact SameOn.refl _ _ _
             have HR3 : Hid (SortR key F3 d b) := by show SortR _ _ _ _; rw [hF3]; exact HP2.out.done (by omega)
             have hO3 := hO2
             rw [← hF3] at hO3
             have hx3 := hx2
             clear hF3
             have HJ := Lib.hid (merge_join (by omega) (by omega) HM.out.2.2 HS2.out HR2.out HS3.out HR3.out)
             go_end0
             exact ⟨rfl, F3, HSA.out.trans HJ.out.1, HJ.out.2, hO3, hx3⟩
         ·
          by_cases zV : ee < b
          ·
           have q1 : decide ((i : Int) < m) = false := decide_eq_false (by omega)
           have q2 : decide ((m : Int) < (d : Int) + m - i) = true := decide_eq_true (by omega)
           have q3 : decide ((a : Int) < i) = false := decide_eq_false (by omega)
           have q4 : decide ((i : Int) < d) = true := decide_eq_true (by omega)
           have q5 : decide ((d : Int) < (d : Int) + m - i) = false := decide_eq_false (by omega)
           have q6 : decide ((d : Int) + m - i < b) = true := decide_eq_true (by omega)
           have hed := HED.out
           rw [hee] at q2 q5 q6
           have HB1 := Lib.hid (HB0.out.trans hbel)
           have HSA : Hid (SameOn f (rotF f i m ee) a b) := (rot_same f (by omega) (by omega)).wide (by omega) (by omega) (by omega)
           have HLT : Hid (∀ k, k < N → rotF f i m ee k < N) := HSA.out.lt HFN.out hbN
           have hdl : d + m = i + ee := by omega
           have HDL := Lib.hid hdl
           clear hed hdl
           go_wp2_with fail
           all_goals
            have hO1 : Own wr g .i64 3 (ordL (rotF f i m ee) N) := by
             have z : rotF f i m ee = f := by
              rw [show m = i by omega]; exact rot_none' f i ee
             rw [z]; exact hO
            have HB2 := HB1
            have hx1 := hbel
            obtain ⟨F2, hF2⟩ : ∃ F2, F2 = rotF f i m ee := ⟨_, rfl⟩
            have HS2 : Hid (SameOn (rotF f i m ee) F2 a d) := by show SameOn _ _ _ _; rw [hF2]; exact SameOn.refl _ _ _
            have HR2 : Hid (SortR key F2 a d) := by show SortR _ _ _ _; rw [hF2]; exact HM.out.1.done (by omega)
            have hO2 := hO1
            rw [← hF2] at hO2
            have HB3 := HB2
            have hx2 := hx1
            clear hF2
            have HP2 : Hid (Parts key F2 d ee b) := HM.out.2.1.of_same (by omega) (by omega) HS2.out (by omega)
            have HL2 : Hid (∀ k, k < N → F2 k < N) := HS2.out.lt HLT.out (by omega)
            obtain ⟨F3, hF3⟩ : ∃ F3, F3 = F2 := ⟨_, rfl⟩
            have HS3 : Hid (SameOn F2 F3 d b) := by show SameOn _ _ _ _; rw [hF3]; exact SameOn.refl _ _ _
            have HR3 : Hid (SortR key F3 d b) := by show SortR _ _ _ _; rw [hF3]; exact HP2.out.done (by omega)
            have hO3 := hO2
            rw [← hF3] at hO3
            have hx3 := hx2
            clear hF3
            have HJ := Lib.hid (merge_join (by omega) (by omega) HM.out.2.2 HS2.out HR2.out HS3.out HR3.out)
            go_end0
            exact ⟨rfl, F3, HSA.out.trans HJ.out.1, HJ.out.2, hO3, hx3⟩
          ·
           have q1 : decide ((i : Int) < m) = false := decide_eq_false (by omega)
           have q2 : decide ((m : Int) < (d : Int) + m - i) = true := decide_eq_true (by omega)
           have q3 : decide ((a : Int) < i) = false := decide_eq_false (by omega)
           have q4 : decide ((i : Int) < d) = true := decide_eq_true (by omega)
           have q5 : decide ((d : Int) < (d : Int) + m - i) = false := decide_eq_false (by omega)
           have q6 : decide ((d : Int) + m - i < b) = false := decide_eq_false (by omega)
           have hed := HED.out
           rw [hee] at q2 q5 q6
           have HB1 := Lib.hid (HB0.out.trans hbel)
           have HSA : Hid (SameOn f (rotF f i m ee) a b) := (rot_same f (by omega) (by omega)).wide (by omega) (by omega) (by omega)
           have HLT : Hid (∀ k, k < N → rotF f i m ee k < N) := HSA.out.lt HFN.out hbN
           have hdl : d + m = i + ee := by omega
           have HDL := Lib.hid hdl
           clear hed hdl
           go_wp2_with fail
           all_goals
            have hO1 : Own wr g .i64 3 (ordL (rotF f i m ee) N) := by
             have z : rotF f i m ee = f := by
              rw [show m = i by omega]; exact rot_none' f i ee
             rw [z]; exact hO
            have HB2 := HB1
            have hx1 := hbel
            obtain ⟨F2, hF2⟩ : ∃ F2, F2 = rotF f i m ee := ⟨_, rfl⟩
            have HS2 : Hid (SameOn (rotF f i m ee) F2 a d) := by show SameOn _ _ _ _; rw [hF2]; exact SameOn.refl _ _ _
            have HR2 : Hid (SortR key F2 a d) := by show SortR _ _ _ _; rw [hF2]; exact HM.out.1.done (by omega)
            have hO2 := hO1
            rw [← hF2] at hO2
            have HB3 := HB2
            have hx2 := hx1
            clear hF2
            have HP2 : Hid (Parts key F2 d ee b) := HM.out.2.1.of_same (by omega) (by omega) HS2.out (by omega)
            have HL2 : Hid (∀ k, k < N → F2 k < N) := HS2.out.lt HLT.out (by omega)
            obtain ⟨F3, hF3⟩ : ∃ F3, F3 = F2 := ⟨_, rfl⟩
            have HS3 : Hid (SameOn F2 F3 d b) := by show SameOn _ _ _ _; rw [hF3]; exact SameOn.refl _ _ _
            have HR3 : Hid (SortR key F3 d b) := by show SortR _ _ _ _; rw [hF3]; exact HP2.out.done (by omega)
            have hO3 := hO2
            rw [← hF3] at hO3
            have hx3 := hx2
            clear hF3
            have HJ := Lib.hid (merge_join (by omega) (by omega) HM.out.2.2 HS2.out HR2.out HS3.out HR3.out)
            go_end0
            exact ⟨rfl, F3, HSA.out.trans HJ.out.1, HJ.out.2, hO3, hx3⟩
        ·
         by_cases zZ : a < i
         ·
          by_cases zV : ee < b
          ·
           have q1 : decide ((i : Int) < m) = false := decide_eq_false (by omega)
           have q2 : decide ((m : Int) < (d : Int) + m - i) = false := decide_eq_false (by omega)
           have q3 : decide ((a : Int) < i) = true := decide_eq_true (by omega)
           have q4 : decide ((i : Int) < d) = false := decide_eq_false (by omega)
           have q5 : decide ((d : Int) < (d : Int) + m - i) = false := decide_eq_false (by omega)
           have q6 : decide ((d : Int) + m - i < b) = true := decide_eq_true (by omega)
           have hed := HED.out
           rw [hee] at q2 q5 q6
           have HB1 := Lib.hid (HB0.out.trans hbel)
           have HSA : Hid (SameOn f (rotF f i m ee) a b) := (rot_same f (by omega) (by omega)).wide (by omega) (by omega) (by omega)
           have HLT : Hid (∀ k, k < N → rotF f i m ee k < N) := HSA.out.lt HFN.out hbN
           have hdl : d + m = i + ee := by omega
           have HDL := Lib.hid hdl
           clear hed hdl
           go_wp2_with fail
           all_goals
            have hO1 : Own wr g .i64 3 (ordL (rotF f i m ee) N) := by
             have z : rotF f i m ee = f := by
              rw [show m = i by omega]; exact rot_none' f i ee
             rw [z]; exact hO
            have HB2 := HB1
            have hx1 := hbel
            obtain ⟨F2, hF2⟩ : ∃ F2, F2 = rotF f i m ee := ⟨_, rfl⟩
            have HS2 : Hid (SameOn (rotF f i m ee) F2 a d) := by show SameOn _ _ _ _; rw [hF2]; exact SameOn.refl _ _ _
            have HR2 : Hid (SortR key F2 a d) := by show SortR _ _ _ _; rw [hF2]; exact HM.out.1.done (by omega)
            have hO2 := hO1
            rw [← hF2] at hO2
            have HB3 := HB2
            have hx2 := hx1
            clear hF2
            have HP2 : Hid (Parts key F2 d ee b) := HM.out.2.1.of_same (by omega) (by omega) HS2.out (by omega)
            have HL2 : Hid (∀ k, k < N → F2 k < N) := HS2.out.lt HLT.out (by omega)
            obtain ⟨F3, hF3⟩ : ∃ F3, F3 = F2 := ⟨_, rfl⟩
            have HS3 : Hid (SameOn F2 F3 d b) := by show SameOn _ _ _ _; rw [hF3]; exact SameOn.refl _ _ _
            have HR3 : Hid (SortR key F3 d b) := by show SortR _ _ _ _; rw [hF3]; exact HP2.out.done (by omega)
            have hO3 := hO2
            rw [← hF3] at hO3
            have hx3 := hx2
            clear hF3
            have HJ := Lib.hid (merge_join (by omega) (by omega) HM.out.2.2 HS2.out HR2.out HS3.out HR3.out)
            go_end0
            exact ⟨rfl, F3, HSA.out.trans HJ.out.1, HJ.out.2, hO3, hx3⟩
          ·
           have q1 : decide ((i : Int) < m) = false := decide_eq_false (by omega)
           have q2 : decide ((m : Int) < (d : Int) + m - i) = false := decide_eq_false (by omega)
           have q3 : decide ((a : Int) < i) = true := decide_eq_true (by omega)
           have q4 : decide ((i : Int) < d) = false := decide_eq_false (by omega)
           have q5 : decide ((d : Int) < (d : Int) + m - i) = false := decide_eq_false (by omega)
           have q6 : decide ((d : Int) + m - i < b) = false := decide_eq_false (by omega)
           have hed := HED.out
           rw [hee] at q2 q5 q6
           have HB1 := Lib.hid (HB0.out.trans hbel)
           have HSA : Hid (SameOn f (rotF f i m ee) a b) := (rot_same f (by omega) (by omega)).wide (by omega) (by omega) (by omega)
           have HLT : Hid (∀ k, k < N → rotF f i m ee k < N) := HSA.out.lt HFN.out hbN
           have hdl : d + m = i + ee := by omega
           have HDL := Lib.hid hdl
           clear hed hdl
           go_wp2_with fail
           all_goals
            have hO1 : Own wr g .i64 3 (ordL (rotF f i m ee) N) := by
             have z : rotF f i m ee = f := by
              rw [show m = i by omega]; exact rot_none' f i ee
             rw [z]; exact hO
            have HB2 := HB1
            have hx1 := hbel
            obtain ⟨F2, hF2⟩ : ∃ F2, F2 = rotF f i m ee := ⟨_, rfl⟩
            have HS2 : Hid (SameOn (rotF f i m ee) F2 a d) := by show SameOn _ _ _ _; rw [hF2]; exact SameOn.refl _ _ _
            have HR2 : Hid (SortR key F2 a d) := by show SortR _ _ _ _; rw [hF2]; exact HM.out.1.done (by omega)
            have hO2 := hO1
            rw [← hF2] at hO2
            have HB3 := HB2
            have hx2 := hx1
            clear hF2
            have HP2 : Hid (Parts key F2 d ee b) := HM.out.2.1.of_same (by omega) (by omega) HS2.out (by omega)
            have HL2 : Hid (∀ k, k < N → F2 k < N) := HS2.out.lt HLT.out (by omega)
            obtain ⟨F3, hF3⟩ : ∃ F3, F3 = F2 := ⟨_, rfl⟩
            have HS3 : Hid (SameOn F2 F3 d b) := by show SameOn _ _ _ _; rw [hF3]; exact SameOn.refl _ _ _
            have HR3 : Hid (SortR key F3 d b) := by show SortR _ _ _ _; rw [hF3]; exact HP2.out.done (by omega)
            have hO3 := hO2
            rw [← hF3] at hO3
            have hx3 := hx2
            clear hF3
            have HJ := Lib.hid (merge_join (by omega) (by omega) HM.out.2.2 HS2.out HR2.out HS3.out HR3.out)
            go_end0
            exact ⟨rfl, F3, HSA.out.trans HJ.out.1, HJ.out.2, hO3, hx3⟩
         ·
          by_cases zV : ee < b
          ·
           have q1 : decide ((i : Int) < m) = false := decide_eq_false (by omega)
           have q2 : decide ((m : Int) < (d : Int) + m - i) = false := decide_eq_false (by omega)
           have q3 : decide ((a : Int) < i) = false := decide_eq_false (by omega)
           have q4 : decide ((i : Int) < d) = false := decide_eq_false (by omega)
           have q5 : decide ((d : Int) < (d : Int) + m - i) = false := decide_eq_false (by omega)
           have q6 : decide ((d : Int) + m - i < b) = true := decide_eq_true (by omega)
           have hed := HED.out
           rw [hee] at q2 q5 q6
           have HB1 := Lib.hid (HB0.out.trans hbel)
           have HSA : Hid (SameOn f (rotF f i m ee) a b) := (rot_same f (by omega) (by omega)).wide (by omega) (by omega) (by omega)
           have HLT : Hid (∀ k, k < N → rotF f i m ee k < N) := HSA.out.lt HFN.out hbN
           have hdl : d + m = i + ee := by omega
           have HDL := Lib.hid hdl
           clear hed hdl
           go_wp2_with fail
           all_goals
            have hO1 : Own wr g .i64 3 (ordL (rotF f i m ee) N) := by
             have z : rotF f i m ee = f := by
              rw [show m = i by omega]; exact rot_none' f i ee
             rw [z]; exact hO
            have HB2 := HB1
            have hx1 := hbel
            obtain ⟨F2, hF2⟩ : ∃ F2, F2 = rotF f i m ee := ⟨_, rfl⟩
            have HS2 : Hid (SameOn (rotF f i m ee) F2 a d) := by show SameOn _ _ _ _; rw [hF2]; exact SameOn.refl _ _ _
            have HR2 : Hid (SortR key F2 a d) := by show SortR _ _ _ _; rw [hF2]; exact HM.out.1.done (by omega)
            have hO2 := hO1
            rw [← hF2] at hO2
            have HB3 := HB2
            have hx2 := hx1
            clear hF2
            have HP2 : Hid (Parts key F2 d ee b) := HM.out.2.1.of_same (by omega) (by omega) HS2.out (by omega)
            have HL2 : Hid (∀ k, k < N → F2 k < N) := HS2.out.lt HLT.out (by omega)
            obtain ⟨F3, hF3⟩ : ∃ F3, F3 = F2 := ⟨_, rfl⟩
            have HS3 : Hid (SameOn F2 F3 d b) := by show SameOn _ _ _ _; rw [hF3]; exact SameOn.refl _ _ _
            have HR3 : Hid (SortR key F3 d b) := by show SortR _ _ _ _; rw [hF3]; exact HP2.out.done (by omega)
            have hO3 := hO2
            rw [← hF3] at hO3
            have hx3 := hx2
            clear hF3
            have HJ := Lib.hid (merge_join (by omega) (by omega) HM.out.2.2 HS2.out HR2.out HS3.out HR3.out)
            go_end0
            exact ⟨rfl, F3, HSA.out.trans HJ.out.1, HJ.out.2, hO3, hx3⟩
          ·
           have q1 : decide ((i : Int) < m) = false := decide_eq_false (by omega)
           have q2 : decide ((m : Int) < (d : Int) + m - i) = false := decide_eq_false (by omega)
           have q3 : decide ((a : Int) < i) = false := decide_eq_false (by omega)
           have q4 : decide ((i : Int) < d) = false := decide_eq_false (by omega)
           have q5 : decide ((d : Int) < (d : Int) + m - i) = false := decide_eq_false (by omega)
           have q6 : decide ((d : Int) + m - i < b) = false := decide_eq_false (by omega)
           have hed := HED.out
           rw [hee] at q2 q5 q6
           have HB1 := Lib.hid (HB0.out.trans hbel)
           have HSA : Hid (SameOn f (rotF f i m ee) a b) := (rot_same f (by omega) (by omega)).wide (by omega) (by omega) (by omega)
           have HLT : Hid (∀ k, k < N → rotF f i m ee k < N) := HSA.out.lt HFN.out hbN
           have hdl : d + m = i + ee := by omega
           have HDL := Lib.hid hdl
           clear hed hdl
           go_wp2_with fail
           all_goals
            have hO1 : Own wr g .i64 3 (ordL (rotF f i m ee) N) := by
             have z : rotF f i m ee = f := by
              rw [show m = i by omega]; exact rot_none' f i ee
             rw [z]; exact hO
            have HB2 := HB1
            have hx1 := hbel
            obtain ⟨F2, hF2⟩ : ∃ F2, F2 = rotF f i m ee := ⟨_, rfl⟩
            have HS2 : Hid (SameOn (rotF f i m ee) F2 a d) := by show SameOn _ _ _ _; rw [hF2]; exact SameOn.refl _ _ _
            have HR2 : Hid (SortR key F2 a d) := by show SortR _ _ _ _; rw [hF2]; exact HM.out.1.done (by omega)
            have hO2 := hO1
            rw [← hF2] at hO2
            have HB3 := HB2
            have hx2 := hx1
            clear hF2
            have HP2 : Hid (Parts key F2 d ee b) := HM.out.2.1.of_same (by omega) (by omega) HS2.out (by omega)
            have HL2 : Hid (∀ k, k < N → F2 k < N) := HS2.out.lt HLT.out (by omega)
            obtain ⟨F3, hF3⟩ : ∃ F3, F3 = F2 := ⟨_, rfl⟩
            have HS3 : Hid (SameOn F2 F3 d b) := by show SameOn _ _ _ _; rw [hF3]; exact SameOn.refl _ _ _
            have HR3 : Hid (SortR key F3 d b) := by show SortR _ _ _ _; rw [hF3]; exact HP2.out.done (by omega)
            have hO3 := hO2
            rw [← hF3] at hO3
            have hx3 := hx2
            clear hF3
            have HJ := Lib.hid (merge_join (by omega) (by omega) HM.out.2.2 HS2.out HR2.out HS3.out HR3.out)
            go_end0
            exact ⟨rfl, F3, HSA.out.trans HJ.out.1, HJ.out.2, hO3, hx3⟩

end Go.Proofs.YtofijjomfhmbjaaGreat
