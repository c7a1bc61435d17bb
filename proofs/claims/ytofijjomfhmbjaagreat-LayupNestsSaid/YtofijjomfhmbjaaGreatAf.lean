/- Part f of the lemmas and walks. -/
import Derived.Test.YtofijjomfhmbjaaGreatAe

namespace Go.Proofs.YtofijjomfhmbjaaGreat
open Go.RowKit

def SortXL (key : Nat → Int) (f : Nat → Nat) (a i j : Nat) : Prop := ∀ p q, a ≤ p → p < q → q ≤ i → q ≠ j → LtK key (f p) (f q)
def BigL (f : Nat → Nat) (a i j : Nat) : Prop := ∀ k, a ≤ k → k ≤ i → k ≠ j → f k < f j
theorem SortXL.start {key : Nat → Int} {f : Nat → Nat} {a i : Nat} (h : SortR key f a i) : SortXL key f a i i := fun p q h1 h2 h3 h4 => h p q h1 h2 (by omega)
theorem SortXL.sw {key : Nat → Int} {f : Nat → Nat} {a i j : Nat} (h : SortXL key f a i j) (hj0 : a < j) (hj : j ≤ i) (hlt : key (f (j - 1)) < key (f j)) : SortXL key (swO f j) a i (j - 1) := by
 intro p q hp hpq hq hne
 have q1 := LtK.of_gt (key := key) hlt
 rcases swO_ways f (show 0 < j by omega) q with ⟨cb, eb⟩ | ⟨cb, eb⟩ | ⟨cb, db, eb⟩
 ·
  rcases swO_ways f (show 0 < j by omega) p with ⟨ca, ea⟩ | ⟨ca, ea⟩ | ⟨ca, da, ea⟩
  ·
   omega
  ·
   rw [ea, eb]; exact q1
  ·
   rw [ea, eb]; exact h p (j - 1) hp (by omega) (by omega) (by omega)
 ·
  exact absurd cb hne
 ·
  rcases swO_ways f (show 0 < j by omega) p with ⟨ca, ea⟩ | ⟨ca, ea⟩ | ⟨ca, da, ea⟩
  ·
   rw [ea, eb]; exact h (j - 1) q (by omega) (by omega) hq cb
  ·
   rw [ea, eb]; exact h j q (by omega) (by omega) hq cb
  ·
   rw [ea, eb]; exact h p q hp hpq hq cb
theorem BigL.sw {f : Nat → Nat} {a i j : Nat} (h : BigL f a i j) (hj0 : a < j) (hj : j ≤ i) : BigL (swO f j) a i (j - 1) := by
 intro k h1 h2 h3
 rw [swO_pre f (show 0 < j by omega)]
 rcases swO_ways f (show 0 < j by omega) k with ⟨c, e⟩ | ⟨c, e⟩ | ⟨c, d, e⟩
 ·
  rw [e]; exact h (j - 1) (by omega) (by omega) (by omega)
 ·
  exact absurd c h3
 ·
  rw [e]; exact h k h1 h2 c
theorem SortXL.stop {key : Nat → Int} {f : Nat → Nat} {a i j : Nat} (h : SortXL key f a i j) (hb : BigL f a i j) (haj : a ≤ j) (hj : j ≤ i) (hs : j = a ∨ ¬ key (f (j - 1)) < key (f j)) : SortR key f a (i + 1) := by
 intro p q hp hpq hq
 by_cases c : q = j
 ·
  subst c
  have hs := hs.resolve_left (by omega)
  have q1 := LtK.of_le (key := key) (hb (q - 1) (by omega) (by omega) (by omega)) hs
  by_cases d : p = q - 1
  ·
   subst d; exact q1
  ·
   exact (h p (q - 1) hp (by omega) (by omega) (by omega)).trans q1
 ·
  exact h p q hp hpq (by omega) c
theorem sw_same {f : Nat → Nat} {a i j : Nat} (hj0 : a < j) (hj : j ≤ i) : SameOn f (swO f j) a (i + 1) := by
 refine ⟨fun k hk => swO_oth f (by omega) (by omega), fun k h1 h2 => ?_, fun k h1 h2 => ?_, fun hi p q p1 p2 q1 q2 e => ?_⟩
 ·
  rcases swO_ways f (show 0 < j by omega) k with ⟨c, e⟩ | ⟨c, e⟩ | ⟨c, d, e⟩
  ·
   exact ⟨j - 1, by omega, by omega, e⟩
  ·
   exact ⟨j, by omega, by omega, e⟩
  ·
   exact ⟨k, h1, h2, e⟩
 ·
  by_cases c : k = j
  ·
   exact ⟨j - 1, by omega, by omega, by rw [swO_pre f (by omega), c]⟩
  ·
   by_cases d : k = j - 1
   ·
    exact ⟨j, by omega, by omega, by rw [swO_at, d]⟩
   ·
    exact ⟨k, h1, h2, swO_oth f c d⟩
 ·
  rcases swO_ways f (show 0 < j by omega) p with ⟨c1, e1⟩ | ⟨c1, e1⟩ | ⟨c1, d1, e1⟩ <;> rcases swO_ways f (show 0 < j by omega) q with ⟨c2, e2⟩ | ⟨c2, e2⟩ | ⟨c2, d2, e2⟩ <;> rw [e1, e2] at e <;> have := hi _ _ (by omega) (by omega) (by omega) (by omega) e <;> omega
theorem big_start {f h : Nat → Nat} {a i b : Nat} (hs : SameOn f h a i) (hf : ∀ p q, a ≤ p → p < q → q < b → f p < f q) (ha : a ≤ i) (hi : i < b) : BigL h a i i := fun k h1 h2 h3 => by
 obtain ⟨j, ja, jb, e⟩ := hs.hits k h1 (by omega)
 rw [e, hs.out i (.inr (Nat.le_refl _))]
 exact hf j i ja jb hi

set_option maxHeartbeats 4000000 in
theorem insRange_none (a b : Nat) (v F : Value) (w : World) (ha : a ≤ 1000) (h : b ≤ a + 1) (hb : b ≤ 1000) : Calls Tryz.prog 63 #[v, .int .i64 a, .int .i64 b, F] w (fun e w' => e = .returned (.tuple #[]) ∧ w' = w) := by
 have t1 : decide ((a : Int) + 1 < b) = false := decide_eq_false (by omega)
 have hw : IntKind.i64.wrap ((a : Int) + 1) = (a : Int) + 1 := IntWalk.i64_in _ (by omega)
 go_enter Tryz.func63, Tryz.ntmps63
 go_wp2_with fail
 go_loop [8] (fun iv => iv = .int .i64 ((a : Int) + 1)) (fun _ => 0)
 case atStart => rfl
 case round =>
  subst hrel
  go_wp2_with fail
  go_end0
  exact ⟨rfl, rfl⟩

set_option maxRecDepth 100000 in
set_option maxHeartbeats 8000000 in
theorem insRange_any (N : Nat) (key : Nat → Int) (g bx cap : Nat) (hN : N ≤ 24) (hkey : ∀ i, i < N → 0 ≤ key i ∧ key i ≤ 1000000) (w0 : World)
  (hf : ∀ i k, i < N → k < N → ∀ W, Below g w0 W → Calls Tryz.prog 27 #[.int .i64 i, .int .i64 k, .pointer (some ⟨bx, 0, none⟩)] W (RetIntQ (key k - key i) W)) (a b : Nat) (f : Nat → Nat) (w : World) (hab : a + 1 < b) (hbN : b ≤ N)
  (hasc : ∀ p q, a ≤ p → p < q → q < b → f p < f q) (hfN : ∀ k, k < N → f k < N) (hB0 : Below g w0 w) (hO : Own w g .i64 3 (ordL f N)) :
  Calls Tryz.prog 63 #[.slice (some ⟨g, 0, none⟩) N cap, .int .i64 a, .int .i64 b, .func (.func 27) #[] #[.pointer (some ⟨bx, 0, none⟩)]] w (RetMerge key f a b N g w) := by
 have HF := Lib.hid hf
 have HK := Lib.hid hkey
 have HA := Lib.hid hasc
 have HFN := Lib.hid hfN
 have HB0 := Lib.hid hB0
 clear hf hkey hasc hfN hB0
 have hw : IntKind.i64.wrap ((a : Int) + 1) = ((a + 1 : Nat) : Int) := by rw [IntWalk.i64_in _ (by omega)]; omega
 go_enter Tryz.func63, Tryz.ntmps63
 go_wp2_with fail
 go_loopw [8] (fun iv wr => ∃ (i : Nat) (h : Nat → Nat), a + 1 ≤ i ∧ i ≤ b ∧ iv = .int .i64 i ∧ Hid (SameOn f h a i) ∧ Hid (SortR key h a i) ∧ Own wr g .i64 3 (ordL h N) ∧ Below g w wr)
  (fun iv _ => b - (intOf iv).toNat)
 case atStart => exact ⟨a + 1, f, Nat.le_refl _, by omega, rfl, SameOn.refl _ _ _, SortR.small (Nat.le_refl _), hO, Below.refl _ _⟩
 case round =>
  clear hO hw
  obtain ⟨i, h, hi1, hin, rfl, HSA, HS, hO, hbel⟩ := hrel
  by_cases hlt : i < b
  ·
   have hlt' : (i : Int) < b := by omega
   have HBG := Lib.hid (big_start HSA.out HA.out (by omega) hlt)
   have HSW := Lib.hid (HSA.out.wide (a := a) (b := i + 1) (Nat.le_refl _) (by omega) (by omega))
   go_wp2_with fail
   go_loopw [9] (fun jv wq => ∃ (j : Nat) (h : Nat → Nat), a ≤ j ∧ j ≤ i ∧ jv = .int .i64 j ∧ Hid (SameOn f h a (i + 1)) ∧ Hid (SortXL key h a i j) ∧ Hid (BigL h a i j) ∧ Own wq g .i64 3 (ordL h N) ∧ Below g w wq)
    (fun jv _ => (intOf jv).toNat)
   case atStart => exact ⟨i, h, by omega, Nat.le_refl _, rfl, HSW, SortXL.start HS.out, HBG, hO, hbel⟩
   case round =>
    clear HSA HS HBG HSW hO hbel
    obtain ⟨j, h, haj, hji, rfl, HSA, HX, HBG, hO, hbel⟩ := hrel
    have HHN := Lib.hid (HSA.out.lt HFN.out (by omega))
    by_cases hj0 : a < j
    ·
     have hj0' : decide ((j : Int) > a) = true := decide_eq_true (by omega)
     have hjn : j < N := by omega
     have hjn' : (j : Int) < N := by omega
     obtain ⟨p, hp⟩ : ∃ p, j - 1 = p := ⟨_, rfl⟩
     have hpn : p < N := by omega
     have hpn' : (p : Int) < N := by omega
     have hp0 : (0 : Int) ≤ p := by omega
     have hjp : (0 : Int) ≤ j := by omega
     have hpj : p < j := by omega
     have hap : a ≤ p := by omega
     have hwp : IntKind.i64.wrap ((j : Int) - 1) = (p : Int) := by rw [IntWalk.i64_in _ (by omega)]; omega
     have HP := Lib.hid hp
     have c1 := hO.cell j (by rw [ordL_length]; exact hjn)
     have c2 := hO.cell p (by rw [ordL_length]; exact hpn)
     rw [ordL_get h hjn] at c1
     rw [ordL_get h hpn] at c2
     have f1 := hO.frozen j
     have f2 := hO.frozen p
     have hgl := hO.lt
     have ka := HK.out (h j) (HHN.out j hjn)
     have kb := HK.out (h p) (HHN.out p hpn)
     have HC : Hid (∀ W, Below g w0 W → Calls Tryz.prog 27 #[.int .i64 (h j : Nat), .int .i64 (h p : Nat), .pointer (some ⟨bx, 0, none⟩)] W (fun e w' => e = .returned (.int .i64 (key (h p) - key (h j))) ∧ Quiet W w')) := HF.out (h j) (h p) (HHN.out j hjn) (HHN.out p hpn)
     have HBL := Lib.hid (HB0.out.trans hbel)
     have HBE := Lib.hid hbel
     have HO := Lib.hid hO
     by_cases c : key (h p) < key (h j)
     ·
      have tc : decide (key (h p) - key (h j) < 0) = true := decide_eq_true (by omega)
      have HX2 : Hid (SortXL key (swO h j) a i p) := by show SortXL _ _ _ _ _; rw [← hp]; exact HX.out.sw hj0 hji (by rw [hp]; exact c)
      have HB2 : Hid (BigL (swO h j) a i p) := by show BigL _ _ _ _; rw [← hp]; exact HBG.out.sw hj0 hji
      have HS2 := Lib.hid (HSA.out.trans (sw_same hj0 hji))
      have HSW : Hid (((ordL h N).set j (h p)).set p (h j) = ordL (swO h j) N) := by show _ = _; rw [← hp]; exact ordL_sw h (by omega) hjn
      clear hp ka kb c hO hbel
      generalize key (h p) - key (h j) = dk at *
      go_wp2_with fail
      go_quiet ((go_at_call 27; first | exact quiet_at0 (HC.out _ (below_dn HBL.out _)) | exact quiet_at (HC.out _ (below_dn HBL.out _))))
      go_wp2_with fail
      go_region
      go_wp2_with fail
      exact ⟨⟨p, swO h j, hap, by omega, rfl, HS2, HX2, HB2, by rw [← HSW.out]; exact ((HO.out.drewN _).store j (h p)).store p (h j), ((below_dn HBE.out _).setCell (p := ⟨g, j, none⟩) (Nat.le_refl _) _).setCell (p := ⟨g, p, none⟩) (Nat.le_refl _) _⟩, by simp [intOf]; omega⟩
     ·
      have tc : decide (key (h p) - key (h j) < 0) = false := decide_eq_false (by omega)
      have HS2 : Hid (SortR key h a (i + 1)) := HX.out.stop HBG.out haj hji (.inr (by rw [hp]; exact c))
      clear hp ka kb c hO hbel
      generalize key (h p) - key (h j) = dk at *
      go_wp2_with fail
      go_quiet ((go_at_call 27; first | exact quiet_at0 (HC.out _ (below_dn HBL.out _)) | exact quiet_at (HC.out _ (below_dn HBL.out _))))
      go_wp2_with fail
      exact ⟨⟨i + 1, h, by omega, by omega, by go_num, HSA, HS2, HO.out.drewN _, below_dn HBE.out _⟩, meas_up hlt⟩
    ·
     have hja : j = a := by omega
     have hj0' : decide ((j : Int) > a) = false := decide_eq_false (by omega)
     have HS2 : Hid (SortR key h a (i + 1)) := HX.out.stop HBG.out haj hji (.inl hja)
     have HO := Lib.hid hO
     have HBE := Lib.hid hbel
     clear hja
     go_wp2_with fail
     go_quiet (fail)
     go_wp2_with fail
     exact ⟨⟨i + 1, h, by omega, by omega, by go_num, HSA, HS2, HO.out.drewN _, below_dn HBE.out _⟩, meas_up hlt⟩
  ·
   obtain rfl : i = b := by omega
   go_wp2_with fail
   go_end0
   exact ⟨rfl, h, HSA.out, HS.out, hO, hbel⟩

end Go.Proofs.YtofijjomfhmbjaaGreat

namespace Go.Proofs.YtofijjomfhmbjaaGreat
open Go.RowKit

theorem perm_of {f : Nat → Nat} {n : Nat} (h : SameOn (fun j => j) f 0 n) : PermI f n :=
 ⟨fun k hk => by obtain ⟨j, _, jb, e⟩ := h.hits k (Nat.zero_le _) hk; rw [e]; exact jb, fun i j hi hj e => h.inj (fun _ _ _ _ _ _ e => e) i j (Nat.zero_le _) hi (Nat.zero_le _) hj e, fun i hi => by obtain ⟨k, _, kb, e⟩ := h.from_ i (Nat.zero_le _) hi; exact ⟨k, kb, e⟩⟩
theorem parts_of {key : Nat → Int} {h1 h2 : Nat → Nat} {m n : Nat} (hm : m ≤ n) (a1 : SameOn (fun j => j) h1 0 m) (s1 : SortR key h1 0 m) (a2 : SameOn h1 h2 m n) (s2 : SortR key h2 m n) : Parts key h2 0 m n ∧ SameOn (fun j => j) h2 0 n := by
 refine ⟨⟨fun i j p1 p2 p3 => ?_, s2, fun i j p1 p2 p3 p4 => ?_⟩, (a1.wide (Nat.le_refl _) (Nat.zero_le _) hm).trans (a2.wide (Nat.zero_le _) hm (Nat.le_refl _))⟩
 ·
  rw [a2.out i (by omega), a2.out j (by omega)]
  exact s1 i j p1 p2 p3
 ·
  rw [a2.out i (by omega)]
  obtain ⟨x, xa, xb, ex⟩ := a1.hits i p1 p2
  obtain ⟨y, ya, yb, ey⟩ := a2.hits j p3 p4
  rw [ex, ey, a1.out y (by omega)]
  show x < y
  omega
def RetStab (n : Nat) (key : Nat → Int) (ao : Option Addr) (g : Nat) (w : World) (e : Ending) (w' : World) : Prop :=
 e = .returned (.tuple #[]) ∧ ∃ f, PermI f n ∧ SortR key f 0 n ∧ (0 < n → ao = some ⟨g, 0, none⟩ ∧ Own w' g .i64 3 (ordL f n)) ∧ Below g w w'
set_option maxRecDepth 100000 in
set_option maxHeartbeats 8000000 in
theorem stab_any (n : Nat) (key : Nat → Int) (g bx cap : Nat) (ao : Option Addr) (w : World) (hn : n ≤ 24)
  (hO : 0 < n → ao = some ⟨g, 0, none⟩ ∧ Own w g .i64 3 (ordL (fun j => j) n)) (hkey : ∀ i, i < n → 0 ≤ key i ∧ key i ≤ 1000000)
  (hf : ∀ i k, i < n → k < n → ∀ W, Below g w W → Calls Tryz.prog 27 #[.int .i64 i, .int .i64 k, .pointer (some ⟨bx, 0, none⟩)] W (RetIntQ (key k - key i) W)) :
  Calls Tryz.prog 44 #[.slice ao n cap, .int .i64 n, .func (.func 27) #[] #[.pointer (some ⟨bx, 0, none⟩)]] w (RetStab n key ao g w) := by
 have HF := Lib.hid hf
 have HK := Lib.hid hkey
 clear hf hkey
 by_cases c1 : n ≤ 1
 ·
  have hn1 : n ≤ 0 + 1 := by omega
  have t1 : decide ((20 : Int) ≤ n) = false := decide_eq_false (by omega)
  have t2 : decide ((20 : Int) < n) = false := decide_eq_false (by omega)
  have HO := Lib.hid hO
  have HS : Hid (SortR key (fun j => j) 0 n) := SortR.small (by omega)
  clear hO c1
  have HN : Hid (∀ (v F : Value) (W : World), Calls Tryz.prog 63 #[v, .int .i64 0, .int .i64 n, F] W (fun e w' => e = .returned (.tuple #[]) ∧ w' = W)) := fun v F W => insRange_none 0 n v F W (by omega) hn1 (by omega)
  go_enter Tryz.func44, Tryz.ntmps44
  go_wp2_with fail
  refine wp_loop_rounds 3 ?_
  rw [rounds_succ]
  go_wp2_with fail
  refine (HN.out _ _ _).mono ?_
  rintro e w1 ⟨rfl, rfl⟩
  go_wp2_with fail
  refine wp_loop_rounds 3 ?_
  rw [rounds_succ]
  go_wp2_with fail
  go_end0
  exact ⟨rfl, fun j => j, PermI.id _, HS.out, HO.out, Below.refl _ _⟩
 ·
  replace hO := hO (by omega)
  obtain ⟨rfl, hO⟩ := hO
  by_cases c2 : n < 20
  ·
   have t1 : decide ((20 : Int) ≤ n) = false := decide_eq_false (by omega)
   have t2 : decide ((20 : Int) < n) = false := decide_eq_false (by omega)
   have H1 := Lib.hid (insRange_any n key g bx cap hn HK.out w HF.out 0 n (fun j => j) w (by omega) (Nat.le_refl _) (fun p q _ h _ => h) (fun k hk => hk) (Below.refl _ _) hO)
   clear hO c1 c2
   go_enter Tryz.func44, Tryz.ntmps44
   go_wp2_with fail
   refine wp_loop_rounds 3 ?_
   rw [rounds_succ]
   go_wp2_with fail
   refine H1.out.mono ?_
   rintro e w1 ⟨rfl, h1, a1, s1, hO1, hb1⟩
   have HA1 := Lib.hid a1
   have HS1 := Lib.hid s1
   clear a1 s1
   go_wp2_with fail
   refine wp_loop_rounds 3 ?_
   rw [rounds_succ]
   go_wp2_with fail
   go_end0
   exact ⟨rfl, h1, perm_of HA1.out, HS1.out, fun _ => ⟨rfl, hO1⟩, hb1⟩
  ·
   have t1 : decide ((20 : Int) ≤ n) = true := decide_eq_true (by omega)
   have t3 : decide ((40 : Int) ≤ n) = false := decide_eq_false (by omega)
   have t4 : decide ((40 : Int) < n) = false := decide_eq_false (by omega)
   have H1 := Lib.hid (insRange_any n key g bx cap hn HK.out w HF.out 0 20 (fun j => j) w (by omega) (by omega) (fun p q _ h _ => h) (fun k hk => hk) (Below.refl _ _) hO)
   clear hO c1
   by_cases c3 : n = 20
   ·
    subst c3
    have HN : Hid (∀ (v F : Value) (W : World), Calls Tryz.prog 63 #[v, .int .i64 20, .int .i64 20, F] W (fun e w' => e = .returned (.tuple #[]) ∧ w' = W)) := fun v F W => insRange_none 20 20 v F W (by omega) (by omega) (by omega)
    go_enter Tryz.func44, Tryz.ntmps44
    go_wp2_with fail
    refine wp_loop_rounds 3 ?_
    rw [rounds_succ]
    go_wp2_with fail
    refine H1.out.mono ?_
    rintro e w1 ⟨rfl, h1, a1, s1, hO1, hb1⟩
    have HA1 := Lib.hid a1
    have HS1 := Lib.hid s1
    clear a1 s1
    go_wp2_with fail
    rw [rounds_succ]
    go_wp2_with fail
    refine (HN.out _ _ _).mono ?_
    rintro e w2 ⟨rfl, rfl⟩
    go_wp2_with fail
    refine wp_loop_rounds 3 ?_
    rw [rounds_succ]
    go_wp2_with fail
    go_end0
    exact ⟨rfl, h1, perm_of HA1.out, HS1.out, fun _ => ⟨rfl, hO1⟩, hb1⟩
   ·
    have t2 : decide ((20 : Int) < n) = true := decide_eq_true (by omega)
    have h20 : 20 < n := by omega
    clear c2 c3
    by_cases c4 : n = 21
    ·
     have HN : Hid (∀ (v F : Value) (W : World), Calls Tryz.prog 63 #[v, .int .i64 20, .int .i64 n, F] W (fun e w' => e = .returned (.tuple #[]) ∧ w' = W)) := fun v F W => insRange_none 20 n v F W (by omega) (by omega) (by omega)
     have C4 := Lib.hid c4
     clear c4
     go_enter Tryz.func44, Tryz.ntmps44
     go_wp2_with fail
     refine wp_loop_rounds 3 ?_
     rw [rounds_succ]
     go_wp2_with fail
     refine H1.out.mono ?_
     rintro e w1 ⟨rfl, h1, a1, s1, hO1, hb1⟩
     have HA1 := Lib.hid a1
     have HS1 := Lib.hid s1
     clear a1 s1
     go_wp2_with fail
     rw [rounds_succ]
     go_wp2_with fail
     refine (HN.out _ _ _).mono ?_
     rintro e w2 ⟨rfl, rfl⟩
     obtain ⟨h2, hh2⟩ : ∃ h2, h2 = h1 := ⟨_, rfl⟩
     have HA2 : Hid (SameOn h1 h2 20 n) := by show SameOn _ _ _ _; rw [hh2]; exact SameOn.refl _ _ _
     have HS2 : Hid (SortR key h2 20 n) := SortR.small (by have := C4.out; omega)
     rw [← hh2] at hO1
     clear hh2
     have HPT := Lib.hid (parts_of (show 20 ≤ n by omega) HA1.out HS1.out HA2.out HS2.out)
     have HL2 : Hid (∀ k, k < n → h2 k < n) := HPT.out.2.lt (fun k hk => hk) (Nat.le_refl _)
     go_wp2_with fail
     refine wp_loop_rounds 3 ?_
     rw [rounds_succ]
     go_wp2_with fail
     refine wp_loop_rounds 3 ?_
     rw [rounds_succ]
     go_wp2_with fail
     refine (symMerge_any n key g bx cap hn HK.out w HF.out (n - 0) 0 20 n h2 _ (Nat.le_refl _) (by omega) h20 (Nat.le_refl _) HPT.out.1 HL2.out hb1 hO1).mono ?_
     rintro e w3 ⟨rfl, h3, a3, s3, hO3, hb3⟩
     have HA3 := Lib.hid a3
     have HS3 := Lib.hid s3
     clear a3 s3
     go_wp2_with fail
     rw [rounds_succ]
     go_wp2_with fail
     go_end0
     exact ⟨rfl, h3, perm_of (HPT.out.2.trans HA3.out), HS3.out, fun _ => ⟨rfl, hO3⟩, hb1.trans hb3⟩
    ·
     have h22 : 21 < n := by omega
     clear c4
     go_enter Tryz.func44, Tryz.ntmps44
     go_wp2_with fail
     refine wp_loop_rounds 3 ?_
     rw [rounds_succ]
     go_wp2_with fail
     refine H1.out.mono ?_
     rintro e w1 ⟨rfl, h1, a1, s1, hO1, hb1⟩
     have HA1 := Lib.hid a1
     have HS1 := Lib.hid s1
     clear a1 s1
     go_wp2_with fail
     rw [rounds_succ]
     go_wp2_with fail
     refine (insRange_any n key g bx cap hn HK.out w HF.out 20 n h1 _ (by omega) (Nat.le_refl _) (fun p q hp hpq hq => by rw [HA1.out.out p (.inr hp), HA1.out.out q (.inr (by omega))]; exact hpq) (HA1.out.lt (fun k hk => hk) (by omega)) hb1 hO1).mono ?_
     rintro e w2 ⟨rfl, h2, a2, s2, hO2, hb2⟩
     have HA2 := Lib.hid a2
     have HS2 := Lib.hid s2
     have hb12 := hb1.trans hb2
     clear a2 s2
     have HPT := Lib.hid (parts_of (show 20 ≤ n by omega) HA1.out HS1.out HA2.out HS2.out)
     have HL2 : Hid (∀ k, k < n → h2 k < n) := HPT.out.2.lt (fun k hk => hk) (Nat.le_refl _)
     go_wp2_with fail
     refine wp_loop_rounds 3 ?_
     rw [rounds_succ]
     go_wp2_with fail
     refine wp_loop_rounds 3 ?_
     rw [rounds_succ]
     go_wp2_with fail
     refine (symMerge_any n key g bx cap hn HK.out w HF.out (n - 0) 0 20 n h2 _ (Nat.le_refl _) (by omega) h20 (Nat.le_refl _) HPT.out.1 HL2.out hb12 hO2).mono ?_
     rintro e w3 ⟨rfl, h3, a3, s3, hO3, hb3⟩
     have HA3 := Lib.hid a3
     have HS3 := Lib.hid s3
     clear a3 s3
     go_wp2_with fail
     rw [rounds_succ]
     go_wp2_with fail
     go_end0
     exact ⟨rfl, h3, perm_of (HPT.out.2.trans HA3.out), HS3.out, fun _ => ⟨rfl, hO3⟩, hb12.trans hb3⟩

set_option maxHeartbeats 4000000 in
theorem sortStab_any (n : Nat) (key : Nat → Int) (g bx cap : Nat) (ao : Option Addr) (w : World) (hn : n ≤ 24)
  (hO : 0 < n → ao = some ⟨g, 0, none⟩ ∧ Own w g .i64 3 (ordL (fun j => j) n)) (hkey : ∀ i, i < n → 0 ≤ key i ∧ key i ≤ 1000000)
  (hf : ∀ i k, i < n → k < n → ∀ W, Below g w W → Calls Tryz.prog 27 #[.int .i64 i, .int .i64 k, .pointer (some ⟨bx, 0, none⟩)] W (RetIntQ (key k - key i) W)) :
  Calls Tryz.prog 26 #[.slice ao n cap, .func (.func 27) #[] #[.pointer (some ⟨bx, 0, none⟩)]] w (RetStab n key ao g w) := by
 have H := Lib.hid (stab_any n key g bx cap ao w hn hO hkey hf)
 clear hO hkey hf
 go_enter Tryz.func26, Tryz.ntmps26
 go_wp2_with fail
 refine H.out.mono ?_
 rintro e w1 ⟨rfl, hr⟩
 have HR := Lib.hid hr
 clear hr
 go_wp2_with fail
 go_end0
 exact ⟨rfl, HR.out⟩
end Go.Proofs.YtofijjomfhmbjaaGreat

namespace Go.Proofs.YtofijjomfhmbjaaGreat

def firstFit (sh : List (Int × Int)) (m y : Int) : Nat → Option Nat
 | 0 => none
 | k + 1 => match firstFit sh m y k with
  | some i => some i
  | none => if (sh.getD k (0, 0)).2 + y ≤ m then some k else none
theorem firstFit_none {sh : List (Int × Int)} {m y : Int} {n : Nat} (h : ∀ q, q < n → m < (sh.getD q (0, 0)).2 + y) : firstFit sh m y n = none := by
 induction n with
 | zero => rfl
 | succ n ih =>
  unfold firstFit
  rw [ih (fun q hq => h q (by omega))]
  have := h n (by omega)
  simp only
  rw [if_neg (by omega)]
theorem firstFit_some {sh : List (Int × Int)} {m y : Int} {k n : Nat} (hk : k < n) (h : ∀ q, q < k → m < (sh.getD q (0, 0)).2 + y) (hf : (sh.getD k (0, 0)).2 + y ≤ m) : firstFit sh m y n = some k := by
 induction n with
 | zero => omega
 | succ n ih =>
  unfold firstFit
  by_cases c : k < n
  ·
   rw [ih c]
  ·
   obtain rfl : k = n := by omega
   rw [firstFit_none h]
   simp only
   rw [if_pos hf]
structure NestS where
 sh : List (Int × Int)
 out : List (Int × Int)
 e : Int
def nestStep (l : List (Int × Int)) (m : Int) (i : Nat) (s : NestS) : NestS :=
 match firstFit s.sh m (l.getD i (0, 0)).2 s.sh.length with
 | some k => ⟨s.sh.set k ((s.sh.getD k (0, 0)).1, (s.sh.getD k (0, 0)).2 + (l.getD i (0, 0)).2), s.out.set i (s.sh.getD k (0, 0)), s.e⟩
 | none => ⟨s.sh ++ [(s.e, (l.getD i (0, 0)).2)], s.out.set i (s.e, 0), s.e + (l.getD i (0, 0)).1⟩
def nestTo (l : List (Int × Int)) (m : Int) (f : Nat → Nat) : Nat → NestS
 | 0 => ⟨[], List.replicate l.length (0, 0), 0⟩
 | j + 1 => nestStep l m (f j) (nestTo l m f j)
theorem nestStep_fit {l : List (Int × Int)} {m : Int} {i k : Nat} {s : NestS} (hk : k < s.sh.length) (h : ∀ q, q < k → m < (s.sh.getD q (0, 0)).2 + (l.getD i (0, 0)).2) (hf : (s.sh.getD k (0, 0)).2 + (l.getD i (0, 0)).2 ≤ m) :
  nestStep l m i s = ⟨s.sh.set k ((s.sh.getD k (0, 0)).1, (s.sh.getD k (0, 0)).2 + (l.getD i (0, 0)).2), s.out.set i (s.sh.getD k (0, 0)), s.e⟩ := by
 unfold nestStep
 rw [firstFit_some hk h hf]
theorem nestStep_new {l : List (Int × Int)} {m : Int} {i : Nat} {s : NestS} (h : ∀ q, q < s.sh.length → m < (s.sh.getD q (0, 0)).2 + (l.getD i (0, 0)).2) :
  nestStep l m i s = ⟨s.sh ++ [(s.e, (l.getD i (0, 0)).2)], s.out.set i (s.e, 0), s.e + (l.getD i (0, 0)).1⟩ := by
 unfold nestStep
 rw [firstFit_none h]
theorem order_one {key : Nat → Int} {f g : Nat → Nat} {n : Nat} (hf : PermI f n) (hg : PermI g n) (sf : SortR key f 0 n) (sg : SortR key g 0 n) : ∀ j, j < n → f j = g j := by
 intro j
 induction j using Nat.strongRecOn with
 | _ j ih =>
  intro hj
  obtain ⟨a, ha, ea⟩ := hg.surj (f j) (hf.lt j hj)
  obtain ⟨b, hb, eb⟩ := hf.surj (g j) (hg.lt j hj)
  have h1 : j ≤ a := by
   rcases Nat.lt_or_ge a j with c | c
   ·
    have := ih a c ha
    rw [ea] at this
    have := hf.inj a j ha hj this
    omega
   ·
    exact c
  have h2 : j ≤ b := by
   rcases Nat.lt_or_ge b j with c | c
   ·
    have := ih b c hb
    rw [eb] at this
    have := hg.inj b j hb hj this.symm
    omega
   ·
    exact c
  rcases Nat.eq_or_lt_of_le h1 with c | c
  ·
   rw [← c] at ea; exact ea.symm
  ·
   rcases Nat.eq_or_lt_of_le h2 with d | d
   ·
    rw [← d] at eb; exact eb
   ·
    have q1 := sg j a (Nat.zero_le _) c ha
    have q2 := sf j b (Nat.zero_le _) d hb
    rw [ea] at q1
    rw [eb] at q2
    exact (q1.trans q2).irrefl.elim
structure NestOk (l : List (Int × Int)) (m : Int) (j : Nat) (s : NestS) : Prop where
 few : s.sh.length ≤ j
 outlen : s.out.length = l.length
 e0 : 0 ≤ s.e
 e1 : s.e ≤ 1000000 * j
 sh : ∀ k, k < s.sh.length → 0 ≤ (s.sh.getD k (0, 0)).1 ∧ (s.sh.getD k (0, 0)).1 ≤ s.e ∧ 1 ≤ (s.sh.getD k (0, 0)).2 ∧ (s.sh.getD k (0, 0)).2 ≤ m
theorem nestOk_zero (l : List (Int × Int)) (m : Int) (f : Nat → Nat) : NestOk l m 0 (nestTo l m f 0) :=
 ⟨Nat.le_refl _, by simp [nestTo], Int.le_refl _, by simp [nestTo], fun k hk => absurd hk (by simp [nestTo])⟩
theorem nestOk_step {l : List (Int × Int)} {m : Int} {i j : Nat} {s : NestS} (h : NestOk l m j s) (hx : 1 ≤ (l.getD i (0, 0)).1 ∧ (l.getD i (0, 0)).1 ≤ 1000000) (hy : 1 ≤ (l.getD i (0, 0)).2 ∧ (l.getD i (0, 0)).2 ≤ m) : NestOk l m (j + 1) (nestStep l m i s) := by
 have a := h.few
 have b := h.e0
 have c := h.e1
 by_cases q : ∃ k, k < s.sh.length ∧ (s.sh.getD k (0, 0)).2 + (l.getD i (0, 0)).2 ≤ m
 ·
  obtain ⟨k, hk, hkf⟩ : ∃ k, firstFit s.sh m (l.getD i (0, 0)).2 s.sh.length = some k ∧ k < s.sh.length ∧ (s.sh.getD k (0, 0)).2 + (l.getD i (0, 0)).2 ≤ m := by
   have key : ∀ n, (∃ k, k < n ∧ (s.sh.getD k (0, 0)).2 + (l.getD i (0, 0)).2 ≤ m) → ∃ k, firstFit s.sh m (l.getD i (0, 0)).2 n = some k ∧ k < n ∧ (s.sh.getD k (0, 0)).2 + (l.getD i (0, 0)).2 ≤ m := fun n => by
    induction n with
    | zero => rintro ⟨k, hk, _⟩; omega
    | succ n ih =>
     intro he
     by_cases c1 : ∃ k, k < n ∧ (s.sh.getD k (0, 0)).2 + (l.getD i (0, 0)).2 ≤ m
     ·
      obtain ⟨k, e1, e2, e3⟩ := ih c1
      exact ⟨k, by unfold firstFit; rw [e1], by omega, e3⟩
     ·
      obtain ⟨k, hk, hf⟩ := he
      have hn : firstFit s.sh m (l.getD i (0, 0)).2 n = none := firstFit_none fun q hq => by
       rcases Int.lt_or_le m ((s.sh.getD q (0, 0)).2 + (l.getD i (0, 0)).2) with z | z
       ·
        exact z
       ·
        exact absurd ⟨q, hq, z⟩ c1
      have hkn : k = n := by
       rcases Nat.lt_or_ge k n with z | z
       ·
        exact absurd ⟨k, z, hf⟩ c1
       ·
        omega
      subst hkn
      exact ⟨k, by unfold firstFit; rw [hn]; simp only; rw [if_pos hf], by omega, hf⟩
   exact key _ q
  unfold nestStep
  rw [hk]
  refine ⟨by simp; omega, by simp [h.outlen], b, by simp; omega, fun q hq => ?_⟩
  have hq' : q < s.sh.length := by simpa using hq
  have hs := h.sh q hq'
  simp only [List.getD, List.getElem?_set]
  by_cases cq : k = q
  ·
   subst cq
   rw [if_pos rfl, if_pos hq']
   simp only [Option.getD_some]
   have hs' := h.sh k hq'
   simp only [List.getD] at hs' hkf hy
   omega
  ·
   rw [if_neg cq]
   exact hs
 ·
  unfold nestStep
  rw [firstFit_none (fun k hk => by
   rcases Int.lt_or_le m ((s.sh.getD k (0, 0)).2 + (l.getD i (0, 0)).2) with z | z
   ·
    exact z
   ·
    exact absurd ⟨k, hk, z⟩ q)]
  refine ⟨by simp; omega, by simp [h.outlen], by simp only; omega, by simp only; omega, fun k hk => ?_⟩
  by_cases ck : k < s.sh.length
  ·
   have hs := h.sh k ck
   have e1 : (s.sh ++ [(s.e, (l.getD i (0, 0)).2)]).getD k (0, 0) = s.sh.getD k (0, 0) := by simp [List.getD, List.getElem?_append_left ck]
   simp only
   rw [e1]
   omega
  ·
   have hk' : k = s.sh.length := by simp at hk; omega
   subst hk'
   have e1 : (s.sh ++ [(s.e, (l.getD i (0, 0)).2)]).getD s.sh.length (0, 0) = (s.e, (l.getD i (0, 0)).2) := by simp [List.getD]
   simp only
   rw [e1]
   dsimp only
   omega

end Go.Proofs.YtofijjomfhmbjaaGreat

namespace Go.Proofs.YtofijjomfhmbjaaGreat
open Go.RowKit

def pcErr (l : List (Int × Int)) (m : Int) (i : Nat) : Int :=
 if (inL (l.getD i (0, 0)).1 1 1000000 && inL (l.getD i (0, 0)).2 1 1000000) = false then 1 else if m < (l.getD i (0, 0)).2 then 5 else 0
def pcsErr (l : List (Int × Int)) (m : Int) : Int := if inL m 1 1000000 = false then 1 else if 24 < l.length then 4 else firstErr (pcErr l m) l.length

set_option maxRecDepth 100000 in
set_option maxHeartbeats 8000000 in
theorem checkPieces_any {l : List (Int × Int)} {m : Int} (v : Value) (w : World) (hv : PairsOf w v l) : Calls Tryz.prog 25 #[v, .int .i64 m] w (RetInt (pcsErr l m) w) := by
 obtain ⟨ao, cap, rfl, hE⟩ := hv
 have HE := Lib.hid hE
 clear hE
 cases hm : inL m 1 1000000 with
 | false =>
  have Hr : Hid (pcsErr l m = 1) := by show _ = _; unfold pcsErr; rw [if_pos hm]
  go_enter Tryz.func25, Tryz.ntmps25
  go_wp2_with fail
  refine (within_any m _ _ _).mono ?_
  rw [hm]
  rintro e w1 ⟨rfl, hb1⟩
  go_wp2_with fail
  go_ret
  exact ⟨by rw [Hr.out]; rfl, hb1⟩
 | true =>
  have HM := Lib.hid hm
  by_cases c1 : 24 < l.length
  ·
   have t1 : decide ((l.length : Int) > 24) = true := decide_eq_true (by omega)
   have Hr : Hid (pcsErr l m = 4) := by show _ = _; unfold pcsErr; rw [if_neg (by rw [hm]; simp), if_pos c1]
   clear c1 hm
   go_enter Tryz.func25, Tryz.ntmps25
   go_wp2_with fail
   refine (within_any m _ _ _).mono ?_
   rw [HM.out]
   rintro e w1 ⟨rfl, hb1⟩
   go_wp2_with fail
   go_ret
   exact ⟨by rw [Hr.out]; rfl, hb1⟩
  ·
   have t1 : decide ((l.length : Int) > 24) = false := decide_eq_false (by omega)
   have Hr : Hid (pcsErr l m = firstErr (pcErr l m) l.length) := by show _ = _; unfold pcsErr; rw [if_neg (by rw [hm]; simp), if_neg c1]
   have hlen : l.length ≤ 24 := by omega
   clear c1 hm
   go_enter Tryz.func25, Tryz.ntmps25
   go_wp2_with fail
   refine (within_any m _ _ _).mono ?_
   rw [HM.out]
   rintro e w1 ⟨rfl, hb1⟩
   go_wp2_with fail
   go_loopw [15] (fun iv wr => ∃ (i : Nat), i ≤ l.length ∧ iv = .int .i64 i ∧ Hid (firstErr (pcErr l m) i = 0) ∧ Below w.heap.size w wr)
    (fun iv _ => l.length - (intOf iv).toNat)
   case atStart => exact ⟨0, Nat.zero_le _, rfl, rfl, hb1⟩
   case round =>
    clear hb1
    obtain ⟨i, hi, rfl, hF, hbel⟩ := hrel
    by_cases hlt : i < l.length
    ·
     obtain ⟨b, off, rfl, hbl, hEE⟩ := HE.out (by omega)
     obtain ⟨g0, g1⟩ := (hEE i hlt).below hbel hbl
     have hst := Lib.hid (firstErr_step hF.out)
     have hstay : Hid (pcErr l m i ≠ 0 → pcsErr l m = pcErr l m i) := fun h => by
      rw [Hr.out, ← hst.out]
      exact firstErr_stay (by rw [hst.out]; exact h) hlt
     have hlt' : (i : Int) < l.length := by omega
     have hge' : (0 : Int) ≤ i := by omega
     have hbl2 : b < wr.heap.size := Nat.lt_of_lt_of_le hbl hbel.size
     have Hent : Hid (pcErr l m i = if (inL (l.getD i (0, 0)).1 1 1000000 && inL (l.getD i (0, 0)).2 1 1000000) = false then 1 else if m < (l.getD i (0, 0)).2 then 5 else 0) := rfl
     clear hEE
     generalize (l.getD i (0, 0)).1 = x at *
     generalize (l.getD i (0, 0)).2 = y at *
     have hN := blk_new wr #[.int .i64 x, .int .i64 y] 26
     have hx := (Below.refl wr.heap.size wr).alloc (Nat.le_refl _) (.cells #[.int .i64 x, .int .i64 y] 26)
     go_wp2_with fail
     refine (within_any x _ _ _).mono ?_
     rintro e w2 ⟨rfl, hb2⟩
     have hN2 := blk_keep hN hb2 (blk_lt hN)
     have c1 := blk_cell hN2 1 (.int .i64 y) rfl
     have hx2 := ext_trans (ext_trans hbel hx) hb2
     generalize inL x 1 1000000 = p at *
     clear g0 g1 hN hb2 hx
     cases p with
     | false =>
      have Hv : Hid (pcsErr l m = 1) := by
       have h : pcErr l m i = 1 := by rw [Hent.out]; rfl
       show _ = _
       rw [hstay.out (by rw [h]; decide), h]
      go_wp2_with fail
      go_ret
      exact ⟨by rw [Hv.out]; rfl, hx2⟩
     | true =>
      go_wp2_with fail
      refine (within_any y _ _ _).mono ?_
      rintro e w3 ⟨rfl, hb3⟩
      have hN3 := blk_keep hN2 hb3 (blk_lt hN2)
      have c3 := blk_cell hN3 1 (.int .i64 y) rfl
      have hx3 := ext_trans hx2 hb3
      generalize inL y 1 1000000 = q at *
      clear hN2 hb3 hx2 c1 hN3
      cases q with
      | false =>
       have Hv : Hid (pcsErr l m = 1) := by
        have h : pcErr l m i = 1 := by rw [Hent.out]; rfl
        show _ = _
        rw [hstay.out (by rw [h]; decide), h]
       go_wp2_with fail
       go_ret
       exact ⟨by rw [Hv.out]; rfl, hx3⟩
      | true =>
       by_cases cy : m < y
       ·
        have ty : decide (y > m) = true := decide_eq_true cy
        have Hv : Hid (pcsErr l m = 5) := by
         have h : pcErr l m i = 5 := by rw [Hent.out, if_neg (by decide), if_pos cy]
         show _ = _
         rw [hstay.out (by rw [h]; decide), h]
        clear cy
        go_wp2_with fail
        go_ret
        exact ⟨by rw [Hv.out]; rfl, hx3⟩
       ·
        have ty : decide (y > m) = false := decide_eq_false cy
        have Hv : Hid (firstErr (pcErr l m) (i + 1) = 0) := by
         show _ = _
         rw [hst.out, Hent.out, if_neg (by decide), if_neg cy]
        clear cy
        go_wp2_with fail
        exact ⟨⟨i + 1, by omega, by go_num, Hv, hx3⟩, meas_up hlt⟩
    ·
     obtain rfl : i = l.length := by omega
     have Hf : Hid (pcsErr l m = 0) := by show _ = _; rw [Hr.out, hF.out]
     clear hF
     go_wp2_with fail
     go_ret
     exact ⟨by rw [Hf.out]; rfl, hbel⟩

end Go.Proofs.YtofijjomfhmbjaaGreat

namespace Go.Proofs.YtofijjomfhmbjaaGreat
open Go.RowKit

def CapOk (v : Value) : Prop := ∃ a l c, v = .slice a l c ∧ l ≤ c ∧ c ≤ maxLen

end Go.Proofs.YtofijjomfhmbjaaGreat

namespace Go.Proofs.YtofijjomfhmbjaaGreat
open Go.RowKit

def RetBoolQ (b : Bool) (w : World) (e : Ending) (w' : World) : Prop := e = .returned (.bool b) ∧ Quiet w w'
set_option maxHeartbeats 1000000 in
theorem withinQ_any (n lo hi : Int) (w : World) : Calls Tryz.prog 30 #[.int .i64 n, .int .i64 lo, .int .i64 hi] w (RetBoolQ (inL n lo hi) w) := by
 by_cases h1 : lo ≤ n
 ·
  by_cases h2 : n ≤ hi
  ·
   have Hr : Hid (inL n lo hi = true) := by show _ = _; simp [inL, h1, h2]
   have t1 : decide (n ≥ lo) = true := decide_eq_true h1
   have t2 : decide (n ≤ hi) = true := decide_eq_true h2
   clear h1 h2
   go_enter Tryz.func30, Tryz.ntmps30
   go_wp2_with fail
   go_ret
   exact ⟨by rw [Hr.out]; rfl, Quiet.refl _⟩
  ·
   have Hr : Hid (inL n lo hi = false) := by show _ = _; simp [inL, h1, h2]
   have t1 : decide (n ≥ lo) = true := decide_eq_true h1
   have t2 : decide (n ≤ hi) = false := decide_eq_false h2
   clear h1 h2
   go_enter Tryz.func30, Tryz.ntmps30
   go_wp2_with fail
   go_ret
   exact ⟨by rw [Hr.out]; rfl, Quiet.refl _⟩
 ·
  have Hr : Hid (inL n lo hi = false) := by show _ = _; simp [inL, h1]
  have t1 : decide (n ≥ lo) = false := decide_eq_false h1
  clear h1
  go_enter Tryz.func30, Tryz.ntmps30
  go_wp2_with fail
  go_ret
  exact ⟨by rw [Hr.out]; rfl, Quiet.refl _⟩

/-! ### What CheckNest tells -/
theorem over_stop {l : List (Int × Int)} {ls : List (Int × Int)} {i k n : Nat} (hk : k < n) (h : overlapB l ls i k = true) : overTo l ls i n = true := by
 cases c : overTo l ls i n with
 | true => rfl
 | false =>
  have := (overTo_iff l ls i n).1 c k hk
  rw [this] at h; cases h
end Go.Proofs.YtofijjomfhmbjaaGreat
