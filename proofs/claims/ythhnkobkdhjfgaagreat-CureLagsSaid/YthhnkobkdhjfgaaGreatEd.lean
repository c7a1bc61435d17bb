/- Part d of the lemmas and walks. -/
import Derived.Test.YthhnkobkdhjfgaaGreatEc

namespace Go.Proofs.YthhnkobkdhjfgaaGreat
open Go.RowKit Go.Shelf

def strB (l : List UInt8) : ByteArray := ⟨l.toArray⟩
theorem strB_size (l : List UInt8) : (strB l).size = l.length := rfl
theorem strB_append (a b : List UInt8) : strB a ++ strB b = strB (a ++ b) := by
 apply ByteArray.ext
 simp [strB, ByteArray.data_append]
def RetStr (l : List UInt8) (w : World) (e : Ending) (w' : World) : Prop := e = .returned (.string (strB l)) ∧ Below w.heap.size w w'
theorem repeat_zero (c : Nat) : Lib.repeatL [48] c = List.replicate c 48 := by
 induction c with
 | zero => rfl
 | succ c ih => rw [Lib.repeatL, ih]; rfl

def DecRow (w : World) (B n m : Nat) : Prop := ∃ cs : List Value, cs.length = 20 ∧ w.heap[B]? = some (.cells cs.toArray 267 (0, 0)) ∧ cs.drop (20 - m) = (decP n m).map fun c => Value.int .u8 c.toNat
theorem DecRow.bytes {w : World} {B n m : Nat} (h : DecRow w B n m) (hm : m ≤ 20) (hl : (decP n m).length = m) : Lib.Bytes w B (20 - m) (strB (decP n m)) := by
 obtain ⟨cs, hc, hh, hd⟩ := h
 intro i hi
 rw [strB_size] at hi
 rw [cell_of_row w B _ _ _ (0, 0) hh]
 have e : cs[20 - m + i]? = ((decP n m).map fun c => Value.int .u8 c.toNat)[i]? := by rw [← hd, List.getElem?_drop]
 simp only [List.getElem?_toArray]
 rw [e, List.getElem?_map, List.getElem?_eq_getElem hi]
 rfl
theorem DecRow.step {w : World} {B n m k : Nat} (h : DecRow w B n m) (hk : k + 1 + m = 20) (h0 : n / 10 ^ m ≠ 0) (v : Value) (hv : v = .int .u8 (chD (n / 10 ^ m % 10)).toNat) : DecRow (w.setCell ⟨B, k, none⟩ v) B n (m + 1) := by
 obtain ⟨cs, hc, hh, hd⟩ := h
 refine ⟨cs.set k v, by simp [hc], ?_, ?_⟩
 ·
  rw [heap_setCell_same w B k _ _ _ hh]
  simp
 ·
  rw [decP_step n m h0, List.map_cons, ← hd, hv]
  rw [show 20 - (m + 1) = k by omega, show 20 - m = k + 1 by omega]
  rw [List.drop_eq_getElem_cons (by simp [hc]; omega)]
  simp [List.drop_set]
theorem DecRow.cell {w : World} {B n m : Nat} (h : DecRow w B n m) (k : Nat) (hk : k < 20) : ∃ v, w.cell? ⟨B, k, none⟩ = some v ∧ w.frozen? ⟨B, k, none⟩ = false := by
 obtain ⟨cs, hc, hh, hd⟩ := h
 refine ⟨cs[k], ?_, frozen_of_row w B k _ _ hh⟩
 rw [cell_of_row w B k _ _ (0, 0) hh]
 simp [hc, hk]

theorem arr20 : Tryz.prog.arrayLen 267 = 20 := by kernel_rfl
theorem und20 : Tryz.prog.underlying 267 = some (.array (Tryz.prog.arrayLen 267) (Tryz.prog.elem 267)) := by kernel_rfl
theorem size20 (w : World) : (sizeOf (Tryz.prog.elem 267)).run Tryz.prog w = .ok 1 w := by kernel_rfl
theorem slice20 (B a : Nat) (ha : a < 20) (w : World) : (Instr.sliceAt 267 (.pointer (some ⟨B, 0, none⟩)) (some (.int .i64 (a : Int))) none none).run Tryz.prog w = .ok (.slice (some ⟨B, a, none⟩) (20 - a) (20 - a)) w := by
 rw [run_sliceAt_array_l w _ _ und20 .i64 a (by omega) (by rw [arr20]; omega), size20, arr20]
 have h : ¬ 20 = a := by omega
 have e : (⟨B, 0, none⟩ : Addr).add (a * 1) = ⟨B, a, none⟩ := by unfold Addr.add; split <;> simp_all
 simp only [Result.andThen_ok, slicedAt, Int.toNat_natCast, if_neg h, e]
theorem slice20_end (B : Nat) (w : World) : (Instr.sliceAt 267 (.pointer (some ⟨B, 0, none⟩)) (some (.int .i64 ((20 : Nat) : Int))) none none).run Tryz.prog w = .ok (.slice (some ⟨B, 0, none⟩) 0 0) w := by
 rw [run_sliceAt_array_l w _ _ und20 .i64 _ (by omega) (by rw [arr20]; omega), size20, arr20]
 simp [slicedAt]

set_option maxRecDepth 100000 in
set_option maxHeartbeats 4000000 in
theorem decimal_any (n : Nat) (w : World) (hn : n < b64) : Calls Tryz.prog 163 #[.int .u64 n] w (RetStr (decL n) w) := by
 have h20 : n / 10 ^ 20 = 0 := Nat.div_eq_of_lt (by unfold b64 at hn; omega)
 have H20 := Lib.hid h20
 have hN : DecRow (w.alloc (.cells #[.int .u8 0, .int .u8 0, .int .u8 0, .int .u8 0, .int .u8 0, .int .u8 0, .int .u8 0, .int .u8 0, .int .u8 0, .int .u8 0, .int .u8 0, .int .u8 0, .int .u8 0, .int .u8 0, .int .u8 0, .int .u8 0, .int .u8 0, .int .u8 0, .int .u8 0, .int .u8 0] 267)) w.heap.size n 0 :=
  ⟨List.replicate 20 (.int .u8 0), by simp, blk_new w _ _, by simp [decP]⟩
 have hal : Below w.heap.size w (w.alloc (.cells #[.int .u8 0, .int .u8 0, .int .u8 0, .int .u8 0, .int .u8 0, .int .u8 0, .int .u8 0, .int .u8 0, .int .u8 0, .int .u8 0, .int .u8 0, .int .u8 0, .int .u8 0, .int .u8 0, .int .u8 0, .int .u8 0, .int .u8 0, .int .u8 0, .int .u8 0, .int .u8 0] 267)) := (Below.refl _ _).alloc (Nat.le_refl _) _
 have HN := Lib.hid hN
 clear h20 hN
 go_enter Tryz.func163, Tryz.ntmps163
 go_wp2_with fail
 go_loopw [0, 4] (fun nv av wr => ∃ (m a : Nat), a + m = 20 ∧ nv = .int .u64 ((n / 10 ^ m : Nat) : Int) ∧ av = .int .i64 a ∧ (m = 0 ∨ n / 10 ^ (m - 1) ≠ 0) ∧ Hid (DecRow wr w.heap.size n m) ∧ Below w.heap.size w wr)
  (fun _ av _ => (intOf av).toNat)
 case atStart => exact ⟨0, 20, rfl, by simp, rfl, .inl rfl, HN.out, hal⟩
 case round =>
  clear hal HN
  obtain ⟨m, a, ha, rfl, rfl, hm, hD, hbel⟩ := hrel
  have HM := Lib.hid hm
  have HA := Lib.hid ha
  clear hm
  by_cases h0 : n / 10 ^ m = 0
  ·
   have Hh := Lib.hid h0
   by_cases ha20 : a = 20
   ·
    have h00 : n = 0 := by
     obtain rfl : m = 0 := by omega
     simpa using h0
    have hw := Lib.run_convert_whole (P := Tryz.prog) wr 78 5 9 Tryz.underlying78 Tryz.underlying5 Tryz.underlying9 w.heap.size 0 (strB []) (fun i hi => absurd hi (Nat.not_lt_zero i)) 0
    rw [strB_size, List.length_nil] at hw
    have hsl := slice20_end w.heap.size
    have Hn0 : Hid (decL n = []) := by show _ = _; rw [h00]; rfl
    rw [h0]
    subst ha20
    clear h0 h00 ha
    go_wp2_with fail
    go_ret
    exact ⟨by rw [Hn0.out]; rfl, hbel⟩
   ·
    have hl := decP_length n m HM.out
    have hm2 : m = 20 - a := by omega
    have hw := Lib.run_convert_whole (P := Tryz.prog) wr 78 5 9 Tryz.underlying78 Tryz.underlying5 Tryz.underlying9 w.heap.size (20 - m) (strB (decP n m)) (hD.out.bytes (by omega) hl) (20 - a)
    rw [strB_size, hl, decP_all n m h0, show 20 - m = a by omega, hm2] at hw
    have hsl := slice20 w.heap.size a (by omega)
    rw [h0]
    clear h0 hl hm2
    go_wp2_with fail
    go_ret
    exact ⟨rfl, hbel⟩
  ·
   have hq : ((n / 10 ^ m : Nat) : Int) > 0 := Int.natCast_pos.2 (Nat.pos_of_ne_zero h0)
   have t1 : decide (((n / 10 ^ m : Nat) : Int) > 0) = true := decide_eq_true hq
   have hm20 : m < 20 := by
    rcases Nat.lt_or_ge m 20 with h | h
    ·
     exact h
    ·
     obtain rfl : m = 20 := by omega
     exact absurd H20.out h0
   obtain ⟨k, rfl⟩ : ∃ k, a = k + 1 := ⟨a - 1, by omega⟩
   obtain ⟨v0, g0, f0⟩ := hD.out.cell k (by omega)
   have hst := fun v hv => hD.out.step (k := k) (by omega) h0 v hv
   have HST := Lib.hid hst
   have Hm1 : Hid (n / 10 ^ (m + 1 - 1) ≠ 0) := by show _ ≠ _; rw [Nat.add_sub_cancel]; exact h0
   have hdv : Hid (n / 10 ^ m / 10 = n / 10 ^ (m + 1)) := by show _ = _; rw [Nat.div_div_eq_div_mul, Nat.pow_succ]
   have hch : Hid (((chD (n / 10 ^ m % 10)).toNat : Int) = 48 + ((n / 10 ^ m % 10 : Nat) : Int)) := by show _ = _; rw [chD_toNat _ (Nat.mod_lt _ (by omega))]; omega
   have hqb : n / 10 ^ m < b64 := Nat.lt_of_le_of_lt (Nat.div_le_self _ _) hn
   have e1 : IntKind.i64.wrap (((k + 1 : Nat) : Int) - 1) = (k : Int) := by rw [show (((k + 1 : Nat) : Int) - 1) = (k : Int) by omega]; exact IntWalk.i64_in _ (by omega)
   have e2 : IntKind.i64.wrap ((k : Int) + 1 - 1) = (k : Int) := by rw [show ((k : Int) + 1 - 1) = (k : Int) by omega]; exact IntWalk.i64_in _ (by omega)
   have hk20 : (k : Int) < 20 := by omega
   have hk0 : (0 : Int) ≤ k := by omega
   clear hst h0 hD
   generalize n / 10 ^ m = q at *
   unfold b64 at hqb
   clear hn
   go_wp2_with fail
   refine ⟨⟨m + 1, k, by have := HA.out; omega, by rw [← hdv.out, Int.natCast_ediv]; rfl, rfl, .inr Hm1.out, HST.out _ (by rw [hch.out, Int.natCast_emod]; rfl), hbel.setCell (p := ⟨w.heap.size, k, none⟩) (Nat.le_refl _) _⟩, by simp [intOf]⟩

def decC : Nat := 10000000000000000000
theorem decC_eq : decC = 10 ^ 19 := by unfold decC; omega
def partL (n i : Nat) : List UInt8 := if n / decC ^ i / decC = 0 then decL (n / decC ^ i) else decZ 19 (n / decC ^ i % decC)
theorem partL_step (n i : Nat) : decL (n / decC ^ (i + 1)) ++ partL n i = decL (n / decC ^ i) := by
 have e : n / decC ^ (i + 1) = n / decC ^ i / decC := by rw [Nat.div_div_eq_div_mul, Nat.pow_succ]
 rw [e]
 unfold partL
 by_cases h : n / decC ^ i / decC = 0
 ·
  rw [if_pos h, h, decL_zero]; rfl
 ·
  rw [if_neg h]
  rw [decC_eq] at *
  exact (decL_split 19 _ h).symm
def partCells (n k : Nat) : List Value := (List.range k).map fun i => Value.string (strB (partL n i))
theorem partCells_succ (n k : Nat) : partCells n (k + 1) = partCells n k ++ [Value.string (strB (partL n k))] := by
 simp [partCells, List.range_succ]

theorem digits_len (n : Nat) : (dig 10 n).length ≤ 20 * (dig b64 n).length := by
 refine dig_length_le ten_two _ _ (Nat.lt_of_lt_of_le (lt_pow_dig_length b64_two n) ?_)
 rw [Nat.pow_mul]
 exact Nat.pow_le_pow_left (by unfold b64; omega) _
theorem parts_len (n k : Nat) (h : n / decC ^ k ≠ 0) : 19 * k < 20 * (dig b64 n).length := by
 have h1 : n / 10 ^ (19 * k) ≠ 0 := by rw [Nat.pow_mul, ← decC_eq]; exact h
 have := (dig_length_gt ten_two (19 * k) n).2 h1
 have := digits_len n
 omega
theorem decC_pos : 0 < decC := by unfold decC; omega
theorem partL_len (n i : Nat) : (partL n i).length ≤ 19 + (dig 10 n).length := by
 unfold partL
 split
 ·
  rw [decL_length]
  have : (dig 10 (n / decC ^ i)).length ≤ (dig 10 n).length := dig_length_mono ten_two (Nat.div_le_self _ _)
  omega
 ·
  unfold decZ
  have h1 : (decL (n / decC ^ i % decC)).length ≤ 19 := by
   rw [decL_length]
   refine dig_length_le ten_two 19 _ ?_
   rw [← decC_eq]
   exact Nat.mod_lt _ decC_pos
  simp
  omega
theorem LRow.cellAt {w : World} {base : Nat} {e : TypeId} {g n cap : Nat} {xs : List Value} (h : LRow w base e 1 (.slice (some ⟨g, 0, none⟩) n cap) n xs) (j : Nat) (v : Value) (hj : xs[j]? = some v) : w.cell? ⟨g, j, none⟩ = some v := by
 have hc : ∀ j u, xs[j]? = some u → w.cell? ((⟨g, 0, none⟩ : Addr).add j) = some u := h.1.cells (g := g) rfl
 have := hc j v hj
 have e : (⟨g, 0, none⟩ : Addr).add j = ⟨g, j, none⟩ := by unfold Addr.add; split <;> simp_all
 rwa [e] at this
theorem noDig_string (s : ByteArray) : noDig (.string s) := fun _ => ⟨by simp, by simp⟩
theorem info_string : (Tryz.prog.info? 9).map (fun i => (i.zero, i.size, i.bytes)) = some (some (.string .empty), 1, 16) := by kernel_rfl
theorem cell_new1 (w : World) (a : Value) (t : TypeId) : ∀ j u, [a][j]? = some u → (w.alloc (.cells #[a] t)).cell? ((⟨w.heap.size, 0, none⟩ : Addr).add j) = some u := by
 intro j u hj
 match j, hj with
 | 0, hj => simp at hj; subst hj; simp [Addr.add]
 | j + 1, hj => simp at hj
def sliceLen : Value → Nat | .slice _ n _ => n | _ => 0
theorem LRow.form {w : World} {base : Nat} {e : TypeId} {size : Nat} {v : Value} {n : Nat} {xs : List Value} (h : LRow w base e size v n xs) : ∃ ao cap, v = .slice ao n cap ∧ (0 < n → ∃ g, ao = some ⟨g, 0, none⟩ ∧ g < w.heap.size ∧ base ≤ g) := by
 rcases h.1.2 with ⟨rfl, h0⟩ | ⟨g, cap, cur, rfl, hb, hg, _⟩
 ·
  exact ⟨none, 0, by rw [h0], fun h => absurd h (by omega)⟩
 ·
  exact ⟨_, _, rfl, fun _ => ⟨g, rfl, (Array.getElem?_eq_some_iff.1 hg).1, hb⟩⟩
theorem bw_any (q : Nat) (v : Value) (W : World) (h : IsNat .u64 b64 W v q) (hl : (dig b64 q).length ≤ 1099511627776) : Calls Tryz.prog 162 #[v, .int .u64 10000000000000000000] W (RetNatWord (q / decC) (q % decC) W) := by
 have h2 := byWord_any q decC v W h hl decC_pos (by unfold decC b64; omega)
 have e : ((decC : Nat) : Int) = 10000000000000000000 := rfl
 rw [e] at h2
 exact h2
theorem rep_any (c : Nat) (W : World) (hc : c ≤ 19) : Calls Tryz.prog 164 #[.string { data := #[48] }, .int .i64 (c : Int)] W (fun e w' => e = .returned (.string (strB (List.replicate c 48))) ∧ Below W.heap.size W w') := by
 have h := Tryz.strings_Repeat { data := #[48] } c W (by omega) (by show 1 * c ≤ _; omega)
 rw [show Lib.repeatL (ByteArray.mk #[48]).data.toList c = List.replicate c 48 from repeat_zero c] at h
 exact h
theorem write_any (B b : Nat) (l m : List UInt8) (W : World) (h : Lib.IsBuilder 250 5 B b (Lib.byteCells l) W) (hl : l.length + m.length ≤ 140737488355328) (hB : B ≤ W.heap.size) :
  Calls Tryz.prog 165 #[.pointer (some ⟨b, 0, none⟩), .string (strB m)] W (fun e w' => e = .returned (.tuple #[.int .i64 ((strB m).size : Int), .nilIface]) ∧ Lib.IsBuilder 250 5 B b (Lib.byteCells (l ++ m)) w' ∧ Below B W w') := by
 refine (Any.Builder_WriteString { Tryz.lays105 with } Tryz.Builder_Extra_105 B b (Lib.byteCells l) (strB m) W h (by rw [Lib.byteCells_length, strB_size]; exact hl) hB).mono fun e w' he => ?_
 obtain ⟨he, h1, h2⟩ := he
 refine ⟨he, .inr ?_, h2⟩
 have e2 : Lib.byteCells (l ++ m) = Lib.byteCells l ++ Lib.strCells (strB m) := by simp [Lib.byteCells, Lib.strCells, strB]
 rw [e2]
 exact h1
theorem new_builder (w : World) : Lib.IsBuilder 250 5 w.heap.size w.heap.size (Lib.byteCells []) (w.alloc (.cells #[.pointer none, .slice none 0 0] 250)) :=
 .inl ⟨Nat.le_refl _, _, blk_new w _ _, World.ownsRow_nil _ _ _ _, by simp [Value.ownBlock]⟩

theorem own_base {w : World} {base : Nat} {e : TypeId} {size : Nat} {v : Value} {n : Nat} {xs : List Value} (h : w.ownsRow base e size v n xs) : ∀ k, v.ownBlock = some k → base ≤ k := by
 intro k hk
 rcases h.2 with ⟨rfl, _⟩ | ⟨g, cap, cur, rfl, hb, _⟩
 ·
  simp [Value.ownBlock] at hk
 ·
  simp [Value.ownBlock] at hk
  omega
theorem decT_pos (n : Nat) (h : n ≠ 0) : decT n = decL n := by unfold decT; rw [if_neg h]
set_option maxRecDepth 100000 in
set_option maxHeartbeats 8000000 in
theorem text_any (n : Nat) (v : Value) (w : World) (h : IsNat .u64 b64 w v n) (hsz : (dig b64 n).length ≤ 68719476736) : Calls Tryz.prog 125 #[v] w (RetStr (decT n) w) := by
 have H := Lib.hid h
 have hd := digits_len n
 have HD := Lib.hid hd
 have HSZ := Lib.hid hsz
 obtain ⟨iS, hiS, hzS, hsS, hyS⟩ := info_parts info_string
 have hzd : ∀ u ∈ (Value.string ByteArray.empty).cells.toList, noDig u := by
  intro u hu
  simp [Value.cells] at hu
  subst hu
  exact noDig_string _
 clear h hd hsz
 have HN1 : Hid (n / decC ^ 0 = n) := by show _ = _; rw [Nat.pow_zero, Nat.div_one]
 have hvs : ∃ ao cap, v = .slice ao (dig b64 n).length cap := by obtain ⟨ao, cap, e, _⟩ := IsRow.opened H.out; exact ⟨ao, cap, e⟩
 obtain ⟨ao0, cap0, rfl⟩ := hvs
 go_enter Tryz.func125, Tryz.ntmps125
 go_wp2_with fail
 go_loopw [0, 3] (fun av pv wr => ∃ (k : Nat), IsNat .u64 b64 wr av (n / decC ^ k) ∧ (k = 0 ∨ n / decC ^ (k - 1) ≠ 0) ∧ Hid (LRow wr w.heap.size 9 1 pv k (partCells n k)) ∧ Below w.heap.size w wr)
  (fun _ pv _ => 1374389534721 - sliceLen pv)
 case atStart => exact ⟨0, by rw [HN1.out]; exact H.out, .inl rfl, LRow.nil _ _ _ _, Below.refl _ _⟩
 case round =>
  clear H
  obtain ⟨k, hA, hk, hL, hbel⟩ := hrel
  have HK := Lib.hid hk
  obtain ⟨ao, cap, rfl, hg⟩ := hL.out.form
  have HA := Lib.hid hA
  obtain ⟨aa, ca, rfl, _⟩ := IsRow.opened hA
  clear hA hk
  by_cases h0 : n / decC ^ k = 0
  ·
   have Hq0 := Lib.hid h0
   rw [h0, dig_zero, List.length_nil]
   clear h0 HA
   by_cases hk0 : k = 0
   ·
    have Hn : Hid (decT n = [48]) := by
     show _ = _
     have : n = 0 := by have := Hq0.out; rw [hk0, HN1.out] at this; exact this
     rw [this]; rfl
    subst hk0
    go_wp2_with fail
    go_ret
    exact ⟨by rw [Hn.out]; rfl, hbel⟩
   ·
    have hn0 : Hid (n ≠ 0) := by
     show n ≠ 0
     rintro rfl
     rcases HK.out with h | h
     ·
      exact hk0 h
     ·
      exact h (Nat.zero_div _)
    have Hkb : Hid (k ≤ 1374389534720) := by
     show _ ≤ _
     rcases HK.out with h | h
     ·
      omega
     ·
      have := parts_len n (k - 1) h; have := HSZ.out; omega
    have tk : ((k : Int) == 0) = false := beq_eq_false_iff_ne.2 (by omega)
    obtain ⟨g, rfl, hgl, hgb⟩ := hg (by omega)
    have hkb := Hkb.out
    have ek : IntKind.i64.wrap ((k : Int) - 1) = (k : Int) - 1 := IntWalk.i64_in _ (by omega)
    obtain ⟨kp, hkp⟩ : ∃ z : Int, z = (k : Int) - 1 := ⟨_, rfl⟩
    have HKP := Lib.hid hkp
    rw [← hkp] at ek
    have ek2 : IntKind.i64.wrap ((k : Int) - 1) = kp := by rw [hkp]; exact IntWalk.i64_in _ (by omega)
    have hnb := new_builder wr
    have hal := (Below.refl wr.heap.size wr).alloc (Nat.le_refl _) (.cells #[.pointer none, .slice none 0 0] 250)
    have HL1 := Lib.hid (hL.out.below hal)
    have hx1 := ext_trans hbel hal
    have hBs : wr.heap.size < (wr.alloc (.cells #[.pointer none, .slice none 0 0] 250)).heap.size := by simp
    have HNB := Lib.hid hnb
    have hwB := hbel.size
    clear ek hkp hkb hL hbel hnb
    go_wp2_with fail
    generalize wr.alloc (.cells #[.pointer none, .slice none 0 0] 250) = W1 at *
    generalize wr.heap.size = B at *
    go_loopw [8] (fun iv wx => ∃ (j : Nat) (z : Int), z = (j : Int) - 1 ∧ j ≤ k ∧ iv = .int .i64 z ∧ Hid (Lib.IsBuilder 250 5 B B (Lib.byteCells (decL (n / decC ^ j))) wx) ∧ Below B W1 wx) (fun iv _ => (intOf iv + 1).toNat)
    case atStart => exact ⟨k, _, HKP.out, Nat.le_refl _, rfl, by rw [Hq0.out]; exact HNB.out, Below.refl _ _⟩
    case round =>
     clear HNB hal
     obtain ⟨j, z, hz, hj, rfl, hIB, hbx⟩ := hrel
     have hBx : B < wr.heap.size := Nat.lt_of_lt_of_le hBs hbx.size
     have hgx : g < B := hgl
     have hxx : Below w.heap.size w wr := hx1.trans (hbx.mono hwB)
     by_cases hj0 : j = 0
     ·
      have t9 : decide (z ≥ 0) = false := decide_eq_false (by omega)
      have hs := fun h => Tryz.Builder_String_any B B (decL n) wr h (Nat.le_of_lt hBx)
      have HS := Lib.hid (hs (by have := hIB.out; rw [hj0, HN1.out] at this; exact this))
      have HT := Lib.hid (decT_pos n hn0.out)
      clear hs hz hj0 hIB
      go_wp2_with fail
      refine HS.out.mono ?_
      rintro e w3 ⟨rfl, hb3⟩
      go_wp2_with fail
      go_ret
      exact ⟨by rw [HT.out]; rfl, hxx.trans (hb3.mono (by omega))⟩
     ·
      obtain ⟨i, rfl⟩ : ∃ i, j = i + 1 := ⟨j - 1, by omega⟩
      obtain rfl : z = (i : Int) := by omega
      have t9 : decide ((i : Int) ≥ 0) = true := decide_eq_true (by omega)
      have hi0 : (0 : Int) ≤ i := by omega
      have hik : (i : Int) < k := by omega
      have hce : (partCells n k)[i]? = some (.string (strB (partL n i))) := by
       unfold partCells
       rw [List.getElem?_map, List.getElem?_range (by omega)]
       rfl
      have c0 := HL1.out.cellAt i _ hce
      have c1 : wr.cell? ⟨g, i, none⟩ = some (.string (strB (partL n i))) := (hbx.cell (p := ⟨g, i, none⟩) hgx).trans c0
      have c2 : wr.cell? ⟨g, 0 + i, none⟩ = some (.string (strB (partL n i))) := by rw [Nat.zero_add]; exact c1
      have hps := Lib.hid (partL_step n i)
      have hlen1 := partL_len n i
      have hlen2 : (decL (n / decC ^ (i + 1))).length ≤ (dig 10 n).length := by rw [decL_length]; exact dig_length_mono ten_two (Nat.div_le_self _ _)
      have HW := Lib.hid (write_any B B (decL (n / decC ^ (i + 1))) (partL n i) wr hIB.out (by have := HD.out; have := HSZ.out; omega) (Nat.le_of_lt hBx))
      clear c0 hce hz hj0 hIB hlen1 hlen2
      generalize partL n i = pp at *
      go_wp2_with fail
      refine HW.out.mono ?_
      rintro e w3 ⟨rfl, hib3, hb3⟩
      rw [hps.out] at hib3
      have HIB := Lib.hid hib3
      have e1 : IntKind.i64.wrap ((i : Int) - 1) = (i : Int) - 1 := IntWalk.i64_in _ (by have := Hkb.out; omega)
      have e2 : Hid (((intOf (.int .i64 ((i : Int) - 1))) + 1).toNat < ((intOf (.int .i64 (i : Int))) + 1).toNat) := by show _ < _; simp [intOf] <;> omega
      clear hib3
      go_wp2_with fail
      exact ⟨⟨i, (i : Int) - 1, rfl, by omega, rfl, HIB.out, hbx.trans hb3⟩, e2.out⟩
  ·
   have hlen : 0 < (dig b64 (n / decC ^ k)).length := by
    rcases Nat.eq_zero_or_pos (dig b64 (n / decC ^ k)).length with h | h
    ·
     exact absurd ((dig_nil_iff b64_two _).1 (List.eq_nil_of_length_eq_zero h)) h0
    ·
     exact h
   have t1 : decide (0 < (dig b64 (n / decC ^ k)).length) = true := decide_eq_true hlen
   have hLq : (dig b64 (n / decC ^ k)).length ≤ (dig b64 n).length := dig_length_mono b64_two (Nat.div_le_self _ _)
   have hpl := parts_len n k h0
   have Hk1 : Hid (n / decC ^ (k + 1 - 1) ≠ 0) := by show _ ≠ _; rw [Nat.add_sub_cancel]; exact h0
   have Hsu := Lib.hid (partCells_succ n k)
   have Hpd : Hid (n / decC ^ (k + 1) = n / decC ^ k / decC) := by show _ = _; rw [Nat.div_div_eq_div_mul, Nat.pow_succ]
   have Hpl : Hid (partL n k = if n / decC ^ k / decC = 0 then decL (n / decC ^ k) else decZ 19 (n / decC ^ k % decC)) := rfl
   have hkb : k ≤ 1374389534720 := by have := HSZ.out; omega
   have HBW := Lib.hid (fun W h => bw_any (n / decC ^ k) (.slice aa (dig b64 (n / decC ^ k)).length ca) W h (by have := HSZ.out; omega))
   clear hlen hLq hpl h0 hg
   generalize hPK : partL n k = pk at *
   generalize n / decC ^ k = q at *
   clear hPK
   go_wp2_with fail
   refine (HBW.out _ HA.out).mono ?_
   rintro e w1 ⟨vq, rfl, hvq, hb1⟩
   have HVQ := Lib.hid hvq
   obtain ⟨aq, cq, rfl, _⟩ := IsRow.opened hvq
   have hr : q % decC < decC := Nat.mod_lt _ decC_pos
   have HL1 := Lib.hid (hL.out.below hb1)
   have hx1 := ext_trans hbel hb1
   clear hvq hb1 hL hbel HBW t1
   go_wp2_with fail
   refine (decimal_any (q % decC) _ (Nat.lt_trans hr (by unfold decC b64; omega))).mono ?_
   rintro e w2 ⟨rfl, hb2⟩
   have HL2 := Lib.hid (HL1.out.below hb2)
   have HVQ2 := Lib.hid (HVQ.out.below hb2)
   have hx2 := ext_trans hx1 hb2
   clear HL1 HVQ hx1 hb2
   by_cases h1 : q / decC = 0
   ·
    have hL0 : (dig b64 (q / decC)).length = 0 := by rw [h1]; rfl
    have Hpk : Hid (pk = decL (q % decC)) := by
     show _ = _
     rw [Hpl.out, if_pos h1]
     rcases Nat.lt_or_ge q decC with h | h
     ·
      rw [Nat.mod_eq_of_lt h]
     ·
      exact absurd (Nat.div_pos h decC_pos) (by omega)
    rw [hL0] at HVQ2 ⊢
    generalize decL (q % decC) = m at *
    have HL3 := Lib.hid (HL2.out.below ((Below.refl w2.heap.size w2).alloc (Nat.le_refl _) (.cells #[.string (strB m)] 9)))
    have hx3 := hx2.alloc hx2.size (.cells #[.string (strB m)] 9)
    have hsz2 := hx2.size
    clear hr h1 hL0
    have HVQ3 := Lib.hid (HVQ2.out.below ((Below.refl w2.heap.size w2).alloc (Nat.le_refl _) (.cells #[.string (strB m)] 9)))
    go_wp2_with (at_builtin; refine wpList_append_lrow _ rfl (.tmp 28) (.tmp 30) 243 rfl w.heap.size 9 iS _ 1 16 Tryz.underlying243 hiS hzS hsS hyS rfl (by decide) hzd _ _ _ rfl HL3.out ⟨w2.heap.size, 0, none⟩ 1 1 [.string (strB m)] rfl rfl (cell_new1 _ _ _) (by simp [Value.oneCell']) (by intro u hu; simp at hu; subst hu; exact noDig_string _) (by omega) (by unfold maxLen; omega) (by omega) (by simp; omega) ?_)
    intro g' cap' w3 hL4 hgr hat
    have HL4 := Lib.hid hL4
    have hx4 : Below w.heap.size w w3 := hx3.grown hgr (by simp; omega) (own_base HL3.out.1)
    have HVQ4 := Lib.hid (IsRow.grown (.inl rfl) (HVQ3.out) hgr HL3.out.2)
    clear hL4 hx3
    go_wp2_with fail
    exact ⟨⟨k + 1, by rw [Hpd.out]; exact HVQ4.out, .inr Hk1.out, by rw [Hsu.out, Hpk.out]; exact HL4.out, hx4⟩, by show 1374389534721 - (k + 1) < 1374389534721 - k; omega⟩
   ·
    have hl2 : 0 < (dig b64 (q / decC)).length := by
     rcases Nat.eq_zero_or_pos (dig b64 (q / decC)).length with h | h
     ·
      exact absurd ((dig_nil_iff b64_two _).1 (List.eq_nil_of_length_eq_zero h)) h1
     ·
      exact h
    have t2 : decide (0 < (dig b64 (q / decC)).length) = true := decide_eq_true hl2
    have Hpk : Hid (pk = decZ 19 (q % decC)) := by show _ = _; rw [Hpl.out, if_neg h1]
    have hm19 : (decL (q % decC)).length ≤ 19 := by
     rw [decL_length]
     exact dig_length_le ten_two 19 _ (by rw [← decC_eq]; exact hr)
    have Hz : Hid (decZ 19 (q % decC) = List.replicate (19 - (decL (q % decC)).length) 48 ++ decL (q % decC)) := rfl
    generalize decL (q % decC) = m at *
    obtain ⟨c, hc⟩ : ∃ c, m.length + c = 19 := ⟨19 - m.length, by omega⟩
    have hsm : (strB m).size = m.length := rfl
    have e1 : IntKind.i64.wrap (19 - ((strB m).size : Int)) = (c : Int) := by rw [hsm, show (19 : Int) - (m.length : Int) = (c : Int) by omega]; exact IntWalk.i64_in _ (by omega)
    have hcat : strB (List.replicate c 48) ++ strB m = strB pk := by rw [strB_append, Hpk.out, Hz.out, show 19 - m.length = c by omega]
    have hc19 : c ≤ 19 := by omega
    have hz1 : (strB (List.replicate c 48)).size ≤ 19 := by rw [strB_size, List.length_replicate]; exact hc19
    have hz2 : (strB m).size ≤ 19 := by rw [strB_size]; omega
    clear hr h1 hl2 hm19 hc hsm Hz
    go_wp2_with fail
    refine (rep_any c _ hc19).mono ?_
    rintro e w2' ⟨rfl, hb3⟩
    have HL3 := Lib.hid ((HL2.out.below hb3).below ((Below.refl w2'.heap.size w2').alloc (Nat.le_refl _) (.cells #[.string (strB pk)] 9)))
    have HVQ3 := Lib.hid ((HVQ2.out.below hb3).below ((Below.refl w2'.heap.size w2').alloc (Nat.le_refl _) (.cells #[.string (strB pk)] 9)))
    have hx2' := ext_trans hx2 hb3
    have hx3 := hx2'.alloc hx2'.size (.cells #[.string (strB pk)] 9)
    have hsz2 := hx2'.size
    clear hb3 hx2 hx2'
    go_wp2_with (at_builtin; refine wpList_append_lrow _ rfl (.tmp 28) (.tmp 30) 243 rfl w.heap.size 9 iS _ 1 16 Tryz.underlying243 hiS hzS hsS hyS rfl (by decide) hzd _ _ _ rfl HL3.out ⟨w2'.heap.size, 0, none⟩ 1 1 [.string (strB pk)] rfl rfl (cell_new1 _ _ _) (by simp [Value.oneCell']) (by intro u hu; simp at hu; subst hu; exact noDig_string _) (by omega) (by unfold maxLen; omega) (by omega) (by simp; omega) ?_)
    intro g' cap' w3 hL4 hgr hat
    have HL4 := Lib.hid hL4
    have hx4 : Below w.heap.size w w3 := hx3.grown hgr (by simp; omega) (own_base HL3.out.1)
    have HVQ4 := Lib.hid (IsRow.grown (.inl rfl) (HVQ3.out) hgr HL3.out.2)
    clear hL4 hx3
    go_wp2_with fail
    exact ⟨⟨k + 1, by rw [Hpd.out]; exact HVQ4.out, .inr Hk1.out, by rw [Hsu.out]; exact HL4.out, hx4⟩, by show 1374389534721 - (k + 1) < 1374389534721 - k; omega⟩

theorem decT_len (n : Nat) (h : (dig b64 n).length ≤ 68719476736) : (strB (decT n)).size ≤ 1374389534720 := by
 have := digits_len n
 rw [strB_size]
 unfold decT
 split
 ·
  simp
 ·
  rw [decL_length]; omega

set_option maxRecDepth 100000 in
set_option maxHeartbeats 4000000 in
theorem textRat_any (q : Rat) (v : Value) (w : World) (h : IsRat w v q) (hs : szR q 68719476736) : Calls Tryz.prog 76 #[v] w (RetStr (txtQ q) w) := by
 obtain ⟨a1, c1, a2, c2, rfl, n1, n2⟩ := h.opened
 have N1 := Lib.hid n1
 have N2 := Lib.hid n2
 have HS := Lib.hid hs
 have hB := blk_new w #[.bool (decide (q.num < 0)), .slice a1 (dig b64 q.num.natAbs).length c1, .slice a2 (dig b64 (dn q.den)).length c2] 42
 have hal := (Below.refl w.heap.size w).alloc (Nat.le_refl _) (.cells #[.bool (decide (q.num < 0)), .slice a1 (dig b64 q.num.natAbs).length c1, .slice a2 (dig b64 (dn q.den)).length c2] 42)
 have hT1 := text_any q.num.natAbs (.slice a1 (dig b64 q.num.natAbs).length c1) _ (n1.below hal) hs.1
 have HT1 := Lib.hid hT1
 clear h n1 n2 hs hT1
 have Htx : Hid (txtQ q = (if q.num < 0 then [45] else []) ++ (decT q.num.natAbs ++ (if q.den = 1 then [] else 47 :: decT q.den))) := rfl
 go_enter Tryz.func76, Tryz.ntmps76
 go_wp2_with fail
 refine HT1.out.mono ?_
 rintro e w1 ⟨rfl, hb1⟩
 have hB1 := blk_keep hB hb1 (blk_lt hB)
 have hx1 := ext_trans hal hb1
 have p0 := blk_cell hB1 0 (.bool (decide (q.num < 0))) rfl
 have p2 := blk_cell hB1 2 (.slice a2 (dig b64 (dn q.den)).length c2) rfl
 have HN2 := Lib.hid (N2.out.below hx1)
 clear hB hB1 hal hb1 HT1
 have hz1 := decT_len q.num.natAbs HS.out.1
 have ho1 : (ByteArray.mk #[45]).size = 1 := rfl
 have ho2 : (ByteArray.mk #[47]).size = 1 := rfl
 by_cases hneg : q.num < 0
 ·
  have tn : decide (q.num < 0) = true := decide_eq_true hneg
  have Hneg := Lib.hid hneg
  rw [tn] at p0 ⊢
  clear hneg tn
  by_cases hd : q.den = 1
  ·
   have hdn : dn q.den = 0 := by simp [dn, hd]
   rw [hdn] at p2 ⊢
   rw [dig_zero, List.length_nil] at p2 ⊢
   have Htx2 : Hid (txtQ q = [45] ++ decT q.num.natAbs) := by show _ = _; rw [Htx.out, if_pos Hneg.out, if_pos hd, List.append_nil]
   clear hd hdn Htx HN2 N2
   have hcat : ByteArray.mk #[45] ++ strB (decT q.num.natAbs) = strB (txtQ q) := by rw [show ByteArray.mk #[45] = strB [45] from rfl, strB_append, Htx2.out]
   go_wp2_with fail
   go_ret
   exact ⟨rfl, hx1⟩
  ·
   have hdn : dn q.den = q.den := by simp [dn, hd]
   rw [hdn] at p2 HN2 ⊢
   have hlen : 0 < (dig b64 q.den).length := by
    rcases Nat.eq_zero_or_pos (dig b64 q.den).length with h | h
    ·
     exact absurd ((dig_nil_iff b64_two _).1 (List.eq_nil_of_length_eq_zero h)) (by have := q.den_pos; omega)
    ·
     exact h
   have tl : decide (0 < (dig b64 q.den).length) = true := decide_eq_true hlen
   have Htx2 : Hid (txtQ q = [45] ++ (decT q.num.natAbs ++ 47 :: decT q.den)) := by show _ = _; rw [Htx.out, if_pos Hneg.out, if_neg hd]
   have hz2 := decT_len q.den HS.out.2
   have HT2 := Lib.hid (text_any q.den _ _ HN2.out HS.out.2)
   have hcat2 : ByteArray.mk #[47] ++ strB (decT q.den) = strB (47 :: decT q.den) := by rw [show ByteArray.mk #[47] = strB [47] from rfl, strB_append]; rfl
   have hz3 : (strB (47 :: decT q.den)).size ≤ 1374389534721 := by rw [strB_size] at hz2 ⊢; rw [List.length_cons]; omega
   have hcat1 : ByteArray.mk #[45] ++ strB (decT q.num.natAbs) = strB (45 :: decT q.num.natAbs) := by rw [show ByteArray.mk #[45] = strB [45] from rfl, strB_append]; rfl
   have hcat3 : strB (45 :: decT q.num.natAbs) ++ strB (47 :: decT q.den) = strB (txtQ q) := by rw [strB_append, Htx2.out]; rfl
   have hz4 : (strB (45 :: decT q.num.natAbs)).size ≤ 1374389534721 := by rw [strB_size] at hz1 ⊢; rw [List.length_cons]; omega
   clear hd hdn Htx hlen HN2 N2
   go_wp2_with fail
   refine HT2.out.mono ?_
   rintro e w2 ⟨rfl, hb2⟩
   go_wp2_with fail
   go_ret
   exact ⟨rfl, ext_trans hx1 hb2⟩
 ·
  have tn : decide (q.num < 0) = false := decide_eq_false hneg
  have Hneg := Lib.hid hneg
  rw [tn] at p0 ⊢
  clear hneg tn
  by_cases hd : q.den = 1
  ·
   have hdn : dn q.den = 0 := by simp [dn, hd]
   rw [hdn] at p2 ⊢
   rw [dig_zero, List.length_nil] at p2 ⊢
   have Htx2 : Hid (txtQ q = decT q.num.natAbs) := by show _ = _; rw [Htx.out, if_neg Hneg.out, if_pos hd, List.append_nil]; rfl
   clear hd hdn Htx HN2 N2
   go_wp2_with fail
   go_ret
   exact ⟨by rw [Htx2.out]; rfl, hx1⟩
  ·
   have hdn : dn q.den = q.den := by simp [dn, hd]
   rw [hdn] at p2 HN2 ⊢
   have hlen : 0 < (dig b64 q.den).length := by
    rcases Nat.eq_zero_or_pos (dig b64 q.den).length with h | h
    ·
     exact absurd ((dig_nil_iff b64_two _).1 (List.eq_nil_of_length_eq_zero h)) (by have := q.den_pos; omega)
    ·
     exact h
   have tl : decide (0 < (dig b64 q.den).length) = true := decide_eq_true hlen
   have Htx2 : Hid (txtQ q = decT q.num.natAbs ++ 47 :: decT q.den) := by show _ = _; rw [Htx.out, if_neg Hneg.out, if_neg hd]; rfl
   have hz2 := decT_len q.den HS.out.2
   have HT2 := Lib.hid (text_any q.den _ _ HN2.out HS.out.2)
   have hcat2 : ByteArray.mk #[47] ++ strB (decT q.den) = strB (47 :: decT q.den) := by rw [show ByteArray.mk #[47] = strB [47] from rfl, strB_append]; rfl
   have hz3 : (strB (47 :: decT q.den)).size ≤ 1374389534721 := by rw [strB_size] at hz2 ⊢; rw [List.length_cons]; omega
   have hcat3 : strB (decT q.num.natAbs) ++ strB (47 :: decT q.den) = strB (txtQ q) := by rw [strB_append, Htx2.out]
   clear hd hdn Htx hlen HN2 N2
   go_wp2_with fail
   refine HT2.out.mono ?_
   rintro e w2 ⟨rfl, hb2⟩
   go_wp2_with fail
   go_ret
   exact ⟨rfl, ext_trans hx1 hb2⟩

end Go.Proofs.YthhnkobkdhjfgaaGreat

namespace Go.Proofs.YthhnkobkdhjfgaaGreat
open Go.RowKit

set_option maxHeartbeats 2000000 in
theorem negRat_any (x : Rat) (vx : Value) (w : World) (hx : IsRat w vx x) : Calls Tryz.prog 140 #[vx] w (RetRat (-x) w) := by
 obtain ⟨a1, c1, a2, c2, rfl, n1, n2⟩ := hx.opened
 have N1 := Lib.hid n1
 have N2 := Lib.hid n2
 have He := Lib.hid (neg_lt_num x)
 clear hx n1 n2
 go_enter Tryz.func140, Tryz.ntmps140
 go_wp2_with fail
 generalize hneg : decide (x.num < 0) = neg at *
 have hal : Below w.heap.size w ((w.alloc (.cells #[.bool neg, .slice a1 (dig b64 x.num.natAbs).length c1, .slice a2 (dig b64 (dn x.den)).length c2] 42)).alloc (.cells #[.bool false, .slice none 0 0, .slice none 0 0] 42)) :=
  ((Below.refl _ _).alloc (Nat.le_refl _) _).alloc (by simp) _
 have hB1 := (blk_keep (blk_new w #[.bool neg, .slice a1 (dig b64 x.num.natAbs).length c1, .slice a2 (dig b64 (dn x.den)).length c2] 42) ((Below.refl _ _).alloc (Nat.le_refl _) (.cells #[.bool false, .slice none 0 0, .slice none 0 0] 42)) (by simp))
 have hB2 := blk_new (w.alloc (.cells #[.bool neg, .slice a1 (dig b64 x.num.natAbs).length c1, .slice a2 (dig b64 (dn x.den)).length c2] 42)) #[.bool false, .slice none 0 0, .slice none 0 0] 42
 rw [World.size_alloc] at hB2
 generalize ((w.alloc (.cells #[.bool neg, .slice a1 (dig b64 x.num.natAbs).length c1, .slice a2 (dig b64 (dn x.den)).length c2] 42)).alloc (.cells #[.bool false, .slice none 0 0, .slice none 0 0] 42)) = W at *
 have p0 := blk_cell hB1 0 (.bool neg) rfl
 have p1 := blk_cell hB1 1 (.slice a1 (dig b64 x.num.natAbs).length c1) rfl
 have p2 := blk_cell hB1 2 (.slice a2 (dig b64 (dn x.den)).length c2) rfl
 have hl1 := blk_lt hB1
 have hl2 := blk_lt hB2
 have e0 := blk_cell hB2 0 (.bool false) rfl
 have e1 := blk_cell hB2 1 (.slice none 0 0) rfl
 have e2 := blk_cell hB2 2 (.slice none 0 0) rfl
 have f0 := blk_frozen hB2 0
 have f1 := blk_frozen hB2 1
 have f2 := blk_frozen hB2 2
 have HB : Hid (RB W (w.heap.size + 1)) := ⟨false, none, 0, 0, none, 0, 0, _, hB2⟩
 clear hB1 hB2
 have hW : Below w.heap.size w W.drew := hal.drew
 cases neg with
 | true =>
  go_region
  go_wp2_with fail
  refine bodyPost_ret (v := .agg #[.bool false, .slice a1 (dig b64 x.num.natAbs).length _, .slice a2 (dig b64 (dn x.den)).length _]) (by simp [results, Tryz.results140, go_sem, e0, e1, e2]; first | done | exact ⟨rfl, rfl⟩ | rfl) rfl ⟨_, rfl, ?_, below_store3 hW (by omega)⟩
  exact IsRat.stored (w := W.drew) HB.out (N1.out.below hW) (N2.out.below hW) He.out (natAbs_neg_num x)
 | false =>
  by_cases h0 : x.num.natAbs = 0
  ·
   have t0 : Hid (decide (x.num.natAbs = 0) = true) := decide_eq_true h0
   clear h0
   go_region_held3 (fun w' => Below w.heap.size w w' ∧ RB w' (w.heap.size + 1) ∧ w'.cell? ⟨w.heap.size, 0, none⟩ = some (.bool false) ∧ w'.cell? ⟨w.heap.size, 1, none⟩ = some (.slice a1 (dig b64 x.num.natAbs).length c1) ∧ w'.cell? ⟨w.heap.size, 2, none⟩ = some (.slice a2 (dig b64 (dn x.den)).length c2) ∧
     w'.cell? ⟨w.heap.size + 1, 0, none⟩ = some (cellOf w' ⟨w.heap.size + 1, 0, none⟩) ∧ w'.cell? ⟨w.heap.size + 1, 1, none⟩ = some (cellOf w' ⟨w.heap.size + 1, 1, none⟩) ∧ w'.cell? ⟨w.heap.size + 1, 2, none⟩ = some (cellOf w' ⟨w.heap.size + 1, 2, none⟩) ∧
     w'.frozen? ⟨w.heap.size + 1, 0, none⟩ = false ∧ w'.frozen? ⟨w.heap.size + 1, 1, none⟩ = false ∧ w'.frozen? ⟨w.heap.size + 1, 2, none⟩ = false)
    (first | exact hold3 hW p0 p1 p2 HB.out | exact hold3_call (Nat.le_refl _) hb' (by assumption) | exact hold3_store _ _ _ _ _ _ _ (Nat.le_succ _) (Nat.ne_of_lt (Nat.lt_succ_self _)) (by assumption) _ rfl)
    (first | (go_at_call 120; refine (zero_any _ _ x.num.natAbs _ _ _ _ _).mono ?_; rw [t0.out]; rintro e w' ⟨rfl, hb'⟩))
   have hRB := RB.keep (a := W.drew) HB.out hb' hl2
   obtain ⟨c0, c1, c2, f0', f1', f2'⟩ := hRB.cell
   have hx := hW.trans (hb'.mono hW.size)
   have hBl := hRB.lt
   go_wp2_with fail
   refine bodyPost_ret (v := .agg #[.bool false, .slice a1 (dig b64 x.num.natAbs).length _, .slice a2 (dig b64 (dn x.den)).length _]) (by simp [results, Tryz.results140, go_sem, c0, c1, c2]; first | done | exact ⟨rfl, rfl⟩ | rfl) rfl ⟨_, rfl, ?_, below_store3 hx (by omega)⟩
   exact IsRat.stored hRB (N1.out.below hx) (N2.out.below hx) (by rw [He.out, t0.out]; rfl) (natAbs_neg_num x)
  ·
   have t0 : Hid (decide (x.num.natAbs = 0) = false) := decide_eq_false h0
   clear h0
   go_region_held3 (fun w' => Below w.heap.size w w' ∧ RB w' (w.heap.size + 1) ∧ w'.cell? ⟨w.heap.size, 0, none⟩ = some (.bool false) ∧ w'.cell? ⟨w.heap.size, 1, none⟩ = some (.slice a1 (dig b64 x.num.natAbs).length c1) ∧ w'.cell? ⟨w.heap.size, 2, none⟩ = some (.slice a2 (dig b64 (dn x.den)).length c2) ∧
     w'.cell? ⟨w.heap.size + 1, 0, none⟩ = some (cellOf w' ⟨w.heap.size + 1, 0, none⟩) ∧ w'.cell? ⟨w.heap.size + 1, 1, none⟩ = some (cellOf w' ⟨w.heap.size + 1, 1, none⟩) ∧ w'.cell? ⟨w.heap.size + 1, 2, none⟩ = some (cellOf w' ⟨w.heap.size + 1, 2, none⟩) ∧
     w'.frozen? ⟨w.heap.size + 1, 0, none⟩ = false ∧ w'.frozen? ⟨w.heap.size + 1, 1, none⟩ = false ∧ w'.frozen? ⟨w.heap.size + 1, 2, none⟩ = false)
    (first | exact hold3 hW p0 p1 p2 HB.out | exact hold3_call (Nat.le_refl _) hb' (by assumption) | exact hold3_store _ _ _ _ _ _ _ (Nat.le_succ _) (Nat.ne_of_lt (Nat.lt_succ_self _)) (by assumption) _ rfl)
    (first | (go_at_call 120; refine (zero_any _ _ x.num.natAbs _ _ _ _ _).mono ?_; rw [t0.out]; rintro e w' ⟨rfl, hb'⟩))
   have hRB := RB.keep (a := W.drew) HB.out hb' hl2
   obtain ⟨c0, c1, c2, f0', f1', f2'⟩ := hRB.cell
   have hx := hW.trans (hb'.mono hW.size)
   have hBl := hRB.lt
   go_wp2_with fail
   refine bodyPost_ret (v := .agg #[.bool true, .slice a1 (dig b64 x.num.natAbs).length _, .slice a2 (dig b64 (dn x.den)).length _]) (by simp [results, Tryz.results140, go_sem, c0, c1, c2]; first | done | exact ⟨rfl, rfl⟩ | rfl) rfl ⟨_, rfl, ?_, below_store3 hx (by omega)⟩
   exact IsRat.stored hRB (N1.out.below hx) (N2.out.below hx) (by rw [He.out, t0.out]; rfl) (natAbs_neg_num x)

set_option maxRecDepth 100000 in
theorem method_neg (b : Bool) (x y : Option Addr) (i j k l : Nat) (w : World) : (method 397 42 (.agg #[.bool b, .slice x i j, .slice y k l]) "Neg").run Tryz.prog w = .ok (140, .agg #[.bool b, .slice x i j, .slice y k l]) w := by kernel_rfl
set_option maxRecDepth 100000 in
theorem method_add (b : Bool) (x y : Option Addr) (i j k l : Nat) (w : World) : (method 397 42 (.agg #[.bool b, .slice x i j, .slice y k l]) "Add").run Tryz.prog w = .ok (32, .agg #[.bool b, .slice x i j, .slice y k l]) w := by kernel_rfl

set_option maxRecDepth 100000 in
set_option maxHeartbeats 4000000 in
theorem lessRat_any (x y : Rat) (vx vy : Value) (w : World) (hx : IsRat w vx x) (hy : IsRat w vy y) (hlx : szR x 68719476736) (hly : szR y 68719476736) : Calls Tryz.prog 89 #[vx, vy] w (RetRat (x - y) w) := by
 have hy0 := hy
 obtain ⟨a1, c1, a2, c2, rfl, n1, n2⟩ := hx.opened
 obtain ⟨a3, c3, a4, c4, rfl, n3, n4⟩ := hy.opened
 have HX := Lib.hid hx
 have HY := Lib.hid hy
 have HLX := Lib.hid hlx
 have hln : szR (-y) 68719476736 := ⟨by rw [natAbs_neg_num]; exact hly.1, hly.2⟩
 have HLY := Lib.hid hln
 have He : Hid (x + -y = x - y) := (Rat.sub_eq_add_neg x y).symm
 clear hx hy n1 n2 n3 n4 hlx hly hln hy0
 have hmn := method_neg
 have hma := method_add
 go_enter Tryz.func89, Tryz.ntmps89
 go_wp2_with fail
 generalize hsx : decide (x.num < 0) = sx at *
 generalize hsy : decide (y.num < 0) = sy at *
 clear hsx hsy
 generalize hW0 : ((w.alloc (.cells #[.bool sx, .slice a1 (dig b64 x.num.natAbs).length c1, .slice a2 (dig b64 (dn x.den)).length c2] 42)).alloc (.cells #[.bool sy, .slice a3 (dig b64 y.num.natAbs).length c3, .slice a4 (dig b64 (dn y.den)).length c4] 42)).alloc (.cells #[.bool false, .slice none 0 0, .slice none 0 0] 42) = W at *
 obtain ⟨hal, hB1, hB2, hB3⟩ := boxes3 w _ _ _ _ W hW0.symm
 clear hW0
 have hW : Below w.heap.size w W.drew := hal.drew
 have p0 := blk_cell hB1 0 (.bool sx) rfl
 have p1 := blk_cell hB1 1 (.slice a1 (dig b64 x.num.natAbs).length c1) rfl
 have p2 := blk_cell hB1 2 (.slice a2 (dig b64 (dn x.den)).length c2) rfl
 have r0 := blk_cell hB2 0 (.bool sy) rfl
 have r1 := blk_cell hB2 1 (.slice a3 (dig b64 y.num.natAbs).length c3) rfl
 have r2 := blk_cell hB2 2 (.slice a4 (dig b64 (dn y.den)).length c4) rfl
 have HB : Hid (RB W (w.heap.size + 2)) := ⟨false, none, 0, 0, none, 0, 0, _, hB3⟩
 have hl3 := blk_lt hB3
 clear hB1 hB2 hB3
 go_region_held3 (fun w' => Below w.heap.size w w' ∧ RB w' (w.heap.size + 2) ∧ w'.cell? ⟨w.heap.size, 0, none⟩ = some (.bool sx) ∧ w'.cell? ⟨w.heap.size, 1, none⟩ = some (.slice a1 (dig b64 x.num.natAbs).length c1) ∧ w'.cell? ⟨w.heap.size, 2, none⟩ = some (.slice a2 (dig b64 (dn x.den)).length c2) ∧ w'.cell? ⟨w.heap.size + 1, 0, none⟩ = some (.bool sy) ∧ w'.cell? ⟨w.heap.size + 1, 1, none⟩ = some (.slice a3 (dig b64 y.num.natAbs).length c3) ∧ w'.cell? ⟨w.heap.size + 1, 2, none⟩ = some (.slice a4 (dig b64 (dn y.den)).length c4) ∧ w'.cell? ⟨w.heap.size + 2, 0, none⟩ = some (cellOf w' ⟨w.heap.size + 2, 0, none⟩) ∧ w'.cell? ⟨w.heap.size + 2, 1, none⟩ = some (cellOf w' ⟨w.heap.size + 2, 1, none⟩) ∧ w'.cell? ⟨w.heap.size + 2, 2, none⟩ = some (cellOf w' ⟨w.heap.size + 2, 2, none⟩) ∧ w'.frozen? ⟨w.heap.size + 2, 0, none⟩ = false ∧ w'.frozen? ⟨w.heap.size + 2, 1, none⟩ = false ∧ w'.frozen? ⟨w.heap.size + 2, 2, none⟩ = false)
  (first | exact hold6 hW p0 p1 p2 r0 r1 r2 HB.out | exact hold6_call (Nat.le_refl _) hbE (by assumption) | exact hold6_call (Nat.le_refl _) hbD (by assumption) | exact hold6_store _ _ _ _ _ _ _ (by omega) (by omega) (by omega) (by assumption) _ rfl)
  (first
   | (go_at_call 140; refine (negRat_any y _ _ (HY.out.below (And.left (by assumption)))).mono ?_; rintro e wD ⟨vD, rfl, hvD, hbD⟩)
   | (go_at_call 32; refine (addRat_any x (-y) _ _ _ (HX.out.below (And.left (by assumption))) hvD HLX.out HLY.out).mono ?_; rw [He.out]; rintro e wE ⟨vE, rfl, hvE, hbE⟩; obtain ⟨a5, c5, a6, c6, rfl, n5, n6⟩ := IsRat.opened hvE))
 have hE := ext_trans hbD hbE
 have hRB := RB.keep (a := W.drew) HB.out hE hl3
 obtain ⟨g0, g1, g2, f0', f1', f2'⟩ := hRB.cell
 have hx := hW.trans (hE.mono hW.size)
 have hBl := hRB.lt
 go_wp2_with fail
 refine bodyPost_ret (v := .agg #[.bool (decide ((x - y).num < 0)), .slice a5 (dig b64 (x - y).num.natAbs).length _, .slice a6 (dig b64 (dn (x - y).den)).length _]) (by simp [results, Tryz.results89, go_sem, g0, g1, g2]; first | done | exact ⟨rfl, rfl⟩ | rfl) rfl ⟨_, rfl, ?_, below_store3 hx (by omega)⟩
 exact IsRat.stored hRB n5 n6 rfl rfl

set_option maxRecDepth 100000 in
set_option maxHeartbeats 2000000 in
theorem subRat_any (x y : Rat) (vx vy : Value) (w : World) (hx : IsRat w vx x) (hy : IsRat w vy y) (hlx : szR x 68719476736) (hly : szR y 68719476736) : Calls Tryz.prog 34 #[vx, vy] w (RetRat (x - y) w) := by
 obtain ⟨a1, c1, a2, c2, rfl, n1, n2⟩ := hx.opened
 obtain ⟨a3, c3, a4, c4, rfl, n3, n4⟩ := hy.opened
 have HX := Lib.hid hx
 have HY := Lib.hid hy
 have HLX := Lib.hid hlx
 have HLY := Lib.hid hly
 clear hx hy n1 n2 n3 n4 hlx hly
 go_enter Tryz.func34, Tryz.ntmps34
 go_wp2_with fail
 generalize hW0 : ((w.alloc (.cells #[.bool (decide (x.num < 0)), .slice a1 (dig b64 x.num.natAbs).length c1, .slice a2 (dig b64 (dn x.den)).length c2] 42)).alloc (.cells #[.bool (decide (y.num < 0)), .slice a3 (dig b64 y.num.natAbs).length c3, .slice a4 (dig b64 (dn y.den)).length c4] 42)).alloc (.cells #[.bool false, .slice none 0 0, .slice none 0 0] 42) = W at *
 obtain ⟨hal, hB1, hB2, hB3⟩ := boxes3 w _ _ _ _ W hW0.symm
 clear hW0
 have HB : Hid (RB W (w.heap.size + 2)) := ⟨false, none, 0, 0, none, 0, 0, _, hB3⟩
 have hl3 := blk_lt hB3
 clear hB1 hB2 hB3
 refine (lessRat_any x y _ _ _ (HX.out.below hal) (HY.out.below hal) HLX.out HLY.out).mono ?_
 rintro e w3 ⟨v, rfl, hv, hb⟩
 have hRB := HB.out.keep hb hl3
 obtain ⟨a5, c5, a6, c6, rfl, n5, n6⟩ := IsRat.opened hv
 have hx := ext_trans hal hb
 obtain ⟨g0, g1, g2, f0', f1', f2'⟩ := hRB.cell
 have hBl := hRB.lt
 generalize x - y = q at *
 clear hv hb hal
 go_wp2_with fail
 refine bodyPost_ret (v := .agg #[.bool (decide (q.num < 0)), .slice a5 (dig b64 q.num.natAbs).length _, .slice a6 (dig b64 (dn q.den)).length _]) (by simp [results, Tryz.results34, go_sem, g0, g1, g2]; first | done | exact ⟨rfl, rfl⟩ | rfl) rfl ⟨_, rfl, ?_, below_store3 hx (by omega)⟩
 exact IsRat.stored hRB n5 n6 rfl rfl

end Go.Proofs.YthhnkobkdhjfgaaGreat

namespace Go.Proofs.YthhnkobkdhjfgaaGreat
open Go.RowKit

structure R3 where
 b : Bool
 a : Option Addr
 n : Nat
 c : Nat
 d : Option Addr
 m : Nat
 e : Nat
abbrev R3.arr (x : R3) : Array Value := #[.bool x.b, .slice x.a x.n x.c, .slice x.d x.m x.e]
abbrev R3.val (x : R3) : Value := .agg #[.bool x.b, .slice x.a x.n x.c, .slice x.d x.m x.e]
abbrev arr6 (x y : R3) : Array Value := #[.bool x.b, .slice x.a x.n x.c, .slice x.d x.m x.e, .bool y.b, .slice y.a y.n y.c, .slice y.d y.m y.e]
abbrev rngV (x y : R3) : Value := .agg #[.bool x.b, .slice x.a x.n x.c, .slice x.d x.m x.e, .bool y.b, .slice y.a y.n y.c, .slice y.d y.m y.e]
def r30 : R3 := ⟨false, none, 0, 0, none, 0, 0⟩
theorem IsRat.open3 {w : World} {v : Value} {q : Rat} (h : IsRat w v q) : ∃ x : R3, v = x.val := by
 obtain ⟨a1, c1, a2, c2, rfl, _, _⟩ := h.opened
 exact ⟨⟨_, _, _, _, _, _, _⟩, rfl⟩
def IsRng (w : World) (v : Value) (lo hi : Rat) : Prop := ∃ x y : R3, v = rngV x y ∧ IsRat w x.val lo ∧ IsRat w y.val hi
theorem IsRng.below {w w' : World} {v : Value} {lo hi : Rat} (h : IsRng w v lo hi) (hb : Below w.heap.size w w') : IsRng w' v lo hi := by
 obtain ⟨x, y, rfl, h1, h2⟩ := h
 exact ⟨x, y, rfl, h1.below hb, h2.below hb⟩
def RetRng (lo hi : Rat) (w : World) (e : Ending) (w' : World) : Prop := ∃ v, e = .returned v ∧ IsRng w' v lo hi ∧ Below w.heap.size w w'
def RetRngE (lo hi : Rat) (err : Int) (w : World) (e : Ending) (w' : World) : Prop := ∃ v, e = .returned (.tuple #[v, .int .i64 err]) ∧ IsRng w' v lo hi ∧ Below w.heap.size w w'
theorem bt {W a b : World} (h : Below W.heap.size W a) (hb : Below a.heap.size a b) : Below W.heap.size W b := h.trans (hb.mono h.size)
theorem IsRat.setj {w : World} {v : Value} {q : Rat} {B T : Nat} {cs : Array Value} (h : IsRat w v q) (hB : w.heap[B]? = some (.cells cs T (0, 0))) (hn : noInt cs) (j : Nat) (u : Value) : IsRat (w.setCell ⟨B, j, none⟩ u) v q := by
 obtain ⟨vn, vd, rfl, h1, h2⟩ := h
 exact ⟨vn, vd, rfl, IsRow.set_other h1 hB hn j u, IsRow.set_other h2 hB hn j u⟩
theorem ni3 (b1 : Bool) (a1 : Option Addr) (n1 c1 : Nat) (d1 : Option Addr) (m1 e1 : Nat) : noInt #[.bool b1, .slice a1 n1 c1, .slice d1 m1 e1] := by
 intro i k x
 match i with
 | 0 => simp
 | 1 => simp
 | 2 => simp
 | i + 3 => simp
theorem set3r {w : World} {B T : Nat} {p x : R3} (h : w.heap[B]? = some (.cells #[.bool p.b, .slice p.a p.n p.c, .slice p.d p.m p.e] T (0, 0))) : ((((w.setCell ⟨B, 0, none⟩ (.bool x.b)).setCell ⟨B, 1, none⟩ (.slice x.a x.n x.c)).setCell ⟨B, 2, none⟩ (.slice x.d x.m x.e))).heap[B]? = some (.cells #[.bool x.b, .slice x.a x.n x.c, .slice x.d x.m x.e] T (0, 0)) := by
 have h0 : (w.setCell ⟨B, 0, none⟩ (.bool x.b)).heap[B]? = some (.cells #[.bool x.b, .slice p.a p.n p.c, .slice p.d p.m p.e] T (0, 0)) := blk_set h 0 _
 have h1 : ((w.setCell ⟨B, 0, none⟩ (.bool x.b)).setCell ⟨B, 1, none⟩ (.slice x.a x.n x.c)).heap[B]? = some (.cells #[.bool x.b, .slice x.a x.n x.c, .slice p.d p.m p.e] T (0, 0)) := blk_set h0 1 _
 have h2 : (((w.setCell ⟨B, 0, none⟩ (.bool x.b)).setCell ⟨B, 1, none⟩ (.slice x.a x.n x.c)).setCell ⟨B, 2, none⟩ (.slice x.d x.m x.e)).heap[B]? = some (.cells #[.bool x.b, .slice x.a x.n x.c, .slice x.d x.m x.e] T (0, 0)) := blk_set h1 2 _
 exact h2
theorem IsRat.set3r {w : World} {v : Value} {r : Rat} {B T : Nat} {p x : R3} (i : IsRat w v r) (h : w.heap[B]? = some (.cells #[.bool p.b, .slice p.a p.n p.c, .slice p.d p.m p.e] T (0, 0))) : IsRat ((((w.setCell ⟨B, 0, none⟩ (.bool x.b)).setCell ⟨B, 1, none⟩ (.slice x.a x.n x.c)).setCell ⟨B, 2, none⟩ (.slice x.d x.m x.e))) v r := by
 have h0 : (w.setCell ⟨B, 0, none⟩ (.bool x.b)).heap[B]? = some (.cells #[.bool x.b, .slice p.a p.n p.c, .slice p.d p.m p.e] T (0, 0)) := blk_set h 0 _
 have h1 : ((w.setCell ⟨B, 0, none⟩ (.bool x.b)).setCell ⟨B, 1, none⟩ (.slice x.a x.n x.c)).heap[B]? = some (.cells #[.bool x.b, .slice x.a x.n x.c, .slice p.d p.m p.e] T (0, 0)) := blk_set h0 1 _
 have h2 : (((w.setCell ⟨B, 0, none⟩ (.bool x.b)).setCell ⟨B, 1, none⟩ (.slice x.a x.n x.c)).setCell ⟨B, 2, none⟩ (.slice x.d x.m x.e)).heap[B]? = some (.cells #[.bool x.b, .slice x.a x.n x.c, .slice x.d x.m x.e] T (0, 0)) := blk_set h1 2 _
 have i0 := i.setj h (by exact ni3 _ _ _ _ _ _ _) 0 (.bool x.b)
 have i1 := i0.setj h0 (by exact ni3 _ _ _ _ _ _ _) 1 (.slice x.a x.n x.c)
 have i2 := i1.setj h1 (by exact ni3 _ _ _ _ _ _ _) 2 (.slice x.d x.m x.e)
 exact i2
theorem below3r {n : Nat} {w0 w : World} {B : Nat} {x : R3} (h : Below n w0 w) (hB : n ≤ B) : Below n w0 ((((w.setCell ⟨B, 0, none⟩ (.bool x.b)).setCell ⟨B, 1, none⟩ (.slice x.a x.n x.c)).setCell ⟨B, 2, none⟩ (.slice x.d x.m x.e))) :=
 ((h.setCell (p := ⟨B, 0, none⟩) hB _).setCell (p := ⟨B, 1, none⟩) hB _).setCell (p := ⟨B, 2, none⟩) hB _
theorem fac3 {w : World} {B T : Nat} {x : R3} (h : w.heap[B]? = some (.cells #[.bool x.b, .slice x.a x.n x.c, .slice x.d x.m x.e] T (0, 0))) : w.cell? ⟨B, 0, none⟩ = some (.bool x.b) ∧ w.cell? ⟨B, 1, none⟩ = some (.slice x.a x.n x.c) ∧ w.cell? ⟨B, 2, none⟩ = some (.slice x.d x.m x.e) ∧ w.frozen? ⟨B, 0, none⟩ = false ∧ w.frozen? ⟨B, 1, none⟩ = false ∧ w.frozen? ⟨B, 2, none⟩ = false :=
 ⟨blk_cell h 0 _ rfl, blk_cell h 1 _ rfl, blk_cell h 2 _ rfl, blk_frozen h 0, blk_frozen h 1, blk_frozen h 2⟩
theorem ni6 (b1 : Bool) (a1 : Option Addr) (n1 c1 : Nat) (d1 : Option Addr) (m1 e1 : Nat) (b2 : Bool) (a2 : Option Addr) (n2 c2 : Nat) (d2 : Option Addr) (m2 e2 : Nat) : noInt #[.bool b1, .slice a1 n1 c1, .slice d1 m1 e1, .bool b2, .slice a2 n2 c2, .slice d2 m2 e2] := by
 intro i k x
 match i with
 | 0 => simp
 | 1 => simp
 | 2 => simp
 | 3 => simp
 | 4 => simp
 | 5 => simp
 | i + 6 => simp
theorem set6r {w : World} {B T : Nat} {p q x y : R3} (h : w.heap[B]? = some (.cells #[.bool p.b, .slice p.a p.n p.c, .slice p.d p.m p.e, .bool q.b, .slice q.a q.n q.c, .slice q.d q.m q.e] T (0, 0))) : (((((((w.setCell ⟨B, 0, none⟩ (.bool x.b)).setCell ⟨B, 1, none⟩ (.slice x.a x.n x.c)).setCell ⟨B, 2, none⟩ (.slice x.d x.m x.e)).setCell ⟨B, 3, none⟩ (.bool y.b)).setCell ⟨B, 4, none⟩ (.slice y.a y.n y.c)).setCell ⟨B, 5, none⟩ (.slice y.d y.m y.e))).heap[B]? = some (.cells #[.bool x.b, .slice x.a x.n x.c, .slice x.d x.m x.e, .bool y.b, .slice y.a y.n y.c, .slice y.d y.m y.e] T (0, 0)) := by
 have h0 : (w.setCell ⟨B, 0, none⟩ (.bool x.b)).heap[B]? = some (.cells #[.bool x.b, .slice p.a p.n p.c, .slice p.d p.m p.e, .bool q.b, .slice q.a q.n q.c, .slice q.d q.m q.e] T (0, 0)) := blk_set h 0 _
 have h1 : ((w.setCell ⟨B, 0, none⟩ (.bool x.b)).setCell ⟨B, 1, none⟩ (.slice x.a x.n x.c)).heap[B]? = some (.cells #[.bool x.b, .slice x.a x.n x.c, .slice p.d p.m p.e, .bool q.b, .slice q.a q.n q.c, .slice q.d q.m q.e] T (0, 0)) := blk_set h0 1 _
 have h2 : (((w.setCell ⟨B, 0, none⟩ (.bool x.b)).setCell ⟨B, 1, none⟩ (.slice x.a x.n x.c)).setCell ⟨B, 2, none⟩ (.slice x.d x.m x.e)).heap[B]? = some (.cells #[.bool x.b, .slice x.a x.n x.c, .slice x.d x.m x.e, .bool q.b, .slice q.a q.n q.c, .slice q.d q.m q.e] T (0, 0)) := blk_set h1 2 _
 have h3 : ((((w.setCell ⟨B, 0, none⟩ (.bool x.b)).setCell ⟨B, 1, none⟩ (.slice x.a x.n x.c)).setCell ⟨B, 2, none⟩ (.slice x.d x.m x.e)).setCell ⟨B, 3, none⟩ (.bool y.b)).heap[B]? = some (.cells #[.bool x.b, .slice x.a x.n x.c, .slice x.d x.m x.e, .bool y.b, .slice q.a q.n q.c, .slice q.d q.m q.e] T (0, 0)) := blk_set h2 3 _
 have h4 : (((((w.setCell ⟨B, 0, none⟩ (.bool x.b)).setCell ⟨B, 1, none⟩ (.slice x.a x.n x.c)).setCell ⟨B, 2, none⟩ (.slice x.d x.m x.e)).setCell ⟨B, 3, none⟩ (.bool y.b)).setCell ⟨B, 4, none⟩ (.slice y.a y.n y.c)).heap[B]? = some (.cells #[.bool x.b, .slice x.a x.n x.c, .slice x.d x.m x.e, .bool y.b, .slice y.a y.n y.c, .slice q.d q.m q.e] T (0, 0)) := blk_set h3 4 _
 have h5 : ((((((w.setCell ⟨B, 0, none⟩ (.bool x.b)).setCell ⟨B, 1, none⟩ (.slice x.a x.n x.c)).setCell ⟨B, 2, none⟩ (.slice x.d x.m x.e)).setCell ⟨B, 3, none⟩ (.bool y.b)).setCell ⟨B, 4, none⟩ (.slice y.a y.n y.c)).setCell ⟨B, 5, none⟩ (.slice y.d y.m y.e)).heap[B]? = some (.cells #[.bool x.b, .slice x.a x.n x.c, .slice x.d x.m x.e, .bool y.b, .slice y.a y.n y.c, .slice y.d y.m y.e] T (0, 0)) := blk_set h4 5 _
 exact h5
theorem IsRat.set6r {w : World} {v : Value} {r : Rat} {B T : Nat} {p q x y : R3} (i : IsRat w v r) (h : w.heap[B]? = some (.cells #[.bool p.b, .slice p.a p.n p.c, .slice p.d p.m p.e, .bool q.b, .slice q.a q.n q.c, .slice q.d q.m q.e] T (0, 0))) : IsRat (((((((w.setCell ⟨B, 0, none⟩ (.bool x.b)).setCell ⟨B, 1, none⟩ (.slice x.a x.n x.c)).setCell ⟨B, 2, none⟩ (.slice x.d x.m x.e)).setCell ⟨B, 3, none⟩ (.bool y.b)).setCell ⟨B, 4, none⟩ (.slice y.a y.n y.c)).setCell ⟨B, 5, none⟩ (.slice y.d y.m y.e))) v r := by
 have h0 : (w.setCell ⟨B, 0, none⟩ (.bool x.b)).heap[B]? = some (.cells #[.bool x.b, .slice p.a p.n p.c, .slice p.d p.m p.e, .bool q.b, .slice q.a q.n q.c, .slice q.d q.m q.e] T (0, 0)) := blk_set h 0 _
 have h1 : ((w.setCell ⟨B, 0, none⟩ (.bool x.b)).setCell ⟨B, 1, none⟩ (.slice x.a x.n x.c)).heap[B]? = some (.cells #[.bool x.b, .slice x.a x.n x.c, .slice p.d p.m p.e, .bool q.b, .slice q.a q.n q.c, .slice q.d q.m q.e] T (0, 0)) := blk_set h0 1 _
 have h2 : (((w.setCell ⟨B, 0, none⟩ (.bool x.b)).setCell ⟨B, 1, none⟩ (.slice x.a x.n x.c)).setCell ⟨B, 2, none⟩ (.slice x.d x.m x.e)).heap[B]? = some (.cells #[.bool x.b, .slice x.a x.n x.c, .slice x.d x.m x.e, .bool q.b, .slice q.a q.n q.c, .slice q.d q.m q.e] T (0, 0)) := blk_set h1 2 _
 have h3 : ((((w.setCell ⟨B, 0, none⟩ (.bool x.b)).setCell ⟨B, 1, none⟩ (.slice x.a x.n x.c)).setCell ⟨B, 2, none⟩ (.slice x.d x.m x.e)).setCell ⟨B, 3, none⟩ (.bool y.b)).heap[B]? = some (.cells #[.bool x.b, .slice x.a x.n x.c, .slice x.d x.m x.e, .bool y.b, .slice q.a q.n q.c, .slice q.d q.m q.e] T (0, 0)) := blk_set h2 3 _
 have h4 : (((((w.setCell ⟨B, 0, none⟩ (.bool x.b)).setCell ⟨B, 1, none⟩ (.slice x.a x.n x.c)).setCell ⟨B, 2, none⟩ (.slice x.d x.m x.e)).setCell ⟨B, 3, none⟩ (.bool y.b)).setCell ⟨B, 4, none⟩ (.slice y.a y.n y.c)).heap[B]? = some (.cells #[.bool x.b, .slice x.a x.n x.c, .slice x.d x.m x.e, .bool y.b, .slice y.a y.n y.c, .slice q.d q.m q.e] T (0, 0)) := blk_set h3 4 _
 have h5 : ((((((w.setCell ⟨B, 0, none⟩ (.bool x.b)).setCell ⟨B, 1, none⟩ (.slice x.a x.n x.c)).setCell ⟨B, 2, none⟩ (.slice x.d x.m x.e)).setCell ⟨B, 3, none⟩ (.bool y.b)).setCell ⟨B, 4, none⟩ (.slice y.a y.n y.c)).setCell ⟨B, 5, none⟩ (.slice y.d y.m y.e)).heap[B]? = some (.cells #[.bool x.b, .slice x.a x.n x.c, .slice x.d x.m x.e, .bool y.b, .slice y.a y.n y.c, .slice y.d y.m y.e] T (0, 0)) := blk_set h4 5 _
 have i0 := i.setj h (by exact ni6 _ _ _ _ _ _ _ _ _ _ _ _ _ _) 0 (.bool x.b)
 have i1 := i0.setj h0 (by exact ni6 _ _ _ _ _ _ _ _ _ _ _ _ _ _) 1 (.slice x.a x.n x.c)
 have i2 := i1.setj h1 (by exact ni6 _ _ _ _ _ _ _ _ _ _ _ _ _ _) 2 (.slice x.d x.m x.e)
 have i3 := i2.setj h2 (by exact ni6 _ _ _ _ _ _ _ _ _ _ _ _ _ _) 3 (.bool y.b)
 have i4 := i3.setj h3 (by exact ni6 _ _ _ _ _ _ _ _ _ _ _ _ _ _) 4 (.slice y.a y.n y.c)
 have i5 := i4.setj h4 (by exact ni6 _ _ _ _ _ _ _ _ _ _ _ _ _ _) 5 (.slice y.d y.m y.e)
 exact i5
theorem below6r {n : Nat} {w0 w : World} {B : Nat} {x y : R3} (h : Below n w0 w) (hB : n ≤ B) : Below n w0 (((((((w.setCell ⟨B, 0, none⟩ (.bool x.b)).setCell ⟨B, 1, none⟩ (.slice x.a x.n x.c)).setCell ⟨B, 2, none⟩ (.slice x.d x.m x.e)).setCell ⟨B, 3, none⟩ (.bool y.b)).setCell ⟨B, 4, none⟩ (.slice y.a y.n y.c)).setCell ⟨B, 5, none⟩ (.slice y.d y.m y.e))) :=
 (((((h.setCell (p := ⟨B, 0, none⟩) hB _).setCell (p := ⟨B, 1, none⟩) hB _).setCell (p := ⟨B, 2, none⟩) hB _).setCell (p := ⟨B, 3, none⟩) hB _).setCell (p := ⟨B, 4, none⟩) hB _).setCell (p := ⟨B, 5, none⟩) hB _
theorem fac6 {w : World} {B T : Nat} {x y : R3} (h : w.heap[B]? = some (.cells #[.bool x.b, .slice x.a x.n x.c, .slice x.d x.m x.e, .bool y.b, .slice y.a y.n y.c, .slice y.d y.m y.e] T (0, 0))) : w.cell? ⟨B, 0, none⟩ = some (.bool x.b) ∧ w.cell? ⟨B, 1, none⟩ = some (.slice x.a x.n x.c) ∧ w.cell? ⟨B, 2, none⟩ = some (.slice x.d x.m x.e) ∧ w.cell? ⟨B, 3, none⟩ = some (.bool y.b) ∧ w.cell? ⟨B, 4, none⟩ = some (.slice y.a y.n y.c) ∧ w.cell? ⟨B, 5, none⟩ = some (.slice y.d y.m y.e) ∧ w.frozen? ⟨B, 0, none⟩ = false ∧ w.frozen? ⟨B, 1, none⟩ = false ∧ w.frozen? ⟨B, 2, none⟩ = false ∧ w.frozen? ⟨B, 3, none⟩ = false ∧ w.frozen? ⟨B, 4, none⟩ = false ∧ w.frozen? ⟨B, 5, none⟩ = false :=
 ⟨blk_cell h 0 _ rfl, blk_cell h 1 _ rfl, blk_cell h 2 _ rfl, blk_cell h 3 _ rfl, blk_cell h 4 _ rfl, blk_cell h 5 _ rfl, blk_frozen h 0, blk_frozen h 1, blk_frozen h 2, blk_frozen h 3, blk_frozen h 4, blk_frozen h 5⟩
set_option maxRecDepth 100000 in
set_option maxHeartbeats 1000000 in
theorem rlo_any (lo hi : Rat) (v : Value) (w : World) (h : IsRng w v lo hi) : Calls Tryz.prog 61 #[v] w (RetRat lo w) := by
 obtain ⟨x, y, rfl, h1, h2⟩ := h
 have H1 := Lib.hid h1
 clear h1
 clear h2
 go_enter Tryz.func61, Tryz.ntmps61
 go_wp2_with fail
 refine bodyPost_ret (v := x.val) (by simp [results, Tryz.results61, go_sem]) rfl ⟨_, rfl, H1.out.below (below2 _ _ _), below2 _ _ _⟩
set_option maxRecDepth 100000 in
set_option maxHeartbeats 1000000 in
theorem rhi_any (lo hi : Rat) (v : Value) (w : World) (h : IsRng w v lo hi) : Calls Tryz.prog 69 #[v] w (RetRat hi w) := by
 obtain ⟨x, y, rfl, h1, h2⟩ := h
 have H1 := Lib.hid h2
 clear h2
 clear h1
 go_enter Tryz.func69, Tryz.ntmps69
 go_wp2_with fail
 refine bodyPost_ret (v := y.val) (by simp [results, Tryz.results69, go_sem]) rfl ⟨_, rfl, H1.out.below (below2 _ _ _), below2 _ _ _⟩
set_option maxRecDepth 100000 in
set_option maxHeartbeats 1000000 in
theorem only_any (q : Rat) (v : Value) (w : World) (h : IsRat w v q) : Calls Tryz.prog 28 #[v] w (RetRng q q w) := by
 obtain ⟨x, rfl⟩ := h.open3
 have H1 := Lib.hid h
 clear h
 go_enter Tryz.func28, Tryz.ntmps28
 go_wp2_with fail
 refine bodyPost_ret (v := rngV x x) (by simp [results, Tryz.results28, go_sem]) rfl ⟨_, rfl, ⟨x, x, rfl, H1.out.below (below2 _ _ _), H1.out.below (below2 _ _ _)⟩, below2 _ _ _⟩
set_option maxRecDepth 100000 in
set_option maxHeartbeats 1000000 in
theorem one_any (w : World) : Calls Tryz.prog 105 #[] w (RetRat 1 w) := by
 go_enter Tryz.func105, Tryz.ntmps105
 go_wp2_with fail
 refine (int_any 1 _ (by omega) (by omega)).mono ?_
 rintro e w1 ⟨v, rfl, hv, hb⟩
 have E : Hid (w1.heap[w.heap.size]? = some (.cells r30.arr 42 (0, 0))) := blk_keep (blk_new w _ _) hb (by rw [World.size_alloc]; omega)
 have HB := Lib.hid (bt (below1 w _) hb)
 have hv' : IsRat w1 v 1 := hv
 obtain ⟨x, rfl⟩ := hv'.open3
 have HV := Lib.hid hv'
 clear hv hv' hb
 obtain ⟨g0, g1, g2, f0, f1, f2⟩ := fac3 (x := r30) E.out
 go_wp2_with fail
 obtain ⟨h0, h1, h2, _, _, _⟩ := fac3 (x := x) (set3r (x := x) E.out)
 refine bodyPost_ret (v := x.val) (by simp [results, Tryz.results105, go_sem, h0, h1, h2]) rfl ⟨_, rfl, IsRat.set3r HV.out E.out, below3r HB.out (by omega)⟩
theorem boxesF (w : World) (x y : R3) (cs : Array Value) (T : Nat) (W : World) (hW : W = ((w.alloc (.cells x.arr 42)).alloc (.cells y.arr 42)).alloc (.cells cs T)) :
  Below w.heap.size w W ∧ W.heap[w.heap.size]? = some (.cells x.arr 42 (0, 0)) ∧ W.heap[w.heap.size + 1]? = some (.cells y.arr 42 (0, 0)) ∧ W.heap[w.heap.size + 1 + 1]? = some (.cells cs T (0, 0)) ∧ W.heap.size = w.heap.size + 3 := by
 subst hW
 have e1 : (w.alloc (.cells x.arr 42)).heap.size = w.heap.size + 1 := World.size_alloc ..
 have e2 : ((w.alloc (.cells x.arr 42)).alloc (.cells y.arr 42)).heap.size = w.heap.size + 1 + 1 := by rw [World.size_alloc, e1]
 have a1 := blk_new w x.arr 42
 have a2 := blk_new (w.alloc (.cells x.arr 42)) y.arr 42
 have a3 := blk_new ((w.alloc (.cells x.arr 42)).alloc (.cells y.arr 42)) cs T
 rw [e1] at a2
 rw [e2] at a3
 have a1' := (heap_alloc_old _ (.cells y.arr 42) (blk_lt a1)).trans a1
 exact ⟨ba (below2 _ _ _), (heap_alloc_old _ _ (blk_lt a1')).trans a1', (heap_alloc_old _ _ (blk_lt a2)).trans a2, a3, by rw [World.size_alloc, e2]⟩
set_option maxRecDepth 100000 in
set_option maxHeartbeats 1000000 in
theorem make_any (lo hi : Rat) (vx vy : Value) (w : World) (hx : IsRat w vx lo) (hy : IsRat w vy hi) (hlx : szR lo 274877906944) (hly : szR hi 274877906944) (hc : cmpR lo hi ≤ 0) :
  Calls Tryz.prog 150 #[vx, vy] w (RetRngE lo hi 0 w) := by
 obtain ⟨x, rfl⟩ := hx.open3
 obtain ⟨y, rfl⟩ := hy.open3
 have HX := Lib.hid hx
 have HY := Lib.hid hy
 have HLX := Lib.hid hlx
 have HLY := Lib.hid hly
 clear hx hy hlx hly
 have hc' : decide (cmpR lo hi > 0) = false := decide_eq_false (by omega)
 clear hc
 go_enter Tryz.func150, Tryz.ntmps150
 go_wp2_with fail
 generalize hW0 : ((w.alloc (.cells x.arr 42)).alloc (.cells y.arr 42)).alloc (.cells _ _) = W at *
 obtain ⟨hal, hB1, hB2, hB3, hWs⟩ := boxesF w _ _ _ _ W hW0.symm
 have HAL := Lib.hid hal
 have HB1 := Lib.hid hB1
 have HB2 := Lib.hid hB2
 have HB3 := Lib.hid hB3
 clear hW0 hal hB1 hB2 hB3 hWs
 refine (cmpRat_any lo hi _ _ _ (HX.out.below HAL.out) (HY.out.below HAL.out) HLX.out HLY.out).mono ?_
 rintro e w1 ⟨rfl, hb⟩
 have D1 := Lib.hid (blk_keep HB1.out hb (blk_lt HB1.out))
 have D2 := Lib.hid (blk_keep HB2.out hb (blk_lt HB2.out))
 have E : Hid (w1.heap[w.heap.size + 1 + 1]? = some (.cells (arr6 r30 r30) 86 (0, 0))) := blk_keep HB3.out hb (blk_lt HB3.out)
 have HB := Lib.hid (bt HAL.out hb)
 have HX1 := Lib.hid (HX.out.below HB.out)
 have HY1 := Lib.hid (HY.out.below HB.out)
 obtain ⟨k0, k1, k2, _, _, _⟩ := fac3 (x := x) D1.out
 obtain ⟨l0, l1, l2, _, _, _⟩ := fac3 (x := y) D2.out
 generalize cmpR lo hi = c at *
 clear hb
 obtain ⟨g0, g1, g2, g3, g4, g5, f0, f1, f2, f3, f4, f5⟩ := fac6 (x := r30) (y := r30) E.out
 go_wp2_with fail
 obtain ⟨h0, h1, h2, h3, h4, h5, _, _, _, _, _, _⟩ := fac6 (x := x) (y := y) (set6r (x := x) (y := y) E.out)
 refine bodyPost_ret (v := (.tuple #[rngV x y, .int .i64 0])) (by simp [results, Tryz.results150, go_sem, h0, h1, h2, h3, h4, h5]) rfl ⟨_, rfl, ⟨x, y, rfl, IsRat.set6r HX1.out E.out, IsRat.set6r HY1.out E.out⟩, below6r HB.out (by omega)⟩
set_option maxRecDepth 100000 in
set_option maxHeartbeats 1000000 in
theorem span_any (lo hi : Rat) (vx vy : Value) (w : World) (hx : IsRat w vx lo) (hy : IsRat w vy hi) (hlx : szR lo 274877906944) (hly : szR hi 274877906944) (hc : cmpR lo hi ≤ 0) :
  Calls Tryz.prog 106 #[vx, vy] w (RetRng lo hi w) := by
 obtain ⟨x, rfl⟩ := hx.open3
 obtain ⟨y, rfl⟩ := hy.open3
 have HX := Lib.hid hx
 have HY := Lib.hid hy
 have HLX := Lib.hid hlx
 have HLY := Lib.hid hly
 have HC := Lib.hid hc
 clear hx hy hlx hly hc
 go_enter Tryz.func106, Tryz.ntmps106
 go_wp2_with fail
 generalize hW0 : ((w.alloc (.cells x.arr 42)).alloc (.cells y.arr 42)).alloc (.cells _ _) = W at *
 obtain ⟨hal, hB1, hB2, hB3, hWs⟩ := boxesF w _ _ _ _ W hW0.symm
 have HAL := Lib.hid hal
 have HB1 := Lib.hid hB1
 have HB2 := Lib.hid hB2
 have HB3 := Lib.hid hB3
 clear hW0 hal hB1 hB2 hB3 hWs
 refine (make_any lo hi _ _ _ (HX.out.below HAL.out) (HY.out.below HAL.out) HLX.out HLY.out HC.out).mono ?_
 rintro e w1 ⟨v, rfl, ⟨x', y', rfl, hv1, hv2⟩, hb⟩
 have D1 := Lib.hid (blk_keep HB1.out hb (blk_lt HB1.out))
 have D2 := Lib.hid (blk_keep HB2.out hb (blk_lt HB2.out))
 have E : Hid (w1.heap[w.heap.size + 1 + 1]? = some (.cells (arr6 r30 r30) 86 (0, 0))) := blk_keep HB3.out hb (blk_lt HB3.out)
 have HB := Lib.hid (bt HAL.out hb)
 have E4 := Lib.hid ((heap_alloc_old _ (.cells (arr6 x' y') 86) (blk_lt E.out)).trans E.out)
 have HV1 := Lib.hid (hv1.below (below1 _ (.cells (arr6 x' y') 86)))
 have HV2 := Lib.hid (hv2.below (below1 _ (.cells (arr6 x' y') 86)))
 clear hb hv1 hv2
 obtain ⟨g0, g1, g2, g3, g4, g5, f0, f1, f2, f3, f4, f5⟩ := fac6 (x := r30) (y := r30) E4.out
 go_wp2_with fail
 obtain ⟨h0, h1, h2, h3, h4, h5, _, _, _, _, _, _⟩ := fac6 (x := x') (y := y') (set6r (x := x') (y := y') E4.out)
 refine bodyPost_ret (v := (rngV x' y')) (by simp [results, Tryz.results106, go_sem, h0, h1, h2, h3, h4, h5]) rfl ⟨_, rfl, ⟨x', y', rfl, IsRat.set6r HV1.out E4.out, IsRat.set6r HV2.out E4.out⟩, below6r (ba HB.out) (by omega)⟩
end Go.Proofs.YthhnkobkdhjfgaaGreat

namespace Go.Proofs.YthhnkobkdhjfgaaGreat
open Go.RowKit

theorem one_szR (k : Nat) (hk : 1 ≤ k) : szR 1 k := ⟨Nat.le_trans (by decide +kernel) hk, Nat.le_trans (by decide +kernel) hk⟩
theorem kd1 {n : Nat} {W a b : World} {B0 j0 : Nat} {v0 : Value} (hn : n ≤ W.heap.size) (hb : Below a.heap.size a b) (h : Below n W a ∧ a.cell? ⟨B0, j0, none⟩ = some (v0)) : Below n W b ∧ b.cell? ⟨B0, j0, none⟩ = some (v0) := by
 obtain ⟨h0, k0⟩ := h
 have e : ∀ B j v, a.cell? ⟨B, j, none⟩ = some v → b.cell? ⟨B, j, none⟩ = some v := fun B j v h => (hb.cell (p := ⟨B, j, none⟩) (World.block_lt_of_cell? (h := h))).trans h
 have hs := h0.size
 exact ⟨h0.trans (hb.mono (by omega)), e _ _ _ k0⟩
theorem ks1 {n B : Nat} {W a b : World} {B0 j0 : Nat} {v0 : Value} (hn : n ≤ B) (l0 : B0 < B) (hb : Below B a b) (h : Below n W a ∧ a.cell? ⟨B0, j0, none⟩ = some (v0)) : Below n W b ∧ b.cell? ⟨B0, j0, none⟩ = some (v0) := by
 obtain ⟨h0, k0⟩ := h
 have e : ∀ B' j v, B' < B → a.cell? ⟨B', j, none⟩ = some v → b.cell? ⟨B', j, none⟩ = some v := fun B' j v hl h => (hb.cell (p := ⟨B', j, none⟩) hl).trans h
 exact ⟨h0.trans (hb.mono hn), e _ _ _ l0 k0⟩
theorem kd2 {n : Nat} {W a b : World} {B0 j0 B1 j1 : Nat} {v0 v1 : Value} (hn : n ≤ W.heap.size) (hb : Below a.heap.size a b) (h : Below n W a ∧ a.cell? ⟨B0, j0, none⟩ = some (v0) ∧ a.cell? ⟨B1, j1, none⟩ = some (v1)) : Below n W b ∧ b.cell? ⟨B0, j0, none⟩ = some (v0) ∧ b.cell? ⟨B1, j1, none⟩ = some (v1) := by
 obtain ⟨h0, k0, k1⟩ := h
 have e : ∀ B j v, a.cell? ⟨B, j, none⟩ = some v → b.cell? ⟨B, j, none⟩ = some v := fun B j v h => (hb.cell (p := ⟨B, j, none⟩) (World.block_lt_of_cell? (h := h))).trans h
 have hs := h0.size
 exact ⟨h0.trans (hb.mono (by omega)), e _ _ _ k0, e _ _ _ k1⟩
theorem kd6 {n : Nat} {W a b : World} {B0 j0 B1 j1 B2 j2 B3 j3 B4 j4 B5 j5 : Nat} {v0 v1 v2 v3 v4 v5 : Value} (hn : n ≤ W.heap.size) (hb : Below a.heap.size a b) (h : Below n W a ∧ a.cell? ⟨B0, j0, none⟩ = some (v0) ∧ a.cell? ⟨B1, j1, none⟩ = some (v1) ∧ a.cell? ⟨B2, j2, none⟩ = some (v2) ∧ a.cell? ⟨B3, j3, none⟩ = some (v3) ∧ a.cell? ⟨B4, j4, none⟩ = some (v4) ∧ a.cell? ⟨B5, j5, none⟩ = some (v5)) : Below n W b ∧ b.cell? ⟨B0, j0, none⟩ = some (v0) ∧ b.cell? ⟨B1, j1, none⟩ = some (v1) ∧ b.cell? ⟨B2, j2, none⟩ = some (v2) ∧ b.cell? ⟨B3, j3, none⟩ = some (v3) ∧ b.cell? ⟨B4, j4, none⟩ = some (v4) ∧ b.cell? ⟨B5, j5, none⟩ = some (v5) := by
 obtain ⟨h0, k0, k1, k2, k3, k4, k5⟩ := h
 have e : ∀ B j v, a.cell? ⟨B, j, none⟩ = some v → b.cell? ⟨B, j, none⟩ = some v := fun B j v h => (hb.cell (p := ⟨B, j, none⟩) (World.block_lt_of_cell? (h := h))).trans h
 have hs := h0.size
 exact ⟨h0.trans (hb.mono (by omega)), e _ _ _ k0, e _ _ _ k1, e _ _ _ k2, e _ _ _ k3, e _ _ _ k4, e _ _ _ k5⟩
theorem ks6 {n B : Nat} {W a b : World} {B0 j0 B1 j1 B2 j2 B3 j3 B4 j4 B5 j5 : Nat} {v0 v1 v2 v3 v4 v5 : Value} (hn : n ≤ B) (l0 : B0 < B) (l1 : B1 < B) (l2 : B2 < B) (l3 : B3 < B) (l4 : B4 < B) (l5 : B5 < B) (hb : Below B a b) (h : Below n W a ∧ a.cell? ⟨B0, j0, none⟩ = some (v0) ∧ a.cell? ⟨B1, j1, none⟩ = some (v1) ∧ a.cell? ⟨B2, j2, none⟩ = some (v2) ∧ a.cell? ⟨B3, j3, none⟩ = some (v3) ∧ a.cell? ⟨B4, j4, none⟩ = some (v4) ∧ a.cell? ⟨B5, j5, none⟩ = some (v5)) : Below n W b ∧ b.cell? ⟨B0, j0, none⟩ = some (v0) ∧ b.cell? ⟨B1, j1, none⟩ = some (v1) ∧ b.cell? ⟨B2, j2, none⟩ = some (v2) ∧ b.cell? ⟨B3, j3, none⟩ = some (v3) ∧ b.cell? ⟨B4, j4, none⟩ = some (v4) ∧ b.cell? ⟨B5, j5, none⟩ = some (v5) := by
 obtain ⟨h0, k0, k1, k2, k3, k4, k5⟩ := h
 have e : ∀ B' j v, B' < B → a.cell? ⟨B', j, none⟩ = some v → b.cell? ⟨B', j, none⟩ = some v := fun B' j v hl h => (hb.cell (p := ⟨B', j, none⟩) hl).trans h
 exact ⟨h0.trans (hb.mono hn), e _ _ _ l0 k0, e _ _ _ l1 k1, e _ _ _ l2 k2, e _ _ _ l3 k3, e _ _ _ l4 k4, e _ _ _ l5 k5⟩
theorem kd12 {n : Nat} {W a b : World} {B0 j0 B1 j1 B2 j2 B3 j3 B4 j4 B5 j5 B6 j6 B7 j7 B8 j8 B9 j9 B10 j10 B11 j11 : Nat} {v0 v1 v2 v3 v4 v5 v6 v7 v8 v9 v10 v11 : Value} (hn : n ≤ W.heap.size) (hb : Below a.heap.size a b) (h : Below n W a ∧ a.cell? ⟨B0, j0, none⟩ = some (v0) ∧ a.cell? ⟨B1, j1, none⟩ = some (v1) ∧ a.cell? ⟨B2, j2, none⟩ = some (v2) ∧ a.cell? ⟨B3, j3, none⟩ = some (v3) ∧ a.cell? ⟨B4, j4, none⟩ = some (v4) ∧ a.cell? ⟨B5, j5, none⟩ = some (v5) ∧ a.cell? ⟨B6, j6, none⟩ = some (v6) ∧ a.cell? ⟨B7, j7, none⟩ = some (v7) ∧ a.cell? ⟨B8, j8, none⟩ = some (v8) ∧ a.cell? ⟨B9, j9, none⟩ = some (v9) ∧ a.cell? ⟨B10, j10, none⟩ = some (v10) ∧ a.cell? ⟨B11, j11, none⟩ = some (v11)) : Below n W b ∧ b.cell? ⟨B0, j0, none⟩ = some (v0) ∧ b.cell? ⟨B1, j1, none⟩ = some (v1) ∧ b.cell? ⟨B2, j2, none⟩ = some (v2) ∧ b.cell? ⟨B3, j3, none⟩ = some (v3) ∧ b.cell? ⟨B4, j4, none⟩ = some (v4) ∧ b.cell? ⟨B5, j5, none⟩ = some (v5) ∧ b.cell? ⟨B6, j6, none⟩ = some (v6) ∧ b.cell? ⟨B7, j7, none⟩ = some (v7) ∧ b.cell? ⟨B8, j8, none⟩ = some (v8) ∧ b.cell? ⟨B9, j9, none⟩ = some (v9) ∧ b.cell? ⟨B10, j10, none⟩ = some (v10) ∧ b.cell? ⟨B11, j11, none⟩ = some (v11) := by
 obtain ⟨h0, k0, k1, k2, k3, k4, k5, k6, k7, k8, k9, k10, k11⟩ := h
 have e : ∀ B j v, a.cell? ⟨B, j, none⟩ = some v → b.cell? ⟨B, j, none⟩ = some v := fun B j v h => (hb.cell (p := ⟨B, j, none⟩) (World.block_lt_of_cell? (h := h))).trans h
 have hs := h0.size
 exact ⟨h0.trans (hb.mono (by omega)), e _ _ _ k0, e _ _ _ k1, e _ _ _ k2, e _ _ _ k3, e _ _ _ k4, e _ _ _ k5, e _ _ _ k6, e _ _ _ k7, e _ _ _ k8, e _ _ _ k9, e _ _ _ k10, e _ _ _ k11⟩
theorem ks12 {n B : Nat} {W a b : World} {B0 j0 B1 j1 B2 j2 B3 j3 B4 j4 B5 j5 B6 j6 B7 j7 B8 j8 B9 j9 B10 j10 B11 j11 : Nat} {v0 v1 v2 v3 v4 v5 v6 v7 v8 v9 v10 v11 : Value} (hn : n ≤ B) (l0 : B0 < B) (l1 : B1 < B) (l2 : B2 < B) (l3 : B3 < B) (l4 : B4 < B) (l5 : B5 < B) (l6 : B6 < B) (l7 : B7 < B) (l8 : B8 < B) (l9 : B9 < B) (l10 : B10 < B) (l11 : B11 < B) (hb : Below B a b) (h : Below n W a ∧ a.cell? ⟨B0, j0, none⟩ = some (v0) ∧ a.cell? ⟨B1, j1, none⟩ = some (v1) ∧ a.cell? ⟨B2, j2, none⟩ = some (v2) ∧ a.cell? ⟨B3, j3, none⟩ = some (v3) ∧ a.cell? ⟨B4, j4, none⟩ = some (v4) ∧ a.cell? ⟨B5, j5, none⟩ = some (v5) ∧ a.cell? ⟨B6, j6, none⟩ = some (v6) ∧ a.cell? ⟨B7, j7, none⟩ = some (v7) ∧ a.cell? ⟨B8, j8, none⟩ = some (v8) ∧ a.cell? ⟨B9, j9, none⟩ = some (v9) ∧ a.cell? ⟨B10, j10, none⟩ = some (v10) ∧ a.cell? ⟨B11, j11, none⟩ = some (v11)) : Below n W b ∧ b.cell? ⟨B0, j0, none⟩ = some (v0) ∧ b.cell? ⟨B1, j1, none⟩ = some (v1) ∧ b.cell? ⟨B2, j2, none⟩ = some (v2) ∧ b.cell? ⟨B3, j3, none⟩ = some (v3) ∧ b.cell? ⟨B4, j4, none⟩ = some (v4) ∧ b.cell? ⟨B5, j5, none⟩ = some (v5) ∧ b.cell? ⟨B6, j6, none⟩ = some (v6) ∧ b.cell? ⟨B7, j7, none⟩ = some (v7) ∧ b.cell? ⟨B8, j8, none⟩ = some (v8) ∧ b.cell? ⟨B9, j9, none⟩ = some (v9) ∧ b.cell? ⟨B10, j10, none⟩ = some (v10) ∧ b.cell? ⟨B11, j11, none⟩ = some (v11) := by
 obtain ⟨h0, k0, k1, k2, k3, k4, k5, k6, k7, k8, k9, k10, k11⟩ := h
 have e : ∀ B' j v, B' < B → a.cell? ⟨B', j, none⟩ = some v → b.cell? ⟨B', j, none⟩ = some v := fun B' j v hl h => (hb.cell (p := ⟨B', j, none⟩) hl).trans h
 exact ⟨h0.trans (hb.mono hn), e _ _ _ l0 k0, e _ _ _ l1 k1, e _ _ _ l2 k2, e _ _ _ l3 k3, e _ _ _ l4 k4, e _ _ _ l5 k5, e _ _ _ l6 k6, e _ _ _ l7 k7, e _ _ _ l8 k8, e _ _ _ l9 k9, e _ _ _ l10 k10, e _ _ _ l11 k11⟩
set_option maxRecDepth 100000 in
set_option maxHeartbeats 2000000 in
theorem stepf_any (a p : Rat) (va vp : Value) (w : World) (ha : IsRat w va a) (hp : IsRat w vp p) (s1 : szR a 68719476736) (s2 : szR p 68719476736) (s3 : szR (1 - a) 68719476736) (s4 : szR (p * (1 - a)) 68719476736) :
  Calls Tryz.prog 143 #[va, vp] w (RetRat (a + p * (1 - a)) w) := by
 obtain ⟨x, rfl⟩ := ha.open3
 obtain ⟨y, rfl⟩ := hp.open3
 have HX := Lib.hid ha
 have HY := Lib.hid hp
 have S1 := Lib.hid s1
 have S2 := Lib.hid s2
 have S3 := Lib.hid s3
 have S4 := Lib.hid s4
 clear ha hp s1 s2 s3 s4
 have S0 : Hid (szR 1 68719476736) := one_szR _ (by omega)
 obtain ⟨q, hq⟩ : ∃ q, q = a + p * (1 - a) := ⟨_, rfl⟩
 have HQ := Lib.hid hq
 rw [← hq]
 clear hq
 go_enter Tryz.func143, Tryz.ntmps143
 go_wp2_with fail
 generalize hW0 : ((w.alloc (.cells x.arr 42)).alloc (.cells y.arr 42)).alloc (.cells _ _) = W at *
 obtain ⟨hal, hB1, hB2, hB3, hWs⟩ := boxesF w _ _ _ _ W hW0.symm
 have HAL := Lib.hid hal
 have HB3 := Lib.hid hB3
 have N3 : Hid (w.heap.size + 1 + 1 ≤ W.heap.size) := by show _ ≤ _; omega
 have N0 : Hid (w.heap.size < w.heap.size + 1 + 1) := by show _ < _; omega
 have N1 : Hid (w.heap.size + 1 < w.heap.size + 1 + 1) := by show _ < _; omega
 obtain ⟨x0, x1, x2, _, _, _⟩ := fac3 (x := x) hB1
 obtain ⟨y0, y1, y2, _, _, _⟩ := fac3 (x := y) hB2
 have HAD := Lib.hid (hal.drew)
 clear hW0 hal hB1 hB2 hB3 hWs
 refine wp_region_held_drew (S := (fun w' => Below (w.heap.size + 1 + 1) W w' ∧ w'.cell? ⟨w.heap.size, 0, none⟩ = some (.bool x.b) ∧ w'.cell? ⟨w.heap.size, 1, none⟩ = some (.slice x.a x.n x.c) ∧ w'.cell? ⟨w.heap.size, 2, none⟩ = some (.slice x.d x.m x.e) ∧ w'.cell? ⟨w.heap.size + 1, 0, none⟩ = some (.bool y.b) ∧ w'.cell? ⟨w.heap.size + 1, 1, none⟩ = some (.slice y.a y.n y.c) ∧ w'.cell? ⟨w.heap.size + 1, 2, none⟩ = some (.slice y.d y.m y.e))) (by kernel_rfl) ⟨(Below.refl _ _).drew, x0, x1, x2, y0, y1, y2⟩ (fun hh => ?_)
 clear x0 x1 x2 y0 y1 y2
 refine tk0 (i := 0) (v := ?vp0) rfl (Or.inl ⟨by rfl, ?hyp0⟩) (by assumption) ?rep0
 case hyp0 => intro w hSw; (try dsimp only at hSw); (go_simp <;> with_reducible rfl)
 try simp only [na1, na2, na3, Act.put, na4, na5, na6]
 refine tk0 (i := 1) (v := ?vp1) rfl (Or.inl ⟨by rfl, ?hyp1⟩) (by assumption) ?rep1
 case hyp1 => intro w hSw; (try dsimp only at hSw); (go_simp <;> with_reducible rfl)
 try simp only [na1, na2, na3, Act.put, na4, na5, na6]
 refine tk0 (i := 3) (v := ?vp3) rfl (Or.inl ⟨by rfl, ?hyp3⟩) (by assumption) ?rep3
 case hyp3 => intro w hSw; (try dsimp only at hSw); (go_simp <;> with_reducible rfl)
 try simp only [na1, na2, na3, Act.put, na4, na5, na6]
 refine rd1 (i := 2) rfl (fun K hK => ?_)
 go_simp
 go_wp2_with (go_at_call 105; (with_reducible refine (one_any _).mono ?_); rintro e wA ⟨vA, rfl, hvA, hbA⟩)
 refine hK.out _ _ (kd6 N3.out hbA hh) (fun hh => ?_)
 clear hK K
 try simp only [na1, na2, na3, Act.put, na4, na5, na6]
 have BA := Lib.hid (bt HAD.out hbA)
 refine rd1 (i := 4) rfl (fun K hK => ?_)
 go_simp
 go_wp2_with (go_at_call 34; (with_reducible refine (subRat_any 1 a _ _ _ hvA (HX.out.below BA.out) S0.out S1.out).mono ?_); rintro e wB ⟨vB, rfl, hvB, hbB⟩)
 refine hK.out _ _ (kd6 N3.out hbB hh) (fun hh => ?_)
 clear hK K
 try simp only [na1, na2, na3, Act.put, na4, na5, na6]
 have BB := Lib.hid (bt BA.out hbB)
 refine rd1 (i := 5) rfl (fun K hK => ?_)
 go_simp
 go_wp2_with (go_at_call 33; (with_reducible refine (mulRat_any p (1 - a) _ _ _ (HY.out.below BB.out) hvB S2.out S3.out).mono ?_); rintro e wC ⟨vC, rfl, hvC, hbC⟩)
 refine hK.out _ _ (kd6 N3.out hbC hh) (fun hh => ?_)
 clear hK K
 try simp only [na1, na2, na3, Act.put, na4, na5, na6]
 have BC := Lib.hid (bt BB.out hbC)
 refine rd1 (i := 6) rfl (fun K hK => ?_)
 go_simp
 go_wp2_with (go_at_call 32; (with_reducible refine (addRat_any a (p * (1 - a)) _ _ _ (HX.out.below BC.out) hvC S1.out S4.out).mono ?_); rintro e wD ⟨vD, rfl, hvD, hbD⟩)
 refine hK.out _ _ (kd6 N3.out hbD hh) (fun hh => ?_)
 clear hK K
 try simp only [na1, na2, na3, Act.put, na4, na5, na6]
 rw [← HQ.out] at hvD
 obtain ⟨z, rfl⟩ := hvD.open3
 have e0 : W.drew.heap[w.heap.size + 1 + 1]? = _ := HB3.out
 have eA := blk_keep e0 hbA (blk_lt e0)
 have eB := blk_keep eA hbB (blk_lt eA)
 have eC := blk_keep eB hbC (blk_lt eB)
 have eD := blk_keep eC hbD (blk_lt eC)
 have E : Hid (wD.heap[w.heap.size + 1 + 1]? = some (.cells r30.arr 42 (0, 0))) := eD
 have HV := Lib.hid hvD
 have BZ := Lib.hid (bt BC.out hbD)
 obtain ⟨g0, g1, g2, f0, f1, f2⟩ := fac3 (x := r30) E.out
 refine rd1 (i := 7) rfl (fun K hK => ?_)
 go_simp
 refine hK.out _ _ (ks6 (Nat.le_refl _) N0.out N0.out N0.out N1.out N1.out N1.out (below3r (Below.refl _ _) (Nat.le_refl _)) hh) (fun hh => ?_)
 clear hK K
 try simp only [na1, na2, na3, Act.put, na4, na5, na6]
 refine wpAnyH_done (by kernel_rfl) ?_ _
 obtain ⟨h0, h1, h2, _, _, _⟩ := fac3 (x := z) (set3r (x := z) E.out)
 go_wp2_with fail
 refine bodyPost_ret (v := z.val) (by simp [results, Tryz.results143, go_sem, h0, h1, h2]) rfl ⟨_, rfl, IsRat.set3r HV.out E.out, below3r BZ.out (by omega)⟩
def downN (x : Rat) (k : Nat) : Nat := if x.num < 0 ∧ x.num.natAbs * 2 ^ k % x.den ≠ 0 then x.num.natAbs * 2 ^ k / x.den + 1 else x.num.natAbs * 2 ^ k / x.den
def downQ (x : Rat) (k : Nat) : Rat := mkQ (decide (x.num < 0)) (downN x k) (2 ^ k)
def upQ (x : Rat) (k : Nat) : Rat := -(downQ (-x) k)
theorem len_pow2 {k : Nat} (hk : k ≤ 256) : (dig b64 (2 ^ k)).length ≤ 5 := by
 have h := dig_length_mono b64_two (show 2 ^ k ≤ 2 ^ 256 from Nat.pow_le_pow_right (by omega) hk)
 have e : (dig b64 (2 ^ 256)).length = 5 := by decide +kernel
 omega
theorem len_shift {m k : Nat} (hk : k ≤ 256) (d : Nat) : (dig b64 (m * 2 ^ k)).length ≤ (dig b64 m).length + 5 ∧ (dig b64 (m * 2 ^ k / d)).length ≤ (dig b64 m).length + 5 ∧ (dig b64 (m * 2 ^ k / d + 1)).length ≤ (dig b64 m).length + 7 := by
 have h1 := dig_length_mul b64_two m (2 ^ k)
 have h2 := len_pow2 hk
 have h3 := dig_length_mono b64_two (Nat.div_le_self (m * 2 ^ k) d)
 have h5 := dig_length_add b64_two (m * 2 ^ k / d) 1 ((dig b64 (m * 2 ^ k / d)).length + 1) (by omega) (by
  have : (dig b64 1).length = 1 := by decide +kernel
  omega)
 omega
theorem word1_any (w : World) : Calls Tryz.prog 129 #[.int .u64 1] w (RetNat .u64 b64 1 w) := word_any 1 w (by unfold b64; omega)
theorem boxesD (w : World) (x : R3) (cs : Array Value) (T : Nat) (W : World) (hW : W = (w.alloc (.cells x.arr 42)).alloc (.cells cs T)) :
  Below w.heap.size w W ∧ W.heap[w.heap.size]? = some (.cells x.arr 42 (0, 0)) ∧ W.heap[w.heap.size + 1]? = some (.cells cs T (0, 0)) := by
 subst hW
 have e1 : (w.alloc (.cells x.arr 42)).heap.size = w.heap.size + 1 := World.size_alloc ..
 have a1 := blk_new w x.arr 42
 have a2 := blk_new (w.alloc (.cells x.arr 42)) cs T
 rw [e1] at a2
 exact ⟨below2 _ _ _, (heap_alloc_old _ _ (blk_lt a1)).trans a1, a2⟩
set_option maxRecDepth 100000 in
set_option maxHeartbeats 2000000 in
theorem down_f (x0 : Rat) (k : Nat) (hk : k ≤ 256) (z : Int) (hz : min (max z 0) 256 = (k : Int)) (xa : Option Addr) (xn xc : Nat) (xd : Option Addr) (xm xe : Nat) (w : World) (hx : IsRat w (R3.val (⟨false, xa, xn, xc, xd, xm, xe⟩ : R3)) x0) (hs : szR x0 68719476736) (Q : Rat) (hQ : mkQ false (x0.num.natAbs * 2 ^ k / x0.den) (2 ^ k) = Q) :
  Calls Tryz.prog 93 #[(R3.val (⟨false, xa, xn, xc, xd, xm, xe⟩ : R3)), .int .i64 z] w (RetRat Q w) := by
 obtain ⟨vn, vd, hxe, n1, n2⟩ := hx
 have hxa : Value.slice xa xn xc = vn ∧ Value.slice xd xm xe = vd := by
  injection hxe with hxe
  simp only [Array.mk.injEq, List.cons.injEq] at hxe
  exact ⟨hxe.2.1, hxe.2.2.1⟩
 rw [← hxa.1] at n1
 rw [← hxa.2] at n2
 have H1 := Lib.hid n1
 have H2 := Lib.hid n2
 have hls := len_shift (m := x0.num.natAbs) hk x0.den
 have hs1 := hs.1
 have hl2 := len_pow2 hk
 have HL : Hid ((dig b64 (x0.num.natAbs * 2 ^ k)).length ≤ 274877906944) := by show _ ≤ _; omega
 have HL2 : Hid ((dig b64 (2 ^ k)).length ≤ 274877906944) := by show _ ≤ _; omega
 have HLM : Hid ((dig b64 x0.num.natAbs).length ≤ 549755813888) := by show _ ≤ _; omega
 have HLQ : Hid ((dig b64 (x0.num.natAbs * 2 ^ k / x0.den)).length ≤ 1099511627776) := by show _ ≤ _; omega
 have HLN : Hid ((dig b64 (x0.num.natAbs * 2 ^ k / x0.den)).length ≤ 274877906944) := by show _ ≤ _; omega
 have HL1 : Hid ((dig b64 1).length ≤ 549755813888) := by show _ ≤ _; rw [show (dig b64 1).length = 1 from by decide +kernel]; omega
 have HLO : Hid ((dig b64 1).length ≤ 1099511627776) := by show _ ≤ _; rw [show (dig b64 1).length = 1 from by decide +kernel]; omega
 have HK2 : Hid (k ≤ 549755813888) := by show _ ≤ _; omega
 have HQ := Lib.hid hQ
 obtain ⟨m, hmx⟩ : ∃ m, max z 0 = m := ⟨_, rfl⟩
 rw [hmx] at hz
 have hmn : min m 256 = (k : Int) := hz
 clear hz
 clear hxe hxa n1 n2 hls hs1 hs hl2 hQ
 go_enter Tryz.func93, Tryz.ntmps93
 go_wp2_with fail
 generalize hW0 : (w.alloc (.cells (R3.arr (⟨false, xa, xn, xc, xd, xm, xe⟩ : R3)) 42)).alloc (.cells _ _) = W at *
 obtain ⟨hal, hB1, hB2⟩ := boxesD w _ _ _ W hW0.symm
 obtain ⟨x0', x1, x2, _, _, _⟩ := fac3 (x := (⟨false, xa, xn, xc, xd, xm, xe⟩ : R3)) hB1
 have HB1 := Lib.hid hB1
 have HB2 := Lib.hid hB2
 have HAL := Lib.hid hal
 have HAD := Lib.hid hal.drew
 have N3 : Hid (w.heap.size ≤ W.heap.size) := hal.size
 clear hW0 hal hB1 hB2
 refine wp_region_held_drew (S := (fun w' => Below (w.heap.size) W w' ∧ w'.cell? ⟨w.heap.size, 1, none⟩ = some (.slice xa xn xc) ∧ w'.cell? ⟨w.heap.size, 2, none⟩ = some (.slice xd xm xe))) (by kernel_rfl) ⟨(Below.refl _ _).drew, x1, x2⟩ (fun hh => ?_)
 clear x0' x1 x2
 refine tk0 (i := 0) (v := ?vp0) rfl (Or.inl ⟨by rfl, ?hyp0⟩) (by assumption) ?rep0
 case hyp0 => intro w hSw; (try dsimp only at hSw); (go_simp <;> with_reducible rfl)
 try simp only [na1, na2, na3, Act.put, na4, na5, na6]
 refine tk0 (i := 1) (v := ?vp1) rfl (Or.inl ⟨by rfl, ?hyp1⟩) (by assumption) ?rep1
 case hyp1 => intro w hSw; (try dsimp only at hSw); (go_simp <;> with_reducible rfl)
 try simp only [na1, na2, na3, Act.put, na4, na5, na6]
 refine tk0 (i := 2) (v := ?vp2) rfl (Or.inl ⟨by rfl, ?hyp2⟩) (by assumption) ?rep2
 case hyp2 => intro w hSw; (try dsimp only at hSw); (go_simp <;> with_reducible rfl)
 try simp only [na1, na2, na3, Act.put, na4, na5, na6]
 refine tk0 (i := 4) (v := ?vp4) rfl (Or.inl ⟨by rfl, ?hyp4⟩) (by assumption) ?rep4
 case hyp4 => intro w hSw; (try dsimp only at hSw); (go_simp <;> with_reducible rfl)
 try simp only [na1, na2, na3, Act.put, na4, na5, na6]
 refine tk0 (i := 5) (v := ?vp5) rfl (Or.inl ⟨by rfl, ?hyp5⟩) (by assumption) ?rep5
 case hyp5 => intro w hSw; (try dsimp only at hSw); (go_simp <;> with_reducible rfl)
 try simp only [na1, na2, na3, Act.put, na4, na5, na6]
 refine rd1 (i := 3) rfl (fun K hK => ?_)
 go_simp
 go_wp2_with (go_at_call 139; (with_reducible refine (left_any x0.num.natAbs k _ _ (H1.out.below HAD.out) HLM.out HK2.out).mono ?_); rintro e wA ⟨vA, rfl, hvA, hbA⟩)
 refine hK.out _ _ (kd2 N3.out hbA hh) (fun hh => ?_)
 clear hK K
 try simp only [na1, na2, na3, Act.put, na4, na5, na6]
 have BA := Lib.hid (bt HAD.out hbA)
 refine rd1 (i := 6) rfl (fun K hK => ?_)
 go_simp
 go_wp2_with (go_at_call 83; (with_reducible refine (under_any x0.den _ _ (H2.out.below BA.out) x0.den_pos).mono ?_); rintro e wB ⟨vB, rfl, hvB, hbB⟩)
 refine hK.out _ _ (kd2 N3.out hbB hh) (fun hh => ?_)
 clear hK K
 try simp only [na1, na2, na3, Act.put, na4, na5, na6]
 have BB := Lib.hid (bt BA.out hbB)
 refine rd1 (i := 7) rfl (fun K hK => ?_)
 go_simp
 go_wp2_with (go_at_call 135; (with_reducible refine (divide_any (x0.num.natAbs * 2 ^ k) x0.den _ _ _ (hvA.below hbB) hvB x0.den_pos HL.out).mono ?_); rintro e wC ⟨vQ, vR, rfl, hvQ, hvR, hbC⟩; obtain ⟨ar, cr, rfl, _⟩ := IsRow.opened hvR; obtain ⟨aq, cq, rfl, _⟩ := IsRow.opened hvQ)
 refine hK.out _ _ (kd2 N3.out hbC hh) (fun hh => ?_)
 clear hK K
 try simp only [na1, na2, na3, Act.put, na4, na5, na6]
 refine tk0 (i := 8) (v := ?vp8) rfl (Or.inl ⟨by rfl, ?hyp8⟩) (by assumption) ?rep8
 case hyp8 => intro w hSw; (try dsimp only at hSw); (go_simp <;> with_reducible rfl)
 try simp only [na1, na2, na3, Act.put, na4, na5, na6]
 refine tk0 (i := 9) (v := ?vp9) rfl (Or.inl ⟨by rfl, ?hyp9⟩) (by assumption) ?rep9
 case hyp9 => intro w hSw; (try dsimp only at hSw); (go_simp <;> with_reducible rfl)
 try simp only [na1, na2, na3, Act.put, na4, na5, na6]
 refine tk0 (i := 10) (v := ?vp10) rfl (Or.inl ⟨by rfl, ?hyp10⟩) (by assumption) ?rep10
 case hyp10 => intro w hSw; (try dsimp only at hSw); (go_simp <;> with_reducible rfl)
 try simp only [na1, na2, na3, Act.put, na4, na5, na6]
 refine tk0 (i := 11) (v := ?vp11) rfl (Or.inl ⟨by rfl, ?hyp11⟩) (by assumption) ?rep11
 case hyp11 => intro w hSw; (try dsimp only at hSw); (go_simp <;> with_reducible rfl)
 try simp only [na1, na2, na3, Act.put, na4, na5, na6]
 refine tk0 (i := 12) (v := ?vp12) rfl (Or.inl ⟨by rfl, ?hyp12⟩) (by assumption) ?rep12
 case hyp12 => intro w hSw; (try dsimp only at hSw); (go_simp <;> with_reducible rfl)
 try simp only [na1, na2, na3, Act.put, na4, na5, na6]
 refine wpAnyH_done (by kernel_rfl) ?_ _
 have e1 : W.drew.heap[w.heap.size]? = _ := HB1.out
 have e1A := blk_keep e1 hbA (blk_lt e1)
 have e1B := blk_keep e1A hbB (blk_lt e1A)
 have D1 := Lib.hid (blk_keep e1B hbC (blk_lt e1B))
 have e2 : W.drew.heap[w.heap.size + 1]? = _ := HB2.out
 have e2A := blk_keep e2 hbA (blk_lt e2)
 have e2B := blk_keep e2A hbB (blk_lt e2A)
 have D2 := Lib.hid (blk_keep e2B hbC (blk_lt e2B))
 have HB := Lib.hid (bt BB.out hbC)
 obtain ⟨x0', x1, x2, _, _, _⟩ := fac3 (x := (⟨false, xa, xn, xc, xd, xm, xe⟩ : R3)) D1.out
 have HVQ := Lib.hid hvQ
 clear e1 e1A e1B e2 e2A e2B hh hvA hvB hvQ hvR hbA hbB hbC BA BB HAD N3
 go_wp2_with fail
 generalize wC = W at *
 have hVQ := HVQ.out
 obtain ⟨x0, x1, x2, _, _, _⟩ := fac3 (x := (⟨false, xa, xn, xc, xd, xm, xe⟩ : R3)) D1.out
 have N3 : Hid (w.heap.size + 1 ≤ W.heap.size) := by
  show _ ≤ _
  have := blk_lt D2.out
  omega
 have N0 : Hid (w.heap.size < w.heap.size + 1) := by show _ < _; omega
 have HAD := Lib.hid (HB.out.drew)
 refine wp_region_held_drew (S := (fun w' => Below (w.heap.size + 1) W w' ∧ w'.cell? ⟨w.heap.size, 0, none⟩ = some (.bool false))) (by kernel_rfl) ⟨(Below.refl _ _).drew, x0⟩ (fun hh => ?_)
 clear x0 x1 x2
 refine tk0 (i := 0) (v := ?vpq0) rfl (Or.inl ⟨by rfl, ?hypq0⟩) (by assumption) ?repq0
 case hypq0 => intro w hSw; (try dsimp only at hSw); (go_simp <;> with_reducible rfl)
 try simp only [na1, na2, na3, Act.put, na4, na5, na6]
 refine tk0 (i := 1) (v := ?vpq1) rfl (Or.inl ⟨by rfl, ?hypq1⟩) (by assumption) ?repq1
 case hypq1 => intro w hSw; (try dsimp only at hSw); (go_simp <;> with_reducible rfl)
 try simp only [na1, na2, na3, Act.put, na4, na5, na6]
 refine tk0 (i := 2) (v := ?vpq2) rfl (Or.inl ⟨by rfl, ?hypq2⟩) (by assumption) ?repq2
 case hypq2 => intro w hSw; (try dsimp only at hSw); (go_simp <;> with_reducible rfl)
 try simp only [na1, na2, na3, Act.put, na4, na5, na6]
 refine tk0 (i := 4) (v := ?vpq4) rfl (Or.inl ⟨by rfl, ?hypq4⟩) (by assumption) ?repq4
 case hypq4 => intro w hSw; (try dsimp only at hSw); (go_simp <;> with_reducible rfl)
 try simp only [na1, na2, na3, Act.put, na4, na5, na6]
 refine rd1 (i := 3) rfl (fun K hK => ?_)
 go_simp
 go_wp2_with (go_at_call 129; (with_reducible refine (word1_any _).mono ?_); rintro e wF ⟨vF, rfl, hvF, hbF⟩)
 refine hK.out _ _ (kd1 N3.out hbF hh) (fun hh => ?_)
 clear hK K
 try simp only [na1, na2, na3, Act.put, na4, na5, na6]
 have BF := Lib.hid (bt HAD.out hbF)
 refine rd1 (i := 5) rfl (fun K hK => ?_)
 go_simp
 go_wp2_with (go_at_call 139; (with_reducible refine (left_any 1 k _ _ hvF HL1.out HK2.out).mono ?_); rintro e wG ⟨vG, rfl, hvG, hbG⟩)
 refine hK.out _ _ (kd1 N3.out hbG hh) (fun hh => ?_)
 clear hK K
 try simp only [na1, na2, na3, Act.put, na4, na5, na6]
 have BG := Lib.hid (bt BF.out hbG)
 rw [Nat.one_mul] at hvG
 refine rd1 (i := 6) rfl (fun K hK => ?_)
 go_simp
 go_wp2_with (go_at_call 85; (with_reducible refine (reduced_any false (x0.num.natAbs * 2 ^ k / x0.den) (2 ^ k) _ _ _ (hVQ.below (bt (Below.refl _ _).drew (bt hbF hbG))) hvG (Nat.two_pow_pos k) HLN.out HL2.out).mono ?_); rintro e wI ⟨vI, rfl, hvI, hbI⟩)
 refine hK.out _ _ (kd1 N3.out hbI hh) (fun hh => ?_)
 clear hK K
 try simp only [na1, na2, na3, Act.put, na4, na5, na6]
 rw [HQ.out] at hvI
 obtain ⟨z, rfl⟩ := hvI.open3
 have e0 : W.drew.heap[w.heap.size + 1]? = _ := D2.out
 have eF := blk_keep e0 hbF (blk_lt e0)
 have eG := blk_keep eF hbG (blk_lt eF)
 have eI := blk_keep eG hbI (blk_lt eG)
 have E : Hid (wI.heap[w.heap.size + 1]? = some (.cells r30.arr 42 (0, 0))) := eI
 have HV := Lib.hid hvI
 have BZ := Lib.hid (bt BG.out hbI)
 obtain ⟨g0, g1, g2, f0, f1, f2⟩ := fac3 (x := r30) E.out
 refine rd1 (i := 7) rfl (fun K hK => ?_)
 go_simp
 refine hK.out _ _ (ks1 (Nat.le_refl _) N0.out (below3r (Below.refl _ _) (Nat.le_refl _)) hh) (fun hh => ?_)
 clear hK K
 try simp only [na1, na2, na3, Act.put, na4, na5, na6]
 refine wpAnyH_done (by kernel_rfl) ?_ _
 obtain ⟨h0, h1, h2, _, _, _⟩ := fac3 (x := z) (set3r (x := z) E.out)
 go_wp2_with fail
 refine bodyPost_ret (v := z.val) (by simp [results, Tryz.results93, go_sem, h0, h1, h2]) rfl ⟨_, rfl, IsRat.set3r HV.out E.out, below3r BZ.out (by omega)⟩
set_option maxRecDepth 100000 in
set_option maxHeartbeats 2000000 in
theorem down_z (x0 : Rat) (k : Nat) (hk : k ≤ 256) (z : Int) (hz : min (max z 0) 256 = (k : Int)) (xa : Option Addr) (xn xc : Nat) (xd : Option Addr) (xm xe : Nat) (w : World) (hx : IsRat w (R3.val (⟨true, xa, xn, xc, xd, xm, xe⟩ : R3)) x0) (hs : szR x0 68719476736) (hr : x0.num.natAbs * 2 ^ k % x0.den = 0) (Q : Rat) (hQ : mkQ true (x0.num.natAbs * 2 ^ k / x0.den) (2 ^ k) = Q) :
  Calls Tryz.prog 93 #[(R3.val (⟨true, xa, xn, xc, xd, xm, xe⟩ : R3)), .int .i64 z] w (RetRat Q w) := by
 obtain ⟨vn, vd, hxe, n1, n2⟩ := hx
 have hxa : Value.slice xa xn xc = vn ∧ Value.slice xd xm xe = vd := by
  injection hxe with hxe
  simp only [Array.mk.injEq, List.cons.injEq] at hxe
  exact ⟨hxe.2.1, hxe.2.2.1⟩
 rw [← hxa.1] at n1
 rw [← hxa.2] at n2
 have H1 := Lib.hid n1
 have H2 := Lib.hid n2
 have hls := len_shift (m := x0.num.natAbs) hk x0.den
 have hs1 := hs.1
 have hl2 := len_pow2 hk
 have HL : Hid ((dig b64 (x0.num.natAbs * 2 ^ k)).length ≤ 274877906944) := by show _ ≤ _; omega
 have HL2 : Hid ((dig b64 (2 ^ k)).length ≤ 274877906944) := by show _ ≤ _; omega
 have HLM : Hid ((dig b64 x0.num.natAbs).length ≤ 549755813888) := by show _ ≤ _; omega
 have HLQ : Hid ((dig b64 (x0.num.natAbs * 2 ^ k / x0.den)).length ≤ 1099511627776) := by show _ ≤ _; omega
 have HLN : Hid ((dig b64 (x0.num.natAbs * 2 ^ k / x0.den)).length ≤ 274877906944) := by show _ ≤ _; omega
 have HL1 : Hid ((dig b64 1).length ≤ 549755813888) := by show _ ≤ _; rw [show (dig b64 1).length = 1 from by decide +kernel]; omega
 have HLO : Hid ((dig b64 1).length ≤ 1099511627776) := by show _ ≤ _; rw [show (dig b64 1).length = 1 from by decide +kernel]; omega
 have HK2 : Hid (k ≤ 549755813888) := by show _ ≤ _; omega
 have HQ := Lib.hid hQ
 obtain ⟨m, hmx⟩ : ∃ m, max z 0 = m := ⟨_, rfl⟩
 rw [hmx] at hz
 have hmn : min m 256 = (k : Int) := hz
 clear hz
 have HR := Lib.hid hr
 clear hr
 clear hxe hxa n1 n2 hls hs1 hs hl2 hQ
 go_enter Tryz.func93, Tryz.ntmps93
 go_wp2_with fail
 generalize hW0 : (w.alloc (.cells (R3.arr (⟨true, xa, xn, xc, xd, xm, xe⟩ : R3)) 42)).alloc (.cells _ _) = W at *
 obtain ⟨hal, hB1, hB2⟩ := boxesD w _ _ _ W hW0.symm
 obtain ⟨x0', x1, x2, _, _, _⟩ := fac3 (x := (⟨true, xa, xn, xc, xd, xm, xe⟩ : R3)) hB1
 have HB1 := Lib.hid hB1
 have HB2 := Lib.hid hB2
 have HAL := Lib.hid hal
 have HAD := Lib.hid hal.drew
 have N3 : Hid (w.heap.size ≤ W.heap.size) := hal.size
 clear hW0 hal hB1 hB2
 refine wp_region_held_drew (S := (fun w' => Below (w.heap.size) W w' ∧ w'.cell? ⟨w.heap.size, 1, none⟩ = some (.slice xa xn xc) ∧ w'.cell? ⟨w.heap.size, 2, none⟩ = some (.slice xd xm xe))) (by kernel_rfl) ⟨(Below.refl _ _).drew, x1, x2⟩ (fun hh => ?_)
 clear x0' x1 x2
 refine tk0 (i := 0) (v := ?vp0) rfl (Or.inl ⟨by rfl, ?hyp0⟩) (by assumption) ?rep0
 case hyp0 => intro w hSw; (try dsimp only at hSw); (go_simp <;> with_reducible rfl)
 try simp only [na1, na2, na3, Act.put, na4, na5, na6]
 refine tk0 (i := 1) (v := ?vp1) rfl (Or.inl ⟨by rfl, ?hyp1⟩) (by assumption) ?rep1
 case hyp1 => intro w hSw; (try dsimp only at hSw); (go_simp <;> with_reducible rfl)
 try simp only [na1, na2, na3, Act.put, na4, na5, na6]
 refine tk0 (i := 2) (v := ?vp2) rfl (Or.inl ⟨by rfl, ?hyp2⟩) (by assumption) ?rep2
 case hyp2 => intro w hSw; (try dsimp only at hSw); (go_simp <;> with_reducible rfl)
 try simp only [na1, na2, na3, Act.put, na4, na5, na6]
 refine tk0 (i := 4) (v := ?vp4) rfl (Or.inl ⟨by rfl, ?hyp4⟩) (by assumption) ?rep4
 case hyp4 => intro w hSw; (try dsimp only at hSw); (go_simp <;> with_reducible rfl)
 try simp only [na1, na2, na3, Act.put, na4, na5, na6]
 refine tk0 (i := 5) (v := ?vp5) rfl (Or.inl ⟨by rfl, ?hyp5⟩) (by assumption) ?rep5
 case hyp5 => intro w hSw; (try dsimp only at hSw); (go_simp <;> with_reducible rfl)
 try simp only [na1, na2, na3, Act.put, na4, na5, na6]
 refine rd1 (i := 3) rfl (fun K hK => ?_)
 go_simp
 go_wp2_with (go_at_call 139; (with_reducible refine (left_any x0.num.natAbs k _ _ (H1.out.below HAD.out) HLM.out HK2.out).mono ?_); rintro e wA ⟨vA, rfl, hvA, hbA⟩)
 refine hK.out _ _ (kd2 N3.out hbA hh) (fun hh => ?_)
 clear hK K
 try simp only [na1, na2, na3, Act.put, na4, na5, na6]
 have BA := Lib.hid (bt HAD.out hbA)
 refine rd1 (i := 6) rfl (fun K hK => ?_)
 go_simp
 go_wp2_with (go_at_call 83; (with_reducible refine (under_any x0.den _ _ (H2.out.below BA.out) x0.den_pos).mono ?_); rintro e wB ⟨vB, rfl, hvB, hbB⟩)
 refine hK.out _ _ (kd2 N3.out hbB hh) (fun hh => ?_)
 clear hK K
 try simp only [na1, na2, na3, Act.put, na4, na5, na6]
 have BB := Lib.hid (bt BA.out hbB)
 refine rd1 (i := 7) rfl (fun K hK => ?_)
 go_simp
 go_wp2_with (go_at_call 135; (with_reducible refine (divide_any (x0.num.natAbs * 2 ^ k) x0.den _ _ _ (hvA.below hbB) hvB x0.den_pos HL.out).mono ?_); rintro e wC ⟨vQ, vR, rfl, hvQ, hvR, hbC⟩; obtain ⟨ar, cr, rfl, _⟩ := IsRow.opened hvR; obtain ⟨aq, cq, rfl, _⟩ := IsRow.opened hvQ)
 refine hK.out _ _ (kd2 N3.out hbC hh) (fun hh => ?_)
 clear hK K
 try simp only [na1, na2, na3, Act.put, na4, na5, na6]
 refine tk0 (i := 8) (v := ?vp8) rfl (Or.inl ⟨by rfl, ?hyp8⟩) (by assumption) ?rep8
 case hyp8 => intro w hSw; (try dsimp only at hSw); (go_simp <;> with_reducible rfl)
 try simp only [na1, na2, na3, Act.put, na4, na5, na6]
 refine tk0 (i := 9) (v := ?vp9) rfl (Or.inl ⟨by rfl, ?hyp9⟩) (by assumption) ?rep9
 case hyp9 => intro w hSw; (try dsimp only at hSw); (go_simp <;> with_reducible rfl)
 try simp only [na1, na2, na3, Act.put, na4, na5, na6]
 refine tk0 (i := 10) (v := ?vp10) rfl (Or.inl ⟨by rfl, ?hyp10⟩) (by assumption) ?rep10
 case hyp10 => intro w hSw; (try dsimp only at hSw); (go_simp <;> with_reducible rfl)
 try simp only [na1, na2, na3, Act.put, na4, na5, na6]
 refine tk0 (i := 11) (v := ?vp11) rfl (Or.inl ⟨by rfl, ?hyp11⟩) (by assumption) ?rep11
 case hyp11 => intro w hSw; (try dsimp only at hSw); (go_simp <;> with_reducible rfl)
 try simp only [na1, na2, na3, Act.put, na4, na5, na6]
 refine tk0 (i := 12) (v := ?vp12) rfl (Or.inl ⟨by rfl, ?hyp12⟩) (by assumption) ?rep12
 case hyp12 => intro w hSw; (try dsimp only at hSw); (go_simp <;> with_reducible rfl)
 try simp only [na1, na2, na3, Act.put, na4, na5, na6]
 refine wpAnyH_done (by kernel_rfl) ?_ _
 have e1 : W.drew.heap[w.heap.size]? = _ := HB1.out
 have e1A := blk_keep e1 hbA (blk_lt e1)
 have e1B := blk_keep e1A hbB (blk_lt e1A)
 have D1 := Lib.hid (blk_keep e1B hbC (blk_lt e1B))
 have e2 : W.drew.heap[w.heap.size + 1]? = _ := HB2.out
 have e2A := blk_keep e2 hbA (blk_lt e2)
 have e2B := blk_keep e2A hbB (blk_lt e2A)
 have D2 := Lib.hid (blk_keep e2B hbC (blk_lt e2B))
 have HB := Lib.hid (bt BB.out hbC)
 obtain ⟨x0', x1, x2, _, _, _⟩ := fac3 (x := (⟨true, xa, xn, xc, xd, xm, xe⟩ : R3)) D1.out
 have HVQ := Lib.hid hvQ
 clear e1 e1A e1B e2 e2A e2B hh hvA hvB hvQ hvR hbA hbB hbC BA BB HAD N3
 rw [show (dig b64 (x0.num.natAbs * 2 ^ k % x0.den)).length = 0 from by rw [HR.out]; rfl]
 go_wp2_with fail
 generalize wC = W at *
 have hVQ := HVQ.out
 obtain ⟨x0, x1, x2, _, _, _⟩ := fac3 (x := (⟨true, xa, xn, xc, xd, xm, xe⟩ : R3)) D1.out
 have N3 : Hid (w.heap.size + 1 ≤ W.heap.size) := by
  show _ ≤ _
  have := blk_lt D2.out
  omega
 have N0 : Hid (w.heap.size < w.heap.size + 1) := by show _ < _; omega
 have HAD := Lib.hid (HB.out.drew)
 refine wp_region_held_drew (S := (fun w' => Below (w.heap.size + 1) W w' ∧ w'.cell? ⟨w.heap.size, 0, none⟩ = some (.bool true))) (by kernel_rfl) ⟨(Below.refl _ _).drew, x0⟩ (fun hh => ?_)
 clear x0 x1 x2
 refine tk0 (i := 0) (v := ?vpq0) rfl (Or.inl ⟨by rfl, ?hypq0⟩) (by assumption) ?repq0
 case hypq0 => intro w hSw; (try dsimp only at hSw); (go_simp <;> with_reducible rfl)
 try simp only [na1, na2, na3, Act.put, na4, na5, na6]
 refine tk0 (i := 1) (v := ?vpq1) rfl (Or.inl ⟨by rfl, ?hypq1⟩) (by assumption) ?repq1
 case hypq1 => intro w hSw; (try dsimp only at hSw); (go_simp <;> with_reducible rfl)
 try simp only [na1, na2, na3, Act.put, na4, na5, na6]
 refine tk0 (i := 2) (v := ?vpq2) rfl (Or.inl ⟨by rfl, ?hypq2⟩) (by assumption) ?repq2
 case hypq2 => intro w hSw; (try dsimp only at hSw); (go_simp <;> with_reducible rfl)
 try simp only [na1, na2, na3, Act.put, na4, na5, na6]
 refine tk0 (i := 4) (v := ?vpq4) rfl (Or.inl ⟨by rfl, ?hypq4⟩) (by assumption) ?repq4
 case hypq4 => intro w hSw; (try dsimp only at hSw); (go_simp <;> with_reducible rfl)
 try simp only [na1, na2, na3, Act.put, na4, na5, na6]
 refine rd1 (i := 3) rfl (fun K hK => ?_)
 go_simp
 go_wp2_with (go_at_call 129; (with_reducible refine (word1_any _).mono ?_); rintro e wF ⟨vF, rfl, hvF, hbF⟩)
 refine hK.out _ _ (kd1 N3.out hbF hh) (fun hh => ?_)
 clear hK K
 try simp only [na1, na2, na3, Act.put, na4, na5, na6]
 have BF := Lib.hid (bt HAD.out hbF)
 refine rd1 (i := 5) rfl (fun K hK => ?_)
 go_simp
 go_wp2_with (go_at_call 139; (with_reducible refine (left_any 1 k _ _ hvF HL1.out HK2.out).mono ?_); rintro e wG ⟨vG, rfl, hvG, hbG⟩)
 refine hK.out _ _ (kd1 N3.out hbG hh) (fun hh => ?_)
 clear hK K
 try simp only [na1, na2, na3, Act.put, na4, na5, na6]
 have BG := Lib.hid (bt BF.out hbG)
 rw [Nat.one_mul] at hvG
 refine rd1 (i := 6) rfl (fun K hK => ?_)
 go_simp
 go_wp2_with (go_at_call 85; (with_reducible refine (reduced_any true (x0.num.natAbs * 2 ^ k / x0.den) (2 ^ k) _ _ _ (hVQ.below (bt (Below.refl _ _).drew (bt hbF hbG))) hvG (Nat.two_pow_pos k) HLN.out HL2.out).mono ?_); rintro e wI ⟨vI, rfl, hvI, hbI⟩)
 refine hK.out _ _ (kd1 N3.out hbI hh) (fun hh => ?_)
 clear hK K
 try simp only [na1, na2, na3, Act.put, na4, na5, na6]
 rw [HQ.out] at hvI
 obtain ⟨z, rfl⟩ := hvI.open3
 have e0 : W.drew.heap[w.heap.size + 1]? = _ := D2.out
 have eF := blk_keep e0 hbF (blk_lt e0)
 have eG := blk_keep eF hbG (blk_lt eF)
 have eI := blk_keep eG hbI (blk_lt eG)
 have E : Hid (wI.heap[w.heap.size + 1]? = some (.cells r30.arr 42 (0, 0))) := eI
 have HV := Lib.hid hvI
 have BZ := Lib.hid (bt BG.out hbI)
 obtain ⟨g0, g1, g2, f0, f1, f2⟩ := fac3 (x := r30) E.out
 refine rd1 (i := 7) rfl (fun K hK => ?_)
 go_simp
 refine hK.out _ _ (ks1 (Nat.le_refl _) N0.out (below3r (Below.refl _ _) (Nat.le_refl _)) hh) (fun hh => ?_)
 clear hK K
 try simp only [na1, na2, na3, Act.put, na4, na5, na6]
 refine wpAnyH_done (by kernel_rfl) ?_ _
 obtain ⟨h0, h1, h2, _, _, _⟩ := fac3 (x := z) (set3r (x := z) E.out)
 go_wp2_with fail
 refine bodyPost_ret (v := z.val) (by simp [results, Tryz.results93, go_sem, h0, h1, h2]) rfl ⟨_, rfl, IsRat.set3r HV.out E.out, below3r BZ.out (by omega)⟩
set_option maxRecDepth 100000 in
set_option maxHeartbeats 2000000 in
theorem down_1 (x0 : Rat) (k : Nat) (hk : k ≤ 256) (z : Int) (hz : min (max z 0) 256 = (k : Int)) (xa : Option Addr) (xn xc : Nat) (xd : Option Addr) (xm xe : Nat) (w : World) (hx : IsRat w (R3.val (⟨true, xa, xn, xc, xd, xm, xe⟩ : R3)) x0) (hs : szR x0 68719476736) (hr : 0 < (dig b64 (x0.num.natAbs * 2 ^ k % x0.den)).length) (Q : Rat) (hQ : mkQ true (x0.num.natAbs * 2 ^ k / x0.den + 1) (2 ^ k) = Q) :
  Calls Tryz.prog 93 #[(R3.val (⟨true, xa, xn, xc, xd, xm, xe⟩ : R3)), .int .i64 z] w (RetRat Q w) := by
 obtain ⟨vn, vd, hxe, n1, n2⟩ := hx
 have hxa : Value.slice xa xn xc = vn ∧ Value.slice xd xm xe = vd := by
  injection hxe with hxe
  simp only [Array.mk.injEq, List.cons.injEq] at hxe
  exact ⟨hxe.2.1, hxe.2.2.1⟩
 rw [← hxa.1] at n1
 rw [← hxa.2] at n2
 have H1 := Lib.hid n1
 have H2 := Lib.hid n2
 have hls := len_shift (m := x0.num.natAbs) hk x0.den
 have hs1 := hs.1
 have hl2 := len_pow2 hk
 have HL : Hid ((dig b64 (x0.num.natAbs * 2 ^ k)).length ≤ 274877906944) := by show _ ≤ _; omega
 have HL2 : Hid ((dig b64 (2 ^ k)).length ≤ 274877906944) := by show _ ≤ _; omega
 have HLM : Hid ((dig b64 x0.num.natAbs).length ≤ 549755813888) := by show _ ≤ _; omega
 have HLQ : Hid ((dig b64 (x0.num.natAbs * 2 ^ k / x0.den)).length ≤ 1099511627776) := by show _ ≤ _; omega
 have HLN : Hid ((dig b64 (x0.num.natAbs * 2 ^ k / x0.den + 1)).length ≤ 274877906944) := by show _ ≤ _; omega
 have HL1 : Hid ((dig b64 1).length ≤ 549755813888) := by show _ ≤ _; rw [show (dig b64 1).length = 1 from by decide +kernel]; omega
 have HLO : Hid ((dig b64 1).length ≤ 1099511627776) := by show _ ≤ _; rw [show (dig b64 1).length = 1 from by decide +kernel]; omega
 have HK2 : Hid (k ≤ 549755813888) := by show _ ≤ _; omega
 have HQ := Lib.hid hQ
 obtain ⟨m, hmx⟩ : ∃ m, max z 0 = m := ⟨_, rfl⟩
 rw [hmx] at hz
 have hmn : min m 256 = (k : Int) := hz
 clear hz
 have HR := Lib.hid hr
 clear hr
 clear hxe hxa n1 n2 hls hs1 hs hl2 hQ
 go_enter Tryz.func93, Tryz.ntmps93
 go_wp2_with fail
 generalize hW0 : (w.alloc (.cells (R3.arr (⟨true, xa, xn, xc, xd, xm, xe⟩ : R3)) 42)).alloc (.cells _ _) = W at *
 obtain ⟨hal, hB1, hB2⟩ := boxesD w _ _ _ W hW0.symm
 obtain ⟨x0', x1, x2, _, _, _⟩ := fac3 (x := (⟨true, xa, xn, xc, xd, xm, xe⟩ : R3)) hB1
 have HB1 := Lib.hid hB1
 have HB2 := Lib.hid hB2
 have HAL := Lib.hid hal
 have HAD := Lib.hid hal.drew
 have N3 : Hid (w.heap.size ≤ W.heap.size) := hal.size
 clear hW0 hal hB1 hB2
 refine wp_region_held_drew (S := (fun w' => Below (w.heap.size) W w' ∧ w'.cell? ⟨w.heap.size, 1, none⟩ = some (.slice xa xn xc) ∧ w'.cell? ⟨w.heap.size, 2, none⟩ = some (.slice xd xm xe))) (by kernel_rfl) ⟨(Below.refl _ _).drew, x1, x2⟩ (fun hh => ?_)
 clear x0' x1 x2
 refine tk0 (i := 0) (v := ?vp0) rfl (Or.inl ⟨by rfl, ?hyp0⟩) (by assumption) ?rep0
 case hyp0 => intro w hSw; (try dsimp only at hSw); (go_simp <;> with_reducible rfl)
 try simp only [na1, na2, na3, Act.put, na4, na5, na6]
 refine tk0 (i := 1) (v := ?vp1) rfl (Or.inl ⟨by rfl, ?hyp1⟩) (by assumption) ?rep1
 case hyp1 => intro w hSw; (try dsimp only at hSw); (go_simp <;> with_reducible rfl)
 try simp only [na1, na2, na3, Act.put, na4, na5, na6]
 refine tk0 (i := 2) (v := ?vp2) rfl (Or.inl ⟨by rfl, ?hyp2⟩) (by assumption) ?rep2
 case hyp2 => intro w hSw; (try dsimp only at hSw); (go_simp <;> with_reducible rfl)
 try simp only [na1, na2, na3, Act.put, na4, na5, na6]
 refine tk0 (i := 4) (v := ?vp4) rfl (Or.inl ⟨by rfl, ?hyp4⟩) (by assumption) ?rep4
 case hyp4 => intro w hSw; (try dsimp only at hSw); (go_simp <;> with_reducible rfl)
 try simp only [na1, na2, na3, Act.put, na4, na5, na6]
 refine tk0 (i := 5) (v := ?vp5) rfl (Or.inl ⟨by rfl, ?hyp5⟩) (by assumption) ?rep5
 case hyp5 => intro w hSw; (try dsimp only at hSw); (go_simp <;> with_reducible rfl)
 try simp only [na1, na2, na3, Act.put, na4, na5, na6]
 refine rd1 (i := 3) rfl (fun K hK => ?_)
 go_simp
 go_wp2_with (go_at_call 139; (with_reducible refine (left_any x0.num.natAbs k _ _ (H1.out.below HAD.out) HLM.out HK2.out).mono ?_); rintro e wA ⟨vA, rfl, hvA, hbA⟩)
 refine hK.out _ _ (kd2 N3.out hbA hh) (fun hh => ?_)
 clear hK K
 try simp only [na1, na2, na3, Act.put, na4, na5, na6]
 have BA := Lib.hid (bt HAD.out hbA)
 refine rd1 (i := 6) rfl (fun K hK => ?_)
 go_simp
 go_wp2_with (go_at_call 83; (with_reducible refine (under_any x0.den _ _ (H2.out.below BA.out) x0.den_pos).mono ?_); rintro e wB ⟨vB, rfl, hvB, hbB⟩)
 refine hK.out _ _ (kd2 N3.out hbB hh) (fun hh => ?_)
 clear hK K
 try simp only [na1, na2, na3, Act.put, na4, na5, na6]
 have BB := Lib.hid (bt BA.out hbB)
 refine rd1 (i := 7) rfl (fun K hK => ?_)
 go_simp
 go_wp2_with (go_at_call 135; (with_reducible refine (divide_any (x0.num.natAbs * 2 ^ k) x0.den _ _ _ (hvA.below hbB) hvB x0.den_pos HL.out).mono ?_); rintro e wC ⟨vQ, vR, rfl, hvQ, hvR, hbC⟩; obtain ⟨ar, cr, rfl, _⟩ := IsRow.opened hvR; obtain ⟨aq, cq, rfl, _⟩ := IsRow.opened hvQ)
 refine hK.out _ _ (kd2 N3.out hbC hh) (fun hh => ?_)
 clear hK K
 try simp only [na1, na2, na3, Act.put, na4, na5, na6]
 refine tk0 (i := 8) (v := ?vp8) rfl (Or.inl ⟨by rfl, ?hyp8⟩) (by assumption) ?rep8
 case hyp8 => intro w hSw; (try dsimp only at hSw); (go_simp <;> with_reducible rfl)
 try simp only [na1, na2, na3, Act.put, na4, na5, na6]
 refine tk0 (i := 9) (v := ?vp9) rfl (Or.inl ⟨by rfl, ?hyp9⟩) (by assumption) ?rep9
 case hyp9 => intro w hSw; (try dsimp only at hSw); (go_simp <;> with_reducible rfl)
 try simp only [na1, na2, na3, Act.put, na4, na5, na6]
 refine tk0 (i := 10) (v := ?vp10) rfl (Or.inl ⟨by rfl, ?hyp10⟩) (by assumption) ?rep10
 case hyp10 => intro w hSw; (try dsimp only at hSw); (go_simp <;> with_reducible rfl)
 try simp only [na1, na2, na3, Act.put, na4, na5, na6]
 refine tk0 (i := 11) (v := ?vp11) rfl (Or.inl ⟨by rfl, ?hyp11⟩) (by assumption) ?rep11
 case hyp11 => intro w hSw; (try dsimp only at hSw); (go_simp <;> with_reducible rfl)
 try simp only [na1, na2, na3, Act.put, na4, na5, na6]
 refine tk0 (i := 12) (v := ?vp12) rfl (Or.inl ⟨by rfl, ?hyp12⟩) (by assumption) ?rep12
 case hyp12 => intro w hSw; (try dsimp only at hSw); (go_simp <;> with_reducible rfl)
 try simp only [na1, na2, na3, Act.put, na4, na5, na6]
 refine wpAnyH_done (by kernel_rfl) ?_ _
 have e1 : W.drew.heap[w.heap.size]? = _ := HB1.out
 have e1A := blk_keep e1 hbA (blk_lt e1)
 have e1B := blk_keep e1A hbB (blk_lt e1A)
 have D1 := Lib.hid (blk_keep e1B hbC (blk_lt e1B))
 have e2 : W.drew.heap[w.heap.size + 1]? = _ := HB2.out
 have e2A := blk_keep e2 hbA (blk_lt e2)
 have e2B := blk_keep e2A hbB (blk_lt e2A)
 have D2 := Lib.hid (blk_keep e2B hbC (blk_lt e2B))
 have HB := Lib.hid (bt BB.out hbC)
 obtain ⟨x0', x1, x2, _, _, _⟩ := fac3 (x := (⟨true, xa, xn, xc, xd, xm, xe⟩ : R3)) D1.out
 have HVQ := Lib.hid hvQ
 clear e1 e1A e1B e2 e2A e2B hh hvA hvB hvQ hvR hbA hbB hbC BA BB HAD N3
 have hlr : decide (((dig b64 (x0.num.natAbs * 2 ^ k % x0.den)).length : Int) > 0) = true := decide_eq_true (by have := HR.out; omega)
 have hlr2 : decide (0 < (dig b64 (x0.num.natAbs * 2 ^ k % x0.den)).length) = true := decide_eq_true HR.out
 go_wp2_with fail
 refine (word1_any _).mono ?_
 rintro e wD ⟨vD, rfl, hvD, hbD⟩
 go_wp2_with fail
 refine (plus_any (x0.num.natAbs * 2 ^ k / x0.den) 1 _ _ _ (HVQ.out.below hbD) hvD HLQ.out HLO.out).mono ?_
 rintro e wE ⟨vE, rfl, hvE, hbE⟩
 have D1' := Lib.hid (blk_keep (blk_keep D1.out hbD (blk_lt D1.out)) hbE (by have := blk_lt (blk_keep D1.out hbD (blk_lt D1.out)); exact this))
 have D2' := Lib.hid (blk_keep (blk_keep D2.out hbD (blk_lt D2.out)) hbE (by have := blk_lt (blk_keep D2.out hbD (blk_lt D2.out)); exact this))
 have HB' := Lib.hid (bt (bt HB.out hbD) hbE)
 have HVE := Lib.hid hvE
 clear x0' x1 x2 hlr hlr2 D1 D2 HB hvD hvE hbD hbE
 go_wp2_with fail
 generalize wE = W at *
 have hVQ := HVE.out
 have D1 := Lib.hid D1'.out
 have D2 := Lib.hid D2'.out
 have HB := Lib.hid HB'.out
 obtain ⟨x0, x1, x2, _, _, _⟩ := fac3 (x := (⟨true, xa, xn, xc, xd, xm, xe⟩ : R3)) D1.out
 have N3 : Hid (w.heap.size + 1 ≤ W.heap.size) := by
  show _ ≤ _
  have := blk_lt D2.out
  omega
 have N0 : Hid (w.heap.size < w.heap.size + 1) := by show _ < _; omega
 have HAD := Lib.hid (HB.out.drew)
 refine wp_region_held_drew (S := (fun w' => Below (w.heap.size + 1) W w' ∧ w'.cell? ⟨w.heap.size, 0, none⟩ = some (.bool true))) (by kernel_rfl) ⟨(Below.refl _ _).drew, x0⟩ (fun hh => ?_)
 clear x0 x1 x2
 refine tk0 (i := 0) (v := ?vpq0) rfl (Or.inl ⟨by rfl, ?hypq0⟩) (by assumption) ?repq0
 case hypq0 => intro w hSw; (try dsimp only at hSw); (go_simp <;> with_reducible rfl)
 try simp only [na1, na2, na3, Act.put, na4, na5, na6]
 refine tk0 (i := 1) (v := ?vpq1) rfl (Or.inl ⟨by rfl, ?hypq1⟩) (by assumption) ?repq1
 case hypq1 => intro w hSw; (try dsimp only at hSw); (go_simp <;> with_reducible rfl)
 try simp only [na1, na2, na3, Act.put, na4, na5, na6]
 refine tk0 (i := 2) (v := ?vpq2) rfl (Or.inl ⟨by rfl, ?hypq2⟩) (by assumption) ?repq2
 case hypq2 => intro w hSw; (try dsimp only at hSw); (go_simp <;> with_reducible rfl)
 try simp only [na1, na2, na3, Act.put, na4, na5, na6]
 refine tk0 (i := 4) (v := ?vpq4) rfl (Or.inl ⟨by rfl, ?hypq4⟩) (by assumption) ?repq4
 case hypq4 => intro w hSw; (try dsimp only at hSw); (go_simp <;> with_reducible rfl)
 try simp only [na1, na2, na3, Act.put, na4, na5, na6]
 refine rd1 (i := 3) rfl (fun K hK => ?_)
 go_simp
 go_wp2_with (go_at_call 129; (with_reducible refine (word1_any _).mono ?_); rintro e wF ⟨vF, rfl, hvF, hbF⟩)
 refine hK.out _ _ (kd1 N3.out hbF hh) (fun hh => ?_)
 clear hK K
 try simp only [na1, na2, na3, Act.put, na4, na5, na6]
 have BF := Lib.hid (bt HAD.out hbF)
 refine rd1 (i := 5) rfl (fun K hK => ?_)
 go_simp
 go_wp2_with (go_at_call 139; (with_reducible refine (left_any 1 k _ _ hvF HL1.out HK2.out).mono ?_); rintro e wG ⟨vG, rfl, hvG, hbG⟩)
 refine hK.out _ _ (kd1 N3.out hbG hh) (fun hh => ?_)
 clear hK K
 try simp only [na1, na2, na3, Act.put, na4, na5, na6]
 have BG := Lib.hid (bt BF.out hbG)
 rw [Nat.one_mul] at hvG
 refine rd1 (i := 6) rfl (fun K hK => ?_)
 go_simp
 go_wp2_with (go_at_call 85; (with_reducible refine (reduced_any true (x0.num.natAbs * 2 ^ k / x0.den + 1) (2 ^ k) _ _ _ (hVQ.below (bt (Below.refl _ _).drew (bt hbF hbG))) hvG (Nat.two_pow_pos k) HLN.out HL2.out).mono ?_); rintro e wI ⟨vI, rfl, hvI, hbI⟩)
 refine hK.out _ _ (kd1 N3.out hbI hh) (fun hh => ?_)
 clear hK K
 try simp only [na1, na2, na3, Act.put, na4, na5, na6]
 rw [HQ.out] at hvI
 obtain ⟨z, rfl⟩ := hvI.open3
 have e0 : W.drew.heap[w.heap.size + 1]? = _ := D2.out
 have eF := blk_keep e0 hbF (blk_lt e0)
 have eG := blk_keep eF hbG (blk_lt eF)
 have eI := blk_keep eG hbI (blk_lt eG)
 have E : Hid (wI.heap[w.heap.size + 1]? = some (.cells r30.arr 42 (0, 0))) := eI
 have HV := Lib.hid hvI
 have BZ := Lib.hid (bt BG.out hbI)
 obtain ⟨g0, g1, g2, f0, f1, f2⟩ := fac3 (x := r30) E.out
 refine rd1 (i := 7) rfl (fun K hK => ?_)
 go_simp
 refine hK.out _ _ (ks1 (Nat.le_refl _) N0.out (below3r (Below.refl _ _) (Nat.le_refl _)) hh) (fun hh => ?_)
 clear hK K
 try simp only [na1, na2, na3, Act.put, na4, na5, na6]
 refine wpAnyH_done (by kernel_rfl) ?_ _
 obtain ⟨h0, h1, h2, _, _, _⟩ := fac3 (x := z) (set3r (x := z) E.out)
 go_wp2_with fail
 refine bodyPost_ret (v := z.val) (by simp [results, Tryz.results93, go_sem, h0, h1, h2]) rfl ⟨_, rfl, IsRat.set3r HV.out E.out, below3r BZ.out (by omega)⟩
end Go.Proofs.YthhnkobkdhjfgaaGreat

namespace Go.Proofs.YthhnkobkdhjfgaaGreat
open Go.RowKit

theorem signR_any (q : Rat) (v : Value) (w : World) (h : IsRat w v q) : Calls Tryz.prog 62 #[v] w (RetInt (sgnI (decide (q.num < 0)) q.num.natAbs) w) := by
 obtain ⟨a1, c1, a2, c2, rfl, _, _⟩ := h.opened
 exact sign_any _ _ _ _ _ _ _ _
theorem sgnI_neg (q : Rat) : decide (sgnI (decide (q.num < 0)) q.num.natAbs < 0) = decide (q.num < 0) := by
 unfold sgnI
 by_cases h : q.num < 0
 ·
  simp [h]
 ·
  by_cases h0 : q.num.natAbs = 0
  ·
   simp [h, h0]
  ·
   simp [h, h0]
end Go.Proofs.YthhnkobkdhjfgaaGreat

namespace Go.Proofs.YthhnkobkdhjfgaaGreat
open Go.RowKit

theorem IsR.open3 {w : World} {v : Value} {q : Rat} (h : IsR w v q) : ∃ x : R3, v = x.val := by
 obtain ⟨d', a1, c1, a2, c2, rfl, _⟩ := h.opened
 exact ⟨⟨_, _, _, _, _, _, _⟩, rfl⟩
end Go.Proofs.YthhnkobkdhjfgaaGreat

namespace Go.Proofs.YthhnkobkdhjfgaaGreat
open Go.RowKit

theorem IsRat.grown3 {w w' : World} {v : Value} {q : Rat} {row : Option Nat} (h : IsRat w v q) (hg : w.grownBy w' row) (hr : ∀ g, row = some g → NoDig w g) : IsRat w' v q := by
 obtain ⟨vn, vd, rfl, h1, h2⟩ := h
 exact ⟨vn, vd, rfl, IsRow.grown (.inl rfl) h1 hg hr, IsRow.grown (.inl rfl) h2 hg hr⟩
theorem IsR.grown3 {w w' : World} {v : Value} {q : Rat} {row : Option Nat} (h : IsR w v q) (hg : w.grownBy w' row) (hr : ∀ g, row = some g → NoDig w g) : IsR w' v q := by
 obtain ⟨vn, vd, d', rfl, h1, h2, h3⟩ := h
 exact ⟨vn, vd, d', rfl, IsRow.grown (.inr rfl) h1 hg hr, IsRow.grown (.inr rfl) h2 hg hr, h3⟩

def FrcRow (R : World → Value → Rat → Prop) (w : World) (xs : List Value) (es : List Rat) : Prop :=
 xs.length = es.length * 3 ∧ ∀ j, j < es.length → ∃ v0 vn vd, xs[j * 3]? = some v0 ∧ xs[j * 3 + 1]? = some vn ∧ xs[j * 3 + 2]? = some vd ∧ R w (.agg #[v0, vn, vd]) (es.getD j 0)
theorem FrcRow.mono {R : World → Value → Rat → Prop} {w w' : World} {xs : List Value} {es : List Rat} (h : FrcRow R w xs es) (hr : ∀ v q, R w v q → R w' v q) : FrcRow R w' xs es :=
 ⟨h.1, fun j hj => by obtain ⟨v0, vn, vd, h0, h1, h2, h4⟩ := h.2 j hj; exact ⟨v0, vn, vd, h0, h1, h2, hr _ _ h4⟩⟩
theorem FrcRow.nil (R : World → Value → Rat → Prop) (w : World) : FrcRow R w [] [] := ⟨rfl, fun j hj => absurd hj (by simp)⟩
theorem FrcRow.snoc {R : World → Value → Rat → Prop} {w : World} {xs : List Value} {es : List Rat} (h : FrcRow R w xs es) {v0 vn vd : Value} {q : Rat} (hq : R w (.agg #[v0, vn, vd]) q) :
  FrcRow R w (xs ++ [v0, vn, vd]) (es ++ [q]) := by
 obtain ⟨hl, h⟩ := h
 refine ⟨by simp [hl]; omega, fun j hj => ?_⟩
 rcases Nat.lt_or_ge j es.length with h1 | h1
 ·
  obtain ⟨u0, un, ud, h0, h2, h3, h5⟩ := h j h1
  have e : ∀ k, k < 3 → (xs ++ [v0, vn, vd])[j * 3 + k]? = xs[j * 3 + k]? := fun k hk => List.getElem?_append_left (by omega)
  have e2 : (es ++ [q]).getD j 0 = es.getD j 0 := by simp [List.getD, List.getElem?_append_left h1]
  rw [e2]
  exact ⟨u0, un, ud, by rw [← h0]; exact e 0 (by omega), by rw [← h2]; exact e 1 (by omega), by rw [← h3]; exact e 2 (by omega), h5⟩
 ·
  obtain rfl : j = es.length := by simp at hj; omega
  have e : ∀ k, (xs ++ [v0, vn, vd])[es.length * 3 + k]? = ([v0, vn, vd] : List Value)[k]? := fun k => by rw [List.getElem?_append_right (by omega), hl]; congr 1; omega
  have e2 : (es ++ [q]).getD es.length 0 = q := by simp [List.getD]
  rw [e2]
  exact ⟨v0, vn, vd, e 0, e 1, e 2, hq⟩
theorem FrcsOf.ofRow {R : World → Value → Rat → Prop} {w : World} {base : Nat} {e : TypeId} {v : Value} {xs : List Value} {es : List Rat} (h : LRow w base e 3 v es.length xs) (ht : FrcRow R w xs es) : FrcsOf R w v es := by
 rcases Nat.eq_zero_or_pos es.length with h0 | hp
 ·
  rcases h.1.2 with ⟨rfl, _⟩ | ⟨g, cap, cur, rfl, _⟩
  ·
   exact ⟨none, 0, by rw [h0], fun h => absurd h (by omega)⟩
  ·
   exact ⟨_, _, rfl, fun h => absurd h (by omega)⟩
 ·
  obtain ⟨g, cap, rfl⟩ := ownsRow_some h.1 hp
  have hc : ∀ j u, xs[j]? = some u → w.cell? ((⟨g, 0, none⟩ : Addr).add j) = some u := h.1.cells (g := g) rfl
  have hlt : g < w.heap.size := (h.lt rfl).1
  refine ⟨_, _, rfl, fun _ => ⟨g, 0, rfl, hlt, fun i hi => ?_⟩⟩
  obtain ⟨v0, vn, vd, h0, h1, h2, h4⟩ := ht.2 i hi
  have ea : ∀ j, (⟨g, 0, none⟩ : Addr).add j = ⟨g, 0 + j, none⟩ := fun j => by unfold Addr.add; split <;> simp_all
  refine ⟨v0, vn, vd, ?_, ?_, ?_, h4⟩
  ·
   rw [← ea]; exact hc _ _ h0
  ·
   rw [show 0 + i * 3 + 1 = 0 + (i * 3 + 1) by omega, ← ea]; exact hc _ _ h1
  ·
   rw [show 0 + i * 3 + 2 = 0 + (i * 3 + 2) by omega, ← ea]; exact hc _ _ h2
theorem ownBlock_base3 {w : World} {base : Nat} {e : TypeId} {size : Nat} {v : Value} {n : Nat} {xs : List Value} (h : w.ownsRow base e size v n xs) : ∀ k, v.ownBlock = some k → base ≤ k := by
 intro k hk
 rcases h.2 with ⟨rfl, _⟩ | ⟨g, cap, cur, rfl, hb, _⟩
 ·
  simp [Value.ownBlock] at hk
 ·
  simp [Value.ownBlock] at hk
  omega
structure TF (w0 w : World) (va vb : Value) (xsA xsB : List Value) (esA esB : List Rat) : Prop where
 x : Below w0.heap.size w0 w
 la : LRow w w0.heap.size 42 3 va esA.length xsA
 lb : LRow w w0.heap.size 48 3 vb esB.length xsB
 ta : FrcRow IsRat w xsA esA
 tb : FrcRow IsR w xsB esB
theorem TF.below {w0 w w' : World} {va vb : Value} {xsA xsB : List Value} {esA esB : List Rat} (h : TF w0 w va vb xsA xsB esA esB) (hb : Below w.heap.size w w') : TF w0 w' va vb xsA xsB esA esB :=
 ⟨ext_trans h.x hb, h.la.below hb, h.lb.below hb, h.ta.mono fun _ _ hr => hr.below hb, h.tb.mono fun _ _ hr => hr.below hb⟩
theorem TF.alloc {w0 w : World} {va vb : Value} {xsA xsB : List Value} {esA esB : List Rat} (h : TF w0 w va vb xsA xsB esA esB) (o : Obj) : TF w0 (w.alloc o) va vb xsA xsB esA esB := h.below ((Below.refl _ _).alloc (Nat.le_refl _) _)
def boxF (n d : Int) (B : Nat) (w : World) : Prop := w.heap[B]? = some (.cells #[.int .i64 n, .int .i64 d] 25 (0, 0))
theorem boxF.all {n d : Int} {B : Nat} {w : World} (h : boxF n d B w) : boxF n d B w ∧ w.cell? ⟨B, 0, none⟩ = some (.int .i64 n) ∧ w.cell? ⟨B, 1, none⟩ = some (.int .i64 d) :=
 ⟨h, blk_cell h 0 _ rfl, blk_cell h 1 _ rfl⟩
theorem boxF.below {n d : Int} {B : Nat} {a b : World} (hb : Below a.heap.size a b) (h : boxF n d B a ∧ a.cell? ⟨B, 0, none⟩ = some (.int .i64 n) ∧ a.cell? ⟨B, 1, none⟩ = some (.int .i64 d)) : boxF n d B b ∧ b.cell? ⟨B, 0, none⟩ = some (.int .i64 n) ∧ b.cell? ⟨B, 1, none⟩ = some (.int .i64 d) :=
 boxF.all (blk_keep h.1 hb (blk_lt h.1))
theorem boxF.grown {n d : Int} {B : Nat} {a b : World} {row : Option Nat} (hg : a.grownBy b row) (hne : some B ≠ row) (h : boxF n d B a ∧ a.cell? ⟨B, 0, none⟩ = some (.int .i64 n) ∧ a.cell? ⟨B, 1, none⟩ = some (.int .i64 d)) : boxF n d B b ∧ b.cell? ⟨B, 0, none⟩ = some (.int .i64 n) ∧ b.cell? ⟨B, 1, none⟩ = some (.int .i64 d) :=
 boxF.all ((hg.block B (blk_lt h.1) hne).trans h.1)
end Go.Proofs.YthhnkobkdhjfgaaGreat

namespace Go.Proofs.YthhnkobkdhjfgaaGreat
open Go.RowKit

theorem IsR.setj {w : World} {v : Value} {q : Rat} {B T : Nat} {cs : Array Value} (h : IsR w v q) (hB : w.heap[B]? = some (.cells cs T (0, 0))) (hn : noInt cs) (j : Nat) (u : Value) : IsR (w.setCell ⟨B, j, none⟩ u) v q := by
 obtain ⟨vn, vd, d', rfl, h1, h2, h3⟩ := h
 exact ⟨vn, vd, d', rfl, IsRow.set_other h1 hB hn j u, IsRow.set_other h2 hB hn j u, h3⟩
theorem IsR.set3r {w : World} {v : Value} {r : Rat} {B T : Nat} {p x : R3} (i : IsR w v r) (h : w.heap[B]? = some (.cells #[.bool p.b, .slice p.a p.n p.c, .slice p.d p.m p.e] T (0, 0))) : IsR ((((w.setCell ⟨B, 0, none⟩ (.bool x.b)).setCell ⟨B, 1, none⟩ (.slice x.a x.n x.c)).setCell ⟨B, 2, none⟩ (.slice x.d x.m x.e))) v r := by
 have h0 : (w.setCell ⟨B, 0, none⟩ (.bool x.b)).heap[B]? = some (.cells #[.bool x.b, .slice p.a p.n p.c, .slice p.d p.m p.e] T (0, 0)) := blk_set h 0 _
 have h1 : ((w.setCell ⟨B, 0, none⟩ (.bool x.b)).setCell ⟨B, 1, none⟩ (.slice x.a x.n x.c)).heap[B]? = some (.cells #[.bool x.b, .slice x.a x.n x.c, .slice p.d p.m p.e] T (0, 0)) := blk_set h0 1 _
 have h2 : (((w.setCell ⟨B, 0, none⟩ (.bool x.b)).setCell ⟨B, 1, none⟩ (.slice x.a x.n x.c)).setCell ⟨B, 2, none⟩ (.slice x.d x.m x.e)).heap[B]? = some (.cells #[.bool x.b, .slice x.a x.n x.c, .slice x.d x.m x.e] T (0, 0)) := blk_set h1 2 _
 have i0 := i.setj h (by exact ni3 _ _ _ _ _ _ _) 0 (.bool x.b)
 have i1 := i0.setj h0 (by exact ni3 _ _ _ _ _ _ _) 1 (.slice x.a x.n x.c)
 have i2 := i1.setj h1 (by exact ni3 _ _ _ _ _ _ _) 2 (.slice x.d x.m x.e)
 exact i2
theorem IsR.set6r {w : World} {v : Value} {r : Rat} {B T : Nat} {p q x y : R3} (i : IsR w v r) (h : w.heap[B]? = some (.cells #[.bool p.b, .slice p.a p.n p.c, .slice p.d p.m p.e, .bool q.b, .slice q.a q.n q.c, .slice q.d q.m q.e] T (0, 0))) : IsR (((((((w.setCell ⟨B, 0, none⟩ (.bool x.b)).setCell ⟨B, 1, none⟩ (.slice x.a x.n x.c)).setCell ⟨B, 2, none⟩ (.slice x.d x.m x.e)).setCell ⟨B, 3, none⟩ (.bool y.b)).setCell ⟨B, 4, none⟩ (.slice y.a y.n y.c)).setCell ⟨B, 5, none⟩ (.slice y.d y.m y.e))) v r := by
 have h0 : (w.setCell ⟨B, 0, none⟩ (.bool x.b)).heap[B]? = some (.cells #[.bool x.b, .slice p.a p.n p.c, .slice p.d p.m p.e, .bool q.b, .slice q.a q.n q.c, .slice q.d q.m q.e] T (0, 0)) := blk_set h 0 _
 have h1 : ((w.setCell ⟨B, 0, none⟩ (.bool x.b)).setCell ⟨B, 1, none⟩ (.slice x.a x.n x.c)).heap[B]? = some (.cells #[.bool x.b, .slice x.a x.n x.c, .slice p.d p.m p.e, .bool q.b, .slice q.a q.n q.c, .slice q.d q.m q.e] T (0, 0)) := blk_set h0 1 _
 have h2 : (((w.setCell ⟨B, 0, none⟩ (.bool x.b)).setCell ⟨B, 1, none⟩ (.slice x.a x.n x.c)).setCell ⟨B, 2, none⟩ (.slice x.d x.m x.e)).heap[B]? = some (.cells #[.bool x.b, .slice x.a x.n x.c, .slice x.d x.m x.e, .bool q.b, .slice q.a q.n q.c, .slice q.d q.m q.e] T (0, 0)) := blk_set h1 2 _
 have h3 : ((((w.setCell ⟨B, 0, none⟩ (.bool x.b)).setCell ⟨B, 1, none⟩ (.slice x.a x.n x.c)).setCell ⟨B, 2, none⟩ (.slice x.d x.m x.e)).setCell ⟨B, 3, none⟩ (.bool y.b)).heap[B]? = some (.cells #[.bool x.b, .slice x.a x.n x.c, .slice x.d x.m x.e, .bool y.b, .slice q.a q.n q.c, .slice q.d q.m q.e] T (0, 0)) := blk_set h2 3 _
 have h4 : (((((w.setCell ⟨B, 0, none⟩ (.bool x.b)).setCell ⟨B, 1, none⟩ (.slice x.a x.n x.c)).setCell ⟨B, 2, none⟩ (.slice x.d x.m x.e)).setCell ⟨B, 3, none⟩ (.bool y.b)).setCell ⟨B, 4, none⟩ (.slice y.a y.n y.c)).heap[B]? = some (.cells #[.bool x.b, .slice x.a x.n x.c, .slice x.d x.m x.e, .bool y.b, .slice y.a y.n y.c, .slice q.d q.m q.e] T (0, 0)) := blk_set h3 4 _
 have h5 : ((((((w.setCell ⟨B, 0, none⟩ (.bool x.b)).setCell ⟨B, 1, none⟩ (.slice x.a x.n x.c)).setCell ⟨B, 2, none⟩ (.slice x.d x.m x.e)).setCell ⟨B, 3, none⟩ (.bool y.b)).setCell ⟨B, 4, none⟩ (.slice y.a y.n y.c)).setCell ⟨B, 5, none⟩ (.slice y.d y.m y.e)).heap[B]? = some (.cells #[.bool x.b, .slice x.a x.n x.c, .slice x.d x.m x.e, .bool y.b, .slice y.a y.n y.c, .slice y.d y.m y.e] T (0, 0)) := blk_set h4 5 _
 have i0 := i.setj h (by exact ni6 _ _ _ _ _ _ _ _ _ _ _ _ _ _) 0 (.bool x.b)
 have i1 := i0.setj h0 (by exact ni6 _ _ _ _ _ _ _ _ _ _ _ _ _ _) 1 (.slice x.a x.n x.c)
 have i2 := i1.setj h1 (by exact ni6 _ _ _ _ _ _ _ _ _ _ _ _ _ _) 2 (.slice x.d x.m x.e)
 have i3 := i2.setj h2 (by exact ni6 _ _ _ _ _ _ _ _ _ _ _ _ _ _) 3 (.bool y.b)
 have i4 := i3.setj h3 (by exact ni6 _ _ _ _ _ _ _ _ _ _ _ _ _ _) 4 (.slice y.a y.n y.c)
 have i5 := i4.setj h4 (by exact ni6 _ _ _ _ _ _ _ _ _ _ _ _ _ _) 5 (.slice y.d y.m y.e)
 exact i5
def IsRngQ (w : World) (v : Value) (lo hi : Rat) : Prop := ∃ x y : R3, v = rngV x y ∧ IsR w x.val lo ∧ IsR w y.val hi
theorem IsRngQ.below {w w' : World} {v : Value} {lo hi : Rat} (h : IsRngQ w v lo hi) (hb : Below w.heap.size w w') : IsRngQ w' v lo hi := by
 obtain ⟨x, y, rfl, h1, h2⟩ := h
 exact ⟨x, y, rfl, h1.below hb, h2.below hb⟩
theorem rngP {w : World} {x y : R3} {lo hi : Rat} (h1 : IsRat w x.val lo) (h2 : IsRat w y.val hi) : IsRng w (rngV x y) lo hi := ⟨x, y, rfl, h1, h2⟩
def loQ (a b : Rat) : Rat := if cmpR a b ≤ 0 then a else b
def hiQ (a b : Rat) : Rat := if cmpR a b ≥ 0 then a else b
def hasB (lo hi y : Rat) : Bool := decide (cmpR lo y ≤ 0) && decide (cmpR y hi ≤ 0)
theorem bxg1 (w : World) (c0 : Array Value) (t0 : Nat) (W : World) (hW : W = w.alloc (.cells c0 t0)) :
  Below w.heap.size w W ∧ W.heap[w.heap.size]? = some (.cells c0 t0 (0, 0)) ∧ W.heap.size = w.heap.size + 1 := by
 subst hW
 have e1 : (w.alloc (.cells c0 t0)).heap.size = w.heap.size + 1 := by rw [World.size_alloc]
 have a0 := blk_new w c0 t0
 exact ⟨((Below.refl _ _).alloc (Nat.le_refl _) _), a0, by rw [e1]⟩
theorem bxg2 (w : World) (c0 : Array Value) (t0 : Nat) (c1 : Array Value) (t1 : Nat) (W : World) (hW : W = (w.alloc (.cells c0 t0)).alloc (.cells c1 t1)) :
  Below w.heap.size w W ∧ W.heap[w.heap.size]? = some (.cells c0 t0 (0, 0)) ∧ W.heap[w.heap.size + 1]? = some (.cells c1 t1 (0, 0)) ∧ W.heap.size = w.heap.size + 2 := by
 subst hW
 have e1 : (w.alloc (.cells c0 t0)).heap.size = w.heap.size + 1 := by rw [World.size_alloc]
 have e2 : ((w.alloc (.cells c0 t0)).alloc (.cells c1 t1)).heap.size = w.heap.size + 1 + 1 := by rw [World.size_alloc]; rw [e1]
 have a0 := blk_new w c0 t0
 have a1 := blk_new (w.alloc (.cells c0 t0)) c1 t1
 rw [e1] at a1
 have b0_1 := (heap_alloc_old _ (.cells c1 t1) (blk_lt a0)).trans a0
 exact ⟨(((Below.refl _ _).alloc (Nat.le_refl _) _).alloc (by rw [e1]; omega) _), b0_1, a1, by rw [e2]⟩
theorem bxg4 (w : World) (c0 : Array Value) (t0 : Nat) (c1 : Array Value) (t1 : Nat) (c2 : Array Value) (t2 : Nat) (c3 : Array Value) (t3 : Nat) (W : World) (hW : W = (((w.alloc (.cells c0 t0)).alloc (.cells c1 t1)).alloc (.cells c2 t2)).alloc (.cells c3 t3)) :
  Below w.heap.size w W ∧ W.heap[w.heap.size]? = some (.cells c0 t0 (0, 0)) ∧ W.heap[w.heap.size + 1]? = some (.cells c1 t1 (0, 0)) ∧ W.heap[w.heap.size + 1 + 1]? = some (.cells c2 t2 (0, 0)) ∧ W.heap[w.heap.size + 1 + 1 + 1]? = some (.cells c3 t3 (0, 0)) ∧ W.heap.size = w.heap.size + 4 := by
 subst hW
 have e1 : (w.alloc (.cells c0 t0)).heap.size = w.heap.size + 1 := by rw [World.size_alloc]
 have e2 : ((w.alloc (.cells c0 t0)).alloc (.cells c1 t1)).heap.size = w.heap.size + 1 + 1 := by rw [World.size_alloc]; rw [e1]
 have e3 : (((w.alloc (.cells c0 t0)).alloc (.cells c1 t1)).alloc (.cells c2 t2)).heap.size = w.heap.size + 1 + 1 + 1 := by rw [World.size_alloc]; rw [e2]
 have e4 : ((((w.alloc (.cells c0 t0)).alloc (.cells c1 t1)).alloc (.cells c2 t2)).alloc (.cells c3 t3)).heap.size = w.heap.size + 1 + 1 + 1 + 1 := by rw [World.size_alloc]; rw [e3]
 have a0 := blk_new w c0 t0
 have a1 := blk_new (w.alloc (.cells c0 t0)) c1 t1
 rw [e1] at a1
 have a2 := blk_new ((w.alloc (.cells c0 t0)).alloc (.cells c1 t1)) c2 t2
 rw [e2] at a2
 have a3 := blk_new (((w.alloc (.cells c0 t0)).alloc (.cells c1 t1)).alloc (.cells c2 t2)) c3 t3
 rw [e3] at a3
 have b0_1 := (heap_alloc_old _ (.cells c1 t1) (blk_lt a0)).trans a0
 have b0_2 := (heap_alloc_old _ (.cells c2 t2) (blk_lt b0_1)).trans b0_1
 have b0_3 := (heap_alloc_old _ (.cells c3 t3) (blk_lt b0_2)).trans b0_2
 have b1_2 := (heap_alloc_old _ (.cells c2 t2) (blk_lt a1)).trans a1
 have b1_3 := (heap_alloc_old _ (.cells c3 t3) (blk_lt b1_2)).trans b1_2
 have b2_3 := (heap_alloc_old _ (.cells c3 t3) (blk_lt a2)).trans a2
 exact ⟨(((((Below.refl _ _).alloc (Nat.le_refl _) _).alloc (by rw [e1]; omega) _).alloc (by rw [e2]; omega) _).alloc (by rw [e3]; omega) _), b0_3, b1_3, b2_3, a3, by rw [e4]⟩
end Go.Proofs.YthhnkobkdhjfgaaGreat

namespace Go.Proofs.YthhnkobkdhjfgaaGreat
open Go.RowKit

abbrev Bx := Nat × Array Value × Nat
def plainV : Value → Bool
 | .int .u64 _ => false
 | .int .u32 _ => false
 | _ => true
def Fr (p : Bool) (w : World) (v : Value) (q : Rat) : Prop := if p then IsRat w v q else IsR w v q
abbrev Fx := Bool × Value × Rat
structure Sx (w0 w : World) (bs : List Bx) (fs : List Fx) : Prop where
 bel : Below w0.heap.size w0 w
 box : ∀ (i : Nat) (b : Bx), bs[i]? = some b → w.heap[b.1]? = some (.cells b.2.1 b.2.2 (0, 0)) ∧ w0.heap.size ≤ b.1 ∧ b.2.1.toList.all plainV = true
 nod : (bs.map (·.1)).Nodup
 fra : ∀ (i : Nat) (f : Fx), fs[i]? = some f → Fr f.1 w f.2.1 f.2.2
theorem IsRow.set_plain {k : IntKind} {w : World} {v : Value} {ds : List Nat} {B T : Nat} {cs : Array Value} (hk : k = .u64 ∨ k = .u32) (h : IsRow k w v ds) (hB : w.heap[B]? = some (.cells cs T (0, 0))) (hn : cs.toList.all plainV = true) (j : Nat) (u : Value) :
  IsRow k (w.setCell ⟨B, j, none⟩ u) v ds := by
 rcases h with h | ⟨h0, b, off, cap, rfl, h1, h2, h3, h4⟩
 ·
  exact .inl h
 ·
  have hne : b ≠ B := by
   rintro rfl
   have := h4 0 h0
   rw [cell_of_row w b (off + 0) cs T (0, 0) hB] at this
   have hm := List.all_eq_true.1 hn _ (Array.mem_toList_iff.2 (Array.mem_of_getElem? this))
   rcases hk with rfl | rfl <;> exact absurd hm (by simp [plainV])
  refine .inr ⟨h0, b, off, cap, rfl, h1, h2, by simpa [World.setCell] using h3, fun i hi => ?_⟩
  rw [← h4 i hi]
  exact World.cell?_of_block (w := w) (heap_setCell_other w ⟨B, j, none⟩ b u hne)
theorem Fr.set {p : Bool} {w : World} {v : Value} {q : Rat} {B T : Nat} {cs : Array Value} (h : Fr p w v q) (hB : w.heap[B]? = some (.cells cs T (0, 0))) (hn : cs.toList.all plainV = true) (j : Nat) (u : Value) : Fr p (w.setCell ⟨B, j, none⟩ u) v q := by
 cases p with
 | true =>
  obtain ⟨vn, vd, rfl, h1, h2⟩ := (h : IsRat w v q)
  exact (⟨vn, vd, rfl, IsRow.set_plain (.inl rfl) h1 hB hn j u, IsRow.set_plain (.inl rfl) h2 hB hn j u⟩ : IsRat _ _ _)
 | false =>
  obtain ⟨vn, vd, d', rfl, h1, h2, h3⟩ := (h : IsR w v q)
  exact (⟨vn, vd, d', rfl, IsRow.set_plain (.inr rfl) h1 hB hn j u, IsRow.set_plain (.inr rfl) h2 hB hn j u, h3⟩ : IsR _ _ _)
theorem Fr.below {p : Bool} {w w' : World} {v : Value} {q : Rat} (h : Fr p w v q) (hb : Below w.heap.size w w') : Fr p w' v q := by
 cases p with
 | true => exact IsRat.below (h : IsRat w v q) hb
 | false => exact IsR.below (h : IsR w v q) hb
theorem Sx.init (w : World) : Sx w w [] [] := ⟨Below.refl _ _, fun i b h => by simp at h, by simp, fun i f h => by simp at h⟩
theorem Sx.p {w0 w : World} {bs : List Bx} {fs : List Fx} (h : Sx w0 w bs fs) (i : Nat) (v : Value) (q : Rat) (hi : fs[i]? = some (true, v, q)) : IsRat w v q := h.fra i _ hi
theorem Sx.q {w0 w : World} {bs : List Bx} {fs : List Fx} (h : Sx w0 w bs fs) (i : Nat) (v : Value) (q : Rat) (hi : fs[i]? = some (false, v, q)) : IsR w v q := h.fra i _ hi
theorem Sx.at {w0 w : World} {bs : List Bx} {fs : List Fx} (h : Sx w0 w bs fs) (i : Nat) (B T : Nat) (cs : Array Value) (hi : bs[i]? = some (B, cs, T)) : w.heap[B]? = some (.cells cs T (0, 0)) := (h.box i _ hi).1
theorem Sx.addP {w0 w : World} {bs : List Bx} {fs : List Fx} (h : Sx w0 w bs fs) {v : Value} {q : Rat} (hv : IsRat w v q) : Sx w0 w bs ((true, v, q) :: fs) :=
 ⟨h.bel, h.box, h.nod, fun i f hf => by
  match i, hf with
  | 0, hf => simp at hf; subst hf; exact hv
  | i + 1, hf => exact h.fra i f (by simpa using hf)⟩
theorem Sx.below {w0 w w' : World} {bs : List Bx} {fs : List Fx} (h : Sx w0 w bs fs) (hb : Below w.heap.size w w') : Sx w0 w' bs fs :=
 ⟨ext_trans h.bel hb, fun i b hi => by obtain ⟨h1, h2⟩ := h.box i b hi; exact ⟨blk_keep h1 hb (blk_lt h1), h2⟩, h.nod, fun i f hf => (h.fra i f hf).below hb⟩
theorem Sx.drew {w0 w : World} {bs : List Bx} {fs : List Fx} (h : Sx w0 w bs fs) : Sx w0 w.drew bs fs := h.below (Below.refl _ _).drew
theorem Sx.alloc {w0 w : World} {bs : List Bx} {fs : List Fx} (h : Sx w0 w bs fs) {B T : Nat} {cs : Array Value} (hB : w.heap.size = B) (hp : cs.toList.all plainV = true) : Sx w0 (w.alloc (.cells cs T)) ((B, cs, T) :: bs) fs := by
 subst hB
 have hb := (Below.refl w.heap.size w).alloc (Nat.le_refl _) (.cells cs T)
 have h' := h.below hb
 refine ⟨h'.bel, fun i b hi => ?_, ?_, h'.fra⟩
 ·
  match i, hi with
  | 0, hi =>
   simp at hi
   subst hi
   exact ⟨blk_new w cs T, h.bel.size, hp⟩
  | i + 1, hi => exact h'.box i b (by simpa using hi)
 ·
  rw [List.map_cons, List.nodup_cons]
  refine ⟨fun hm => ?_, h.nod⟩
  obtain ⟨b, hb1, hb2⟩ := List.mem_map.1 hm
  obtain ⟨i, hi⟩ := List.mem_iff_getElem?.1 hb1
  have := blk_lt (h.box i b hi).1
  omega
theorem Sx.set {w0 w : World} {bs : List Bx} {fs : List Fx} (h : Sx w0 w bs fs) (i : Nat) {B T : Nat} {cs : Array Value} (hi : bs[i]? = some (B, cs, T)) (j : Nat) {v : Value} (hv : plainV v = true) : Sx w0 (w.setCell ⟨B, j, none⟩ v) (bs.set i (B, cs.setIfInBounds j v, T)) fs := by
 obtain ⟨h1, h2, h3⟩ := h.box i _ hi
 refine ⟨h.bel.setCell (p := ⟨B, j, none⟩) h2 v, fun k b hk => ?_, ?_, fun k f hf => (h.fra k f hf).set h1 h3 j v⟩
 ·
  rw [List.getElem?_set] at hk
  by_cases hik : i = k
  ·
   subst hik
   rw [if_pos rfl] at hk
   split at hk
   ·
    injection hk with hk
    subst hk
    refine ⟨blk_set h1 j v, h2, ?_⟩
    rw [List.all_eq_true] at h3 ⊢
    intro u hu
    rw [Array.toList_setIfInBounds] at hu
    rcases List.mem_or_eq_of_mem_set hu with hu | hu
    ·
     exact h3 u hu
    ·
     rw [hu]; exact hv
   ·
    exact absurd hk (by simp)
  ·
   rw [if_neg hik] at hk
   obtain ⟨g1, g2⟩ := h.box k b hk
   have hne : b.1 ≠ B := by
    intro he
    have e1 : (bs.map (·.1))[i]? = some B := by rw [List.getElem?_map, hi]; rfl
    have e2 : (bs.map (·.1))[k]? = some B := by rw [List.getElem?_map, hk]; simp [he]
    obtain ⟨l1, _⟩ := List.getElem?_eq_some_iff.1 e1
    exact hik ((List.getElem?_inj l1 h.nod).1 (e1.trans e2.symm))
   exact ⟨(heap_setCell_other w ⟨B, j, none⟩ b.1 v hne).trans g1, g2⟩
 ·
  have e : (bs.set i (B, cs.setIfInBounds j v, T)).map (·.1) = bs.map (·.1) := by
   rw [List.map_set]
   apply List.ext_getElem?
   intro k
   rw [List.getElem?_set]
   by_cases hik : i = k
   ·
    subst hik
    have e1 : (bs.map (·.1))[i]? = some B := by rw [List.getElem?_map, hi]; rfl
    obtain ⟨l1, _⟩ := List.getElem?_eq_some_iff.1 e1
    rw [if_pos rfl, if_pos l1, e1]
   ·
    rw [if_neg hik]
  rw [e]
  exact h.nod
theorem Sx.erase {w0 w : World} {bs : List Bx} {fs : List Fx} (h : Sx w0 w bs fs) (i : Nat) : Sx w0 w (bs.eraseIdx i) [] := by
 refine ⟨h.bel, fun k b hk => ?_, ?_, fun k f hf => by simp at hf⟩
 ·
  rw [List.getElem?_eraseIdx] at hk
  split at hk
  ·
   exact h.box _ _ hk
  ·
   exact h.box _ _ hk
 ·
  exact h.nod.sublist ((List.eraseIdx_sublist _ _).map _)
theorem Sx.bare {w0 w : World} {bs : List Bx} {fs : List Fx} (h : Sx w0 w bs fs) : Sx w0 w bs [] := ⟨h.bel, h.box, h.nod, fun k f hf => by simp at hf⟩
theorem Sx.st_R {w0 w : World} {bs : List Bx} {fs : List Fx} (h : Sx w0 w bs fs) (i : Nat) (o0 : R3) (n0 : R3) {B T : Nat} (hi : bs[i]? = some (B, #[.bool o0.b, .slice o0.a o0.n o0.c, .slice o0.d o0.m o0.e], T)) :
  Sx w0 ((((w).setCell ⟨B, 0, none⟩ (.bool n0.b)).setCell ⟨B, 1, none⟩ (.slice n0.a n0.n n0.c)).setCell ⟨B, 2, none⟩ (.slice n0.d n0.m n0.e)) (bs.set i (B, #[.bool n0.b, .slice n0.a n0.n n0.c, .slice n0.d n0.m n0.e], T)) fs := by
 have hl := (List.getElem?_eq_some_iff.1 hi).1
 have g := (((h).set i hi 0 (v := .bool n0.b) rfl).set i (by rw [List.getElem?_set, if_pos rfl, if_pos (by simpa using hl)]) 1 (v := .slice n0.a n0.n n0.c) rfl).set i (by rw [List.getElem?_set, if_pos rfl, if_pos (by simpa using hl)]) 2 (v := .slice n0.d n0.m n0.e) rfl
 simpa using g
theorem Sx.st_RR {w0 w : World} {bs : List Bx} {fs : List Fx} (h : Sx w0 w bs fs) (i : Nat) (o0 : R3) (o1 : R3) (n0 : R3) (n1 : R3) {B T : Nat} (hi : bs[i]? = some (B, #[.bool o0.b, .slice o0.a o0.n o0.c, .slice o0.d o0.m o0.e, .bool o1.b, .slice o1.a o1.n o1.c, .slice o1.d o1.m o1.e], T)) :
  Sx w0 (((((((w).setCell ⟨B, 0, none⟩ (.bool n0.b)).setCell ⟨B, 1, none⟩ (.slice n0.a n0.n n0.c)).setCell ⟨B, 2, none⟩ (.slice n0.d n0.m n0.e)).setCell ⟨B, 3, none⟩ (.bool n1.b)).setCell ⟨B, 4, none⟩ (.slice n1.a n1.n n1.c)).setCell ⟨B, 5, none⟩ (.slice n1.d n1.m n1.e)) (bs.set i (B, #[.bool n0.b, .slice n0.a n0.n n0.c, .slice n0.d n0.m n0.e, .bool n1.b, .slice n1.a n1.n n1.c, .slice n1.d n1.m n1.e], T)) fs := by
 have hl := (List.getElem?_eq_some_iff.1 hi).1
 have g := ((((((h).set i hi 0 (v := .bool n0.b) rfl).set i (by rw [List.getElem?_set, if_pos rfl, if_pos (by simpa using hl)]) 1 (v := .slice n0.a n0.n n0.c) rfl).set i (by rw [List.getElem?_set, if_pos rfl, if_pos (by simpa using hl)]) 2 (v := .slice n0.d n0.m n0.e) rfl).set i (by rw [List.getElem?_set, if_pos rfl, if_pos (by simpa using hl)]) 3 (v := .bool n1.b) rfl).set i (by rw [List.getElem?_set, if_pos rfl, if_pos (by simpa using hl)]) 4 (v := .slice n1.a n1.n n1.c) rfl).set i (by rw [List.getElem?_set, if_pos rfl, if_pos (by simpa using hl)]) 5 (v := .slice n1.d n1.m n1.e) rfl
 simpa using g
theorem Sx.ne {w0 w : World} {bs : List Bx} {fs : List Fx} (h : Sx w0 w bs fs) (i j : Nat) {B T : Nat} {cs : Array Value} {B' T' : Nat} {cs' : Array Value} (hi : bs[i]? = some (B, cs, T)) (hj : bs[j]? = some (B', cs', T')) (hij : i ≠ j) : B ≠ B' := by
 intro e
 obtain ⟨l1, e1⟩ := List.getElem?_eq_some_iff.1 hi
 obtain ⟨l2, e2⟩ := List.getElem?_eq_some_iff.1 hj
 refine hij ((List.getElem_inj (h₀ := by simpa using l1) (h₁ := by simpa using l2) h.nod).1 ?_)
 simp [e1, e2, e]
theorem isRat_r30 (w : World) : IsRat w r30.val 0 := ⟨_, _, rfl, IsNat.zero _ _ _, IsNat.zero _ _ _⟩
theorem mk_alloc {m W : World} {o : Obj} (h : Below m.heap.size m W) : Below m.heap.size m (W.alloc o) := h.alloc h.size o
theorem mk_set {m W : World} {B j : Nat} {v : Value} (h : Below m.heap.size m W) (hB : m.heap.size ≤ B) : Below m.heap.size m (W.setCell ⟨B, j, none⟩ v) := h.setCell (p := ⟨B, j, none⟩) hB v
theorem nb1 {α : Type _} {xs : List α} {i : Nat} (h : i < xs.toArray.size) : xs.toArray[i] = xs[i] := List.getElem_toArray h
theorem nb2 {α : Type _} (a : α) (l : List α) (h : 0 < (a :: l).length) : (a :: l)[0] = a := List.getElem_cons_zero a l h
theorem nb3 {α : Type _} (a : α) (l : List α) (i : Nat) (h : i + 1 < (a :: l).length) : (a :: l)[i + 1] = l[i]'(by simpa using h) := List.getElem_cons_succ a l i h
theorem nb4 {α : Type _} (l : List α) (i : Nat) (a : α) : l.toArray.setIfInBounds i a = (l.set i a).toArray := List.setIfInBounds_toArray l i a
theorem nb5 {α : Type _} {x : α} {xs : List α} {a : α} : (x :: xs).set 0 a = a :: xs := List.set_cons_zero
theorem nb6 {α : Type _} {x : α} {xs : List α} {i : Nat} {a : α} : (x :: xs).set (i + 1) a = x :: xs.set i a := List.set_cons_succ
section
variable {P : Program} {ops : Array Oper} {Q : Exit → Act → World → Prop} {md : Region.Mode} {S : World → Prop}
theorem tkA {i : Nat} {oi : Oper} {v : Value} {fuel : Nat} {listed : Array Bool} {a : Act} {w : World} (hi : ops[i]? = some oi) (hy : YieldsIf P ops S oi v a) (hS : S w)
  (h : wpAnyH P md ops Q S fuel (listed.setIfInBounds i true) (a.put oi.dst v) w) (hs : Region.noSelect ops = true := by kernel_rfl) (hf : Region.free md ops listed i = true := by kernel_rfl)
  (hr : (Region.ready md ops listed).contains i = true := by kernel_rfl) (hQ : ∀ c a w, Q (.panic c) (a.put oi.dst v) w → Q (.panic c) a w := by exact fun _ _ _ h => h) : wpAnyH P md ops Q S (fuel + 1) listed a w :=
 wpAnyH_take hi hs hf hr hQ hy hS h
theorem rdA {i : Nat} {o : Oper} {fuel : Nat} {listed : Array Bool} {a : Act} {w : World} (ho : ops[i]? = some o)
  (h : ∀ K' : Act → World → Prop, Shut (∀ a w, S w → (S w → wpAnyH P md ops Q S fuel (listed.setIfInBounds i true) a w) → K' a w) → if Region.wanted o (yielded ops a.tmps) = true then Oper.wp P o a w K' Q else K' (a.put o.dst undef) w)
  (hr : Region.ready md ops listed = [i] := by kernel_rfl) : wpAnyH P md ops Q S (fuel + 1) listed a w :=
 wpAnyH_ready hr (by simp) (AllReadyH.cons ho h AllReadyH.nil)
end
end Go.Proofs.YthhnkobkdhjfgaaGreat

namespace Go.Proofs.YthhnkobkdhjfgaaGreat
open Go.RowKit

def bestUp (b : Rat → Rat → Bool) (f : Nat → Rat) : Nat → Rat
 | 0 => f 0
 | i + 1 => if b (f (i + 1)) (bestUp b f i) then f (i + 1) else bestUp b f i
def ltB (x y : Rat) : Bool := decide (cmpR x y < 0)
def gtB (x y : Rat) : Bool := decide (cmpR x y > 0)
theorem bestUp_all {b : Rat → Rat → Bool} {f : Nat → Rat} {P : Rat → Prop} (h : ∀ i, P (f i)) : ∀ n, P (bestUp b f n)
 | 0 => h 0
 | n + 1 => by
  unfold bestUp
  split
  ·
   exact h _
  ·
   exact bestUp_all h n
theorem kc6 {W a b : World} {B0 j0 B1 j1 B2 j2 B3 j3 B4 j4 B5 j5 : Nat} {v0 v1 v2 v3 v4 v5 : Value} (hb : Below a.heap.size a b) (h : Below W.heap.size W a ∧ a.cell? ⟨B0, j0, none⟩ = some (v0) ∧ a.cell? ⟨B1, j1, none⟩ = some (v1) ∧ a.cell? ⟨B2, j2, none⟩ = some (v2) ∧ a.cell? ⟨B3, j3, none⟩ = some (v3) ∧ a.cell? ⟨B4, j4, none⟩ = some (v4) ∧ a.cell? ⟨B5, j5, none⟩ = some (v5)) : Below W.heap.size W b ∧ b.cell? ⟨B0, j0, none⟩ = some (v0) ∧ b.cell? ⟨B1, j1, none⟩ = some (v1) ∧ b.cell? ⟨B2, j2, none⟩ = some (v2) ∧ b.cell? ⟨B3, j3, none⟩ = some (v3) ∧ b.cell? ⟨B4, j4, none⟩ = some (v4) ∧ b.cell? ⟨B5, j5, none⟩ = some (v5) := by
 obtain ⟨h0, k0, k1, k2, k3, k4, k5⟩ := h
 have e : ∀ B j v, a.cell? ⟨B, j, none⟩ = some v → b.cell? ⟨B, j, none⟩ = some v := fun B j v h => (hb.cell (p := ⟨B, j, none⟩) (World.block_lt_of_cell? (h := h))).trans h
 exact ⟨bt h0 hb, e _ _ _ k0, e _ _ _ k1, e _ _ _ k2, e _ _ _ k3, e _ _ _ k4, e _ _ _ k5⟩
structure MB (w : World) (y : R3) (q : Rat) (wr : World) : Prop where
 bel : Below w.heap.size w wr
 r : wr.heap[w.heap.size]? = some (.cells r30.arr 42 (0, 0))
 m : wr.heap[w.heap.size + 1]? = some (.cells y.arr 42 (0, 0))
 v : IsRat wr y.val q
theorem MB.below {w a b : World} {y : R3} {q : Rat} (h : MB w y q a) (hb : Below a.heap.size a b) : MB w y q b := ⟨ext_trans h.bel hb, blk_keep h.r hb (blk_lt h.r), blk_keep h.m hb (blk_lt h.m), h.v.below hb⟩
theorem MB.set {w a : World} {y x : R3} {q p : Rat} (h : MB w y q a) (hx : IsRat a x.val p) : MB w x p (((a.setCell ⟨w.heap.size + 1, 0, none⟩ (.bool x.b)).setCell ⟨w.heap.size + 1, 1, none⟩ (.slice x.a x.n x.c)).setCell ⟨w.heap.size + 1, 2, none⟩ (.slice x.d x.m x.e)) :=
 ⟨below3r h.bel (by omega), blk_keep h.r (below3r (Below.refl (w.heap.size + 1) a) (Nat.le_refl _)) (by omega), set3r h.m, hx.set3r h.m⟩
set_option maxRecDepth 100000 in
set_option maxHeartbeats 2000000 in
theorem minf_any (qs : List Rat) (v : Value) (w : World) (h : FrcsOf IsRat w v qs) (h1 : 1 ≤ qs.length) (h2 : qs.length ≤ 1000) (hz : ∀ i, szR (qs.getD i 0) 274877906944) :
  Calls Tryz.prog 137 #[v, .func (.func 44) #[] #[]] w (RetRat (bestUp ltB (fun i => qs.getD i 0) (qs.length - 1)) w) := by
 have HL := Lib.hid h
 obtain ⟨ao, cap, rfl, hE⟩ := h
 obtain ⟨bl, off, rfl, hbl, hd⟩ := hE (by omega)
 have HD := Lib.hid hd
 have HZ := Lib.hid hz
 obtain ⟨x0, x1, x2, p0, p1, p2, hx⟩ := hd 0 (by omega)
 obtain ⟨x, hxe⟩ := hx.open3
 injection hxe with hxe
 simp only [Array.mk.injEq, List.cons.injEq] at hxe
 obtain ⟨rfl, rfl, rfl, _⟩ := hxe
 have HX : Hid (IsRat w x.val (qs.getD 0 0)) := hx
 rw [Nat.zero_mul, Nat.add_zero] at p0 p1 p2
 have t1 : decide ((qs.length : Int) < 1) = false := by simp; omega
 have h0 : (0 : Int) < qs.length := by omega
 obtain ⟨n, hn⟩ : ∃ n, qs.length = n + 1 := ⟨qs.length - 1, by omega⟩
 have HN : Hid (qs.length = n + 1 ∧ qs.length - 1 = n) := ⟨hn, by omega⟩
 rw [HN.out.2]
 clear hE hd hz hx h1 hn
 go_enter Tryz.func137, Tryz.ntmps137
 go_wp2_with fail
 generalize hW0 : (w.alloc (.cells _ _)).alloc (.cells _ _) = W at *
 obtain ⟨hal, hE0, hE1, hWs⟩ := bxg2 w _ _ _ _ W hW0.symm
 have HM : Hid (MB w x (bestUp ltB (fun i => qs.getD i 0) 0) W) := ⟨hal, hE0, hE1, HX.out.below hal⟩
 clear hW0 hal hE0 hE1 hWs p0 p1 p2 h0 HX t1
 go_loopw [6] (fun iv wr => ∃ (i : Nat) (y : R3), 1 ≤ i ∧ i ≤ qs.length ∧ iv = .int .i64 i ∧ Hid (MB w y (bestUp ltB (fun i => qs.getD i 0) (i - 1)) wr))
  (fun iv _ => qs.length - (intOf iv).toNat)
 case atStart => exact ⟨1, x, Nat.le_refl _, by have := HN.out; omega, rfl, HM⟩
 case round =>
  obtain ⟨i, y, hi1, hi, rfl, HMR⟩ := hrel
  by_cases hlt : i < qs.length
  ·
   obtain ⟨a0, a1, a2, p0, p1, p2, hqa⟩ := HD.out i hlt
   have c : ∀ j v, w.cell? ⟨bl, j, none⟩ = some v → wr.cell? ⟨bl, j, none⟩ = some v := fun j v h => (HMR.out.bel.cell (p := ⟨bl, j, none⟩) hbl).trans h
   replace p0 := c _ _ p0
   replace p1 := c _ _ p1
   replace p2 := c _ _ p2
   obtain ⟨z, hze⟩ := hqa.open3
   injection hze with hze
   simp only [Array.mk.injEq, List.cons.injEq] at hze
   obtain ⟨rfl, rfl, rfl, _⟩ := hze
   have HA : Hid (IsRat wr z.val (qs.getD i 0)) := hqa.below HMR.out.bel
   have HY := Lib.hid HMR.out.v
   obtain ⟨s0, s1, s2, _, _, _⟩ := fac3 HMR.out.m
   have hlt' : (i : Int) < qs.length := by omega
   have hge' : (0 : Int) ≤ i := by omega
   have HLT := Lib.hid hlt
   obtain ⟨j, hj⟩ : ∃ j, i = j + 1 := ⟨i - 1, by omega⟩
   have ej : i - 1 = j := by omega
   rw [ej] at HMR HY
   have HF : Hid (bestUp ltB (fun i => qs.getD i 0) i = if ltB (qs.getD i 0) (bestUp ltB (fun i => qs.getD i 0) j) then qs.getD i 0 else bestUp ltB (fun i => qs.getD i 0) j) := by rw [hj]; rfl
   have ZA := Lib.hid (HZ.out i)
   have ZB : Hid (szR (bestUp ltB (fun i => qs.getD i 0) j) 274877906944) := bestUp_all (P := fun x => szR x 274877906944) HZ.out j
   have HY2 : Hid (IsRat wr y.val (bestUp ltB (fun i => qs.getD i 0) j)) := HY.out
   have HMR2 : Hid (MB w y (bestUp ltB (fun i => qs.getD i 0) j) wr) := HMR.out
   obtain ⟨C, hC⟩ : ∃ C, C = cmpR (qs.getD i 0) (bestUp ltB (fun i => qs.getD i 0) j) := ⟨_, rfl⟩
   have HC := Lib.hid hC
   have tcc : decide (C < 0) = ltB (qs.getD i 0) (bestUp ltB (fun i => qs.getD i 0) j) := by rw [hC]; rfl
   clear hqa c hC hlt hi hi1 HY HMR hj ej
   generalize qs.getD i 0 = qa at *
   generalize bestUp ltB (fun i => qs.getD i 0) j = q at *
   rename Hid (IsRat wr y.val q) => HY
   generalize ltB qa q = fb at *
   go_upto_region 7 with fail
   refine wp_region_held_drew (S := (fun w' => Below wr.heap.size wr w' ∧ w'.cell? ⟨bl, off + i * 3, none⟩ = some (.bool z.b) ∧ w'.cell? ⟨bl, off + i * 3 + 1, none⟩ = some (.slice z.a z.n z.c) ∧ w'.cell? ⟨bl, off + i * 3 + 2, none⟩ = some (.slice z.d z.m z.e) ∧ w'.cell? ⟨w.heap.size + 1, 0, none⟩ = some (.bool y.b) ∧ w'.cell? ⟨w.heap.size + 1, 1, none⟩ = some (.slice y.a y.n y.c) ∧ w'.cell? ⟨w.heap.size + 1, 2, none⟩ = some (.slice y.d y.m y.e))) (by kernel_rfl) ⟨(Below.refl _ _).drew, p0, p1, p2, s0, s1, s2⟩ (fun hh => ?_)
   have HAD := Lib.hid (Below.refl wr.heap.size wr).drew
   clear p0 p1 p2 s0 s1 s2
   refine tk0 (i := 0) (v := ?vp0) rfl (Or.inl ⟨by rfl, ?hyp0⟩) (by assumption) ?rep0
   case hyp0 => intro w hSw; (try dsimp only at hSw); (go_simp <;> with_reducible rfl)
   try simp only [na1, na2, na3, Act.put, na4, na5, na6]
   refine tk0 (i := 1) (v := ?vp1) rfl (Or.inl ⟨by rfl, ?hyp1⟩) (by assumption) ?rep1
   case hyp1 => intro w hSw; (try dsimp only at hSw); (go_simp <;> with_reducible rfl)
   try simp only [na1, na2, na3, Act.put, na4, na5, na6]
   refine tk0 (i := 2) (v := ?vp2) rfl (Or.inl ⟨by rfl, ?hyp2⟩) (by assumption) ?rep2
   case hyp2 => intro w hSw; (try dsimp only at hSw); (go_simp <;> with_reducible rfl)
   try simp only [na1, na2, na3, Act.put, na4, na5, na6]
   refine tk0 (i := 3) (v := ?vp3) rfl (Or.inl ⟨by rfl, ?hyp3⟩) (by assumption) ?rep3
   case hyp3 => intro w hSw; (try dsimp only at hSw); (go_simp <;> with_reducible rfl)
   try simp only [na1, na2, na3, Act.put, na4, na5, na6]
   refine tk0 (i := 4) (v := ?vp4) rfl (Or.inl ⟨by rfl, ?hyp4⟩) (by assumption) ?rep4
   case hyp4 => intro w hSw; (try dsimp only at hSw); (go_simp <;> with_reducible rfl)
   try simp only [na1, na2, na3, Act.put, na4, na5, na6]
   refine tk0 (i := 5) (v := ?vp5) rfl (Or.inl ⟨by rfl, ?hyp5⟩) (by assumption) ?rep5
   case hyp5 => intro w hSw; (try dsimp only at hSw); (go_simp <;> with_reducible rfl)
   try simp only [na1, na2, na3, Act.put, na4, na5, na6]
   refine rd1 (i := 6) rfl (fun K hK => ?_)
   go_simp
   go_wp2_with (go_at_call 44; (with_reducible refine (cmpRat_any qa q _ _ _ (HA.out.below HAD.out) (HY.out.below HAD.out) ZA.out ZB.out).mono ?_); rintro e wA ⟨rfl, hbA⟩; rw [← HC.out])
   refine hK.out _ _ (kc6 hbA hh) (fun hh => ?_)
   clear hK K
   try simp only [na1, na2, na3, Act.put, na4, na5, na6]
   refine tk0 (i := 7) (v := ?vp7) rfl (Or.inl ⟨by rfl, ?hyp7⟩) (by assumption) ?rep7
   case hyp7 => intro w hSw; (try dsimp only at hSw); (go_simp <;> with_reducible rfl)
   try simp only [na1, na2, na3, Act.put, na4, na5, na6]
   refine wpAnyH_done (by kernel_rfl) ?_ _
   have HM2 : Hid (MB w y q wA) := HMR2.out.below (bt HAD.out hbA)
   have HA2 : Hid (IsRat wA z.val qa) := HA.out.below (bt HAD.out hbA)
   obtain ⟨_, p0, p1, p2, _, _, _⟩ := hh
   obtain ⟨s0, s1, s2, f0, f1, f2⟩ := fac3 HM2.out.m
   clear hbA
   cases fb with
   | true =>
    have HQ : Hid (bestUp ltB (fun i => qs.getD i 0) i = qa) := HF.out
    go_wp2_with fail
    exact ⟨⟨i + 1, z, by omega, by have := HLT.out; omega, by go_num, by rw [show i + 1 - 1 = i by omega, HQ.out]; exact HM2.out.set HA2.out⟩, meas_up HLT.out⟩
   | false =>
    have HQ : Hid (bestUp ltB (fun i => qs.getD i 0) i = q) := HF.out
    go_wp2_with fail
    exact ⟨⟨i + 1, y, by omega, by have := HLT.out; omega, by go_num, by rw [show i + 1 - 1 = i by omega, HQ.out]; exact HM2⟩, meas_up HLT.out⟩
  ·
   obtain rfl : i = qs.length := by omega
   rw [HN.out.2] at HMR
   obtain ⟨s0, s1, s2, _, _, _⟩ := fac3 HMR.out.m
   obtain ⟨g0, g1, g2, f0, f1, f2⟩ := fac3 (x := r30) HMR.out.r
   go_wp2_with fail
   obtain ⟨h0, h1, h2, _, _, _⟩ := fac3 (x := y) (set3r (x := y) HMR.out.r)
   refine bodyPost_ret (v := y.val) (by simp [results, Tryz.results137, go_sem, h0, h1, h2]) rfl ⟨_, rfl, HMR.out.v.set3r HMR.out.r, below3r HMR.out.bel (by omega)⟩
set_option maxRecDepth 100000 in
set_option maxHeartbeats 2000000 in
theorem maxf_any (qs : List Rat) (v : Value) (w : World) (h : FrcsOf IsRat w v qs) (h1 : 1 ≤ qs.length) (h2 : qs.length ≤ 1000) (hz : ∀ i, szR (qs.getD i 0) 274877906944) :
  Calls Tryz.prog 138 #[v, .func (.func 44) #[] #[]] w (RetRat (bestUp gtB (fun i => qs.getD i 0) (qs.length - 1)) w) := by
 have HL := Lib.hid h
 obtain ⟨ao, cap, rfl, hE⟩ := h
 obtain ⟨bl, off, rfl, hbl, hd⟩ := hE (by omega)
 have HD := Lib.hid hd
 have HZ := Lib.hid hz
 obtain ⟨x0, x1, x2, p0, p1, p2, hx⟩ := hd 0 (by omega)
 obtain ⟨x, hxe⟩ := hx.open3
 injection hxe with hxe
 simp only [Array.mk.injEq, List.cons.injEq] at hxe
 obtain ⟨rfl, rfl, rfl, _⟩ := hxe
 have HX : Hid (IsRat w x.val (qs.getD 0 0)) := hx
 rw [Nat.zero_mul, Nat.add_zero] at p0 p1 p2
 have t1 : decide ((qs.length : Int) < 1) = false := by simp; omega
 have h0 : (0 : Int) < qs.length := by omega
 obtain ⟨n, hn⟩ : ∃ n, qs.length = n + 1 := ⟨qs.length - 1, by omega⟩
 have HN : Hid (qs.length = n + 1 ∧ qs.length - 1 = n) := ⟨hn, by omega⟩
 rw [HN.out.2]
 clear hE hd hz hx h1 hn
 go_enter Tryz.func138, Tryz.ntmps138
 go_wp2_with fail
 generalize hW0 : (w.alloc (.cells _ _)).alloc (.cells _ _) = W at *
 obtain ⟨hal, hE0, hE1, hWs⟩ := bxg2 w _ _ _ _ W hW0.symm
 have HM : Hid (MB w x (bestUp gtB (fun i => qs.getD i 0) 0) W) := ⟨hal, hE0, hE1, HX.out.below hal⟩
 clear hW0 hal hE0 hE1 hWs p0 p1 p2 h0 HX t1
 go_loopw [6] (fun iv wr => ∃ (i : Nat) (y : R3), 1 ≤ i ∧ i ≤ qs.length ∧ iv = .int .i64 i ∧ Hid (MB w y (bestUp gtB (fun i => qs.getD i 0) (i - 1)) wr))
  (fun iv _ => qs.length - (intOf iv).toNat)
 case atStart => exact ⟨1, x, Nat.le_refl _, by have := HN.out; omega, rfl, HM⟩
 case round =>
  obtain ⟨i, y, hi1, hi, rfl, HMR⟩ := hrel
  by_cases hlt : i < qs.length
  ·
   obtain ⟨a0, a1, a2, p0, p1, p2, hqa⟩ := HD.out i hlt
   have c : ∀ j v, w.cell? ⟨bl, j, none⟩ = some v → wr.cell? ⟨bl, j, none⟩ = some v := fun j v h => (HMR.out.bel.cell (p := ⟨bl, j, none⟩) hbl).trans h
   replace p0 := c _ _ p0
   replace p1 := c _ _ p1
   replace p2 := c _ _ p2
   obtain ⟨z, hze⟩ := hqa.open3
   injection hze with hze
   simp only [Array.mk.injEq, List.cons.injEq] at hze
   obtain ⟨rfl, rfl, rfl, _⟩ := hze
   have HA : Hid (IsRat wr z.val (qs.getD i 0)) := hqa.below HMR.out.bel
   have HY := Lib.hid HMR.out.v
   obtain ⟨s0, s1, s2, _, _, _⟩ := fac3 HMR.out.m
   have hlt' : (i : Int) < qs.length := by omega
   have hge' : (0 : Int) ≤ i := by omega
   have HLT := Lib.hid hlt
   obtain ⟨j, hj⟩ : ∃ j, i = j + 1 := ⟨i - 1, by omega⟩
   have ej : i - 1 = j := by omega
   rw [ej] at HMR HY
   have HF : Hid (bestUp gtB (fun i => qs.getD i 0) i = if gtB (qs.getD i 0) (bestUp gtB (fun i => qs.getD i 0) j) then qs.getD i 0 else bestUp gtB (fun i => qs.getD i 0) j) := by rw [hj]; rfl
   have ZA := Lib.hid (HZ.out i)
   have ZB : Hid (szR (bestUp gtB (fun i => qs.getD i 0) j) 274877906944) := bestUp_all (P := fun x => szR x 274877906944) HZ.out j
   have HY2 : Hid (IsRat wr y.val (bestUp gtB (fun i => qs.getD i 0) j)) := HY.out
   have HMR2 : Hid (MB w y (bestUp gtB (fun i => qs.getD i 0) j) wr) := HMR.out
   obtain ⟨C, hC⟩ : ∃ C, C = cmpR (qs.getD i 0) (bestUp gtB (fun i => qs.getD i 0) j) := ⟨_, rfl⟩
   have HC := Lib.hid hC
   have tcc : decide (C > 0) = gtB (qs.getD i 0) (bestUp gtB (fun i => qs.getD i 0) j) := by rw [hC]; rfl
   clear hqa c hC hlt hi hi1 HY HMR hj ej
   generalize qs.getD i 0 = qa at *
   generalize bestUp gtB (fun i => qs.getD i 0) j = q at *
   rename Hid (IsRat wr y.val q) => HY
   generalize gtB qa q = fb at *
   go_upto_region 7 with fail
   refine wp_region_held_drew (S := (fun w' => Below wr.heap.size wr w' ∧ w'.cell? ⟨bl, off + i * 3, none⟩ = some (.bool z.b) ∧ w'.cell? ⟨bl, off + i * 3 + 1, none⟩ = some (.slice z.a z.n z.c) ∧ w'.cell? ⟨bl, off + i * 3 + 2, none⟩ = some (.slice z.d z.m z.e) ∧ w'.cell? ⟨w.heap.size + 1, 0, none⟩ = some (.bool y.b) ∧ w'.cell? ⟨w.heap.size + 1, 1, none⟩ = some (.slice y.a y.n y.c) ∧ w'.cell? ⟨w.heap.size + 1, 2, none⟩ = some (.slice y.d y.m y.e))) (by kernel_rfl) ⟨(Below.refl _ _).drew, p0, p1, p2, s0, s1, s2⟩ (fun hh => ?_)
   have HAD := Lib.hid (Below.refl wr.heap.size wr).drew
   clear p0 p1 p2 s0 s1 s2
   refine tk0 (i := 0) (v := ?vp0) rfl (Or.inl ⟨by rfl, ?hyp0⟩) (by assumption) ?rep0
   case hyp0 => intro w hSw; (try dsimp only at hSw); (go_simp <;> with_reducible rfl)
   try simp only [na1, na2, na3, Act.put, na4, na5, na6]
   refine tk0 (i := 1) (v := ?vp1) rfl (Or.inl ⟨by rfl, ?hyp1⟩) (by assumption) ?rep1
   case hyp1 => intro w hSw; (try dsimp only at hSw); (go_simp <;> with_reducible rfl)
   try simp only [na1, na2, na3, Act.put, na4, na5, na6]
   refine tk0 (i := 2) (v := ?vp2) rfl (Or.inl ⟨by rfl, ?hyp2⟩) (by assumption) ?rep2
   case hyp2 => intro w hSw; (try dsimp only at hSw); (go_simp <;> with_reducible rfl)
   try simp only [na1, na2, na3, Act.put, na4, na5, na6]
   refine tk0 (i := 3) (v := ?vp3) rfl (Or.inl ⟨by rfl, ?hyp3⟩) (by assumption) ?rep3
   case hyp3 => intro w hSw; (try dsimp only at hSw); (go_simp <;> with_reducible rfl)
   try simp only [na1, na2, na3, Act.put, na4, na5, na6]
   refine tk0 (i := 4) (v := ?vp4) rfl (Or.inl ⟨by rfl, ?hyp4⟩) (by assumption) ?rep4
   case hyp4 => intro w hSw; (try dsimp only at hSw); (go_simp <;> with_reducible rfl)
   try simp only [na1, na2, na3, Act.put, na4, na5, na6]
   refine tk0 (i := 5) (v := ?vp5) rfl (Or.inl ⟨by rfl, ?hyp5⟩) (by assumption) ?rep5
   case hyp5 => intro w hSw; (try dsimp only at hSw); (go_simp <;> with_reducible rfl)
   try simp only [na1, na2, na3, Act.put, na4, na5, na6]
   refine rd1 (i := 6) rfl (fun K hK => ?_)
   go_simp
   go_wp2_with (go_at_call 44; (with_reducible refine (cmpRat_any qa q _ _ _ (HA.out.below HAD.out) (HY.out.below HAD.out) ZA.out ZB.out).mono ?_); rintro e wA ⟨rfl, hbA⟩; rw [← HC.out])
   refine hK.out _ _ (kc6 hbA hh) (fun hh => ?_)
   clear hK K
   try simp only [na1, na2, na3, Act.put, na4, na5, na6]
   refine tk0 (i := 7) (v := ?vp7) rfl (Or.inl ⟨by rfl, ?hyp7⟩) (by assumption) ?rep7
   case hyp7 => intro w hSw; (try dsimp only at hSw); (go_simp <;> with_reducible rfl)
   try simp only [na1, na2, na3, Act.put, na4, na5, na6]
   refine wpAnyH_done (by kernel_rfl) ?_ _
   have HM2 : Hid (MB w y q wA) := HMR2.out.below (bt HAD.out hbA)
   have HA2 : Hid (IsRat wA z.val qa) := HA.out.below (bt HAD.out hbA)
   obtain ⟨_, p0, p1, p2, _, _, _⟩ := hh
   obtain ⟨s0, s1, s2, f0, f1, f2⟩ := fac3 HM2.out.m
   clear hbA
   cases fb with
   | true =>
    have HQ : Hid (bestUp gtB (fun i => qs.getD i 0) i = qa) := HF.out
    go_wp2_with fail
    exact ⟨⟨i + 1, z, by omega, by have := HLT.out; omega, by go_num, by rw [show i + 1 - 1 = i by omega, HQ.out]; exact HM2.out.set HA2.out⟩, meas_up HLT.out⟩
   | false =>
    have HQ : Hid (bestUp gtB (fun i => qs.getD i 0) i = q) := HF.out
    go_wp2_with fail
    exact ⟨⟨i + 1, y, by omega, by have := HLT.out; omega, by go_num, by rw [show i + 1 - 1 = i by omega, HQ.out]; exact HM2⟩, meas_up HLT.out⟩
  ·
   obtain rfl : i = qs.length := by omega
   rw [HN.out.2] at HMR
   obtain ⟨s0, s1, s2, _, _, _⟩ := fac3 HMR.out.m
   obtain ⟨g0, g1, g2, f0, f1, f2⟩ := fac3 (x := r30) HMR.out.r
   go_wp2_with fail
   obtain ⟨h0, h1, h2, _, _, _⟩ := fac3 (x := y) (set3r (x := y) HMR.out.r)
   refine bodyPost_ret (v := y.val) (by simp [results, Tryz.results138, go_sem, h0, h1, h2]) rfl ⟨_, rfl, HMR.out.v.set3r HMR.out.r, below3r HMR.out.bel (by omega)⟩
end Go.Proofs.YthhnkobkdhjfgaaGreat

namespace Go.Proofs.YthhnkobkdhjfgaaGreat
open Go.RowKit

theorem lo4 (a c : Rat) : bestUp ltB (fun i => [a, a, c, c].getD i 0) 3 = loQ a c := by
 unfold bestUp bestUp bestUp bestUp loQ ltB cmpR
 simp only [List.getD, List.getElem?_cons_succ, List.getElem?_cons_zero, Option.getD_some]
 grind
theorem hi4 (a c : Rat) : bestUp gtB (fun i => [a, a, c, c].getD i 0) 3 = hiQ a c := by
 unfold bestUp bestUp bestUp bestUp hiQ gtB cmpR
 simp only [List.getD, List.getElem?_cons_succ, List.getElem?_cons_zero, Option.getD_some]
 grind
theorem fracs4 {W : World} {B T : Nat} {x1 x2 x3 x4 : R3} {a b c d : Rat} (h : W.heap[B]? = some (.cells #[.bool x1.b, .slice x1.a x1.n x1.c, .slice x1.d x1.m x1.e, .bool x2.b, .slice x2.a x2.n x2.c, .slice x2.d x2.m x2.e, .bool x3.b, .slice x3.a x3.n x3.c, .slice x3.d x3.m x3.e, .bool x4.b, .slice x4.a x4.n x4.c, .slice x4.d x4.m x4.e] T (0, 0))) (h1 : IsRat W x1.val a) (h2 : IsRat W x2.val b) (h3 : IsRat W x3.val c) (h4 : IsRat W x4.val d) : FrcsOf IsRat W (.slice (some ⟨B, 0, none⟩) 4 4) [a, b, c, d] := by
 refine ⟨_, 4, rfl, fun _ => ⟨B, 0, rfl, blk_lt h, fun i hi => ?_⟩⟩
 match i, hi with
 | 0, _ => exact ⟨_, _, _, blk_cell h 0 _ rfl, blk_cell h 1 _ rfl, blk_cell h 2 _ rfl, h1⟩
 | 1, _ => exact ⟨_, _, _, blk_cell h 3 _ rfl, blk_cell h 4 _ rfl, blk_cell h 5 _ rfl, h2⟩
 | 2, _ => exact ⟨_, _, _, blk_cell h 6 _ rfl, blk_cell h 7 _ rfl, blk_cell h 8 _ rfl, h3⟩
 | 3, _ => exact ⟨_, _, _, blk_cell h 9 _ rfl, blk_cell h 10 _ rfl, blk_cell h 11 _ rfl, h4⟩
 | i + 4, hi => simp at hi; omega
theorem get4 {P : Rat → Prop} {a b c d : Rat} (h0 : P 0) (h1 : P a) (h2 : P b) (h3 : P c) (h4 : P d) : ∀ i, P ([a, b, c, d].getD i 0)
 | 0 => h1
 | 1 => h2
 | 2 => h3
 | 3 => h4
 | i + 4 => h0
theorem szR_zero (k : Nat) (hk : 1 ≤ k) : szR 0 k := szR_mono (szR_int (n := 0) (k := 1) (by unfold b64; decide) (by omega)) hk
set_option maxRecDepth 100000 in
set_option maxHeartbeats 2000000 in
theorem around_any (qs : List Rat) (v : Value) (w : World) (h : FrcsOf IsRat w v qs) (h1 : 1 ≤ qs.length) (h2 : qs.length ≤ 1000) (hz : ∀ i, szR (qs.getD i 0) 274877906944) :
  Calls Tryz.prog 92 #[v] w (RetRng (bestUp ltB (fun i => qs.getD i 0) (qs.length - 1)) (bestUp gtB (fun i => qs.getD i 0) (qs.length - 1)) w) := by
 have H := Lib.hid h
 clear h
 have H1 := Lib.hid h1
 clear h1
 have H2 := Lib.hid h2
 clear h2
 have HZ := Lib.hid hz
 clear hz
 obtain ⟨ao, cap, rfl, _⟩ := H.out
 go_enter Tryz.func92, Tryz.ntmps92
 go_wp2_with fail
 generalize hW0 : w.alloc (.cells _ _) = W at *
 obtain ⟨hal, hE0, hWs⟩ := bxg1 w _ _ W hW0.symm
 have HB := Lib.hid hal
 have HWS := Lib.hid hWs
 have HE0 := Lib.hid hE0
 clear hW0 hal hWs hE0
 obtain ⟨g0, g1, g2, g3, g4, g5, f0, f1, f2, f3, f4, f5⟩ := fac6 (x := r30) (y := r30) HE0.out
 refine (minf_any qs _ _ (H.out.below (fun _ _ _ _ h hb => h.below hb) HB.out) H1.out H2.out HZ.out).mono ?_
 rintro e w1 ⟨v1, rfl, hv1, hb1⟩
 obtain ⟨z1, rfl⟩ := hv1.open3
 replace HE0 := Lib.hid (blk_keep HE0.out hb1 (blk_lt HE0.out))
 replace HB := Lib.hid (bt HB.out hb1)
 have HVz1 := Lib.hid hv1
 clear hv1
 clear g0 g1 g2 g3 g4 g5 f0 f1 f2 f3 f4 f5
 obtain ⟨g0, g1, g2, g3, g4, g5, f0, f1, f2, f3, f4, f5⟩ := fac6 (x := r30) (y := r30) HE0.out
 clear hb1
 go_wp2_with fail
 refine (maxf_any qs _ _ (H.out.below (fun _ _ _ _ h hb => h.below hb) HB.out) H1.out H2.out HZ.out).mono ?_
 rintro e w2 ⟨v2, rfl, hv2, hb2⟩
 obtain ⟨z2, rfl⟩ := hv2.open3
 replace HVz1 := Lib.hid (HVz1.out.below hb2)
 replace HE0 := Lib.hid (blk_keep HE0.out hb2 (blk_lt HE0.out))
 replace HB := Lib.hid (bt HB.out hb2)
 have HVz2 := Lib.hid hv2
 clear hv2
 clear g0 g1 g2 g3 g4 g5 f0 f1 f2 f3 f4 f5
 obtain ⟨g0, g1, g2, g3, g4, g5, f0, f1, f2, f3, f4, f5⟩ := fac6 (x := r30) (y := r30) HE0.out
 clear hb2
 go_wp2_with fail
 obtain ⟨h0, h1, h2, h3, h4, h5, _, _, _, _, _, _⟩ := fac6 (x := z1) (y := z2) (set6r (p := r30) (q := r30) (x := z1) (y := z2) HE0.out)
 refine bodyPost_ret (v := rngV z1 z2) (by simp [results, Tryz.results92, go_sem, h0, h1, h2, h3, h4, h5]) rfl ⟨_, rfl, ⟨z1, z2, rfl, IsRat.set6r (p := r30) (q := r30) HVz1.out HE0.out, IsRat.set6r (p := r30) (q := r30) HVz2.out HE0.out⟩, below6r HB.out (by omega)⟩
set_option maxRecDepth 100000 in
set_option maxHeartbeats 2000000 in
theorem rhull_any (a b c d : Rat) (vx vy : Value) (w : World) (hx : IsRng w vx a b) (hy : IsRng w vy c d) (s1 : szR a 274877906944) (s2 : szR b 274877906944) (s3 : szR c 274877906944) (s4 : szR d 274877906944) :
  Calls Tryz.prog 39 #[vx, vy] w (RetRng (bestUp ltB (fun i => [a, b, c, d].getD i 0) 3) (bestUp gtB (fun i => [a, b, c, d].getD i 0) 3) w) := by
 obtain ⟨x1, x2, rfl, hx1, hx2⟩ := hx
 have HVx1 := Lib.hid hx1
 have HVx2 := Lib.hid hx2
 clear hx1 hx2
 obtain ⟨y1, y2, rfl, hy1, hy2⟩ := hy
 have HVy1 := Lib.hid hy1
 have HVy2 := Lib.hid hy2
 clear hy1 hy2
 have S1 := Lib.hid s1
 clear s1
 have S2 := Lib.hid s2
 clear s2
 have S3 := Lib.hid s3
 clear s3
 have S4 := Lib.hid s4
 clear s4
 go_enter Tryz.func39, Tryz.ntmps39
 go_wp2_with fail
 generalize hW0 : (((w.alloc (.cells _ _)).alloc (.cells _ _)).alloc (.cells _ _)).alloc (.cells _ _) = W at *
 obtain ⟨hal, hE0, hE1, hE2, hE3, hWs⟩ := bxg4 w _ _ _ _ _ _ _ _ W hW0.symm
 have HB := Lib.hid hal
 have HE2 := Lib.hid hE2
 have HE3 := Lib.hid hE3
 clear hW0 hal hWs hE0 hE1 hE2 hE3
 replace HVx1 := Lib.hid (HVx1.out.below HB.out)
 replace HVx2 := Lib.hid (HVx2.out.below HB.out)
 replace HVy1 := Lib.hid (HVy1.out.below HB.out)
 replace HVy2 := Lib.hid (HVy2.out.below HB.out)
 obtain ⟨g0, g1, g2, g3, g4, g5, f0, f1, f2, f3, f4, f5⟩ := fac6 (x := r30) (y := r30) HE2.out
 refine (around_any [a, b, c, d] _ _ (fracs4 HE3.out HVx1.out HVx2.out HVy1.out HVy2.out) (by simp) (by simp) (get4 (P := fun x => szR x 274877906944) (szR_zero _ (by omega)) S1.out S2.out S3.out S4.out)).mono ?_
 rintro e w1 ⟨v1, rfl, ⟨o1, o2, rfl, hv1, hw1⟩, hb1⟩
 replace HVx1 := Lib.hid (HVx1.out.below hb1)
 replace HVx2 := Lib.hid (HVx2.out.below hb1)
 replace HVy1 := Lib.hid (HVy1.out.below hb1)
 replace HVy2 := Lib.hid (HVy2.out.below hb1)
 replace HE2 := Lib.hid (blk_keep HE2.out hb1 (blk_lt HE2.out))
 replace HB := Lib.hid (bt HB.out hb1)
 have HVo1 := Lib.hid hv1
 have HVo2 := Lib.hid hw1
 clear hv1 hw1
 clear g0 g1 g2 g3 g4 g5 f0 f1 f2 f3 f4 f5
 obtain ⟨g0, g1, g2, g3, g4, g5, f0, f1, f2, f3, f4, f5⟩ := fac6 (x := r30) (y := r30) HE2.out
 clear hb1
 go_wp2_with fail
 obtain ⟨h0, h1, h2, h3, h4, h5, _, _, _, _, _, _⟩ := fac6 (x := o1) (y := o2) (set6r (p := r30) (q := r30) (x := o1) (y := o2) HE2.out)
 refine bodyPost_ret (v := rngV o1 o2) (by simp [results, Tryz.results39, go_sem, h0, h1, h2, h3, h4, h5]) rfl ⟨_, rfl, ⟨o1, o2, rfl, IsRat.set6r (p := r30) (q := r30) HVo1.out HE2.out, IsRat.set6r (p := r30) (q := r30) HVo2.out HE2.out⟩, below6r HB.out (by omega)⟩
theorem lhull_any (a c : Rat) (v u : Value) (w : World) (h : IsRng w v a a) (k : IsRng w u c c) (s1 : szR a 274877906944) (s2 : szR c 274877906944) : Calls Tryz.prog 39 #[v, u] w (RetRng (loQ a c) (hiQ a c) w) := by
 have := rhull_any a a c c v u w h k s1 s1 s2 s2
 rw [lo4, hi4] at this
 exact this
end Go.Proofs.YthhnkobkdhjfgaaGreat

namespace Go.Proofs.YthhnkobkdhjfgaaGreat
open Go.RowKit

def flN (y : Rat) : Nat := if y.num < 0 ∧ y.num.natAbs % y.den ≠ 0 then y.num.natAbs / y.den + 1 else y.num.natAbs / y.den
def floorQ (y : Rat) : Rat := mkQ (decide (y.num < 0)) (flN y) 1
theorem mkQ_pw2' (s : Bool) (m b : Nat) : mkQ s m 1 * pw2 0 b = mkQ s m (2 ^ b) := by
 cases s with
 | false =>
  have := mkQ_pw2 m 0 b
  rw [Nat.pow_zero, Nat.mul_one] at this
  exact this
 | true =>
  rw [← mkQ_negate, ← mkQ_negate, Rat.neg_mul]
  have := mkQ_pw2 m 0 b
  rw [Nat.pow_zero, Nat.mul_one] at this
  rw [this]
theorem mul_pw2 (x : Rat) (k : Nat) : x * pw2 k 0 = mkQ (decide (x.num < 0)) (x.num.natAbs * 2 ^ k) x.den := by
 have h := mkQ_mul x (pw2 k 0)
 obtain ⟨h1, h2, h3⟩ := pw2_pos k
 rw [h1, h2, h3] at h
 rw [← h, Nat.mul_one]
 cases decide (x.num < 0) <;> rfl
theorem mkQ_div_mod (s : Bool) (A d : Nat) (hd : 0 < d) : (mkQ s A d).num.natAbs / (mkQ s A d).den = A / d ∧ ((mkQ s A d).num.natAbs % (mkQ s A d).den = 0 ↔ A % d = 0) := by
 rw [mkQ_num _ _ _ hd, mkQ_den _ _ _ hd]
 have hg : 0 < Nat.gcd A d := Nat.gcd_pos_of_pos_right A hd
 obtain ⟨a, ha⟩ := Nat.gcd_dvd_left A d
 obtain ⟨b, hb⟩ := Nat.gcd_dvd_right A d
 generalize Nat.gcd A d = g at *
 subst ha hb
 rw [Nat.mul_div_cancel_left _ hg, Nat.mul_div_cancel_left _ hg, Nat.mul_div_mul_left _ _ hg, Nat.mul_mod_mul_left]
 refine ⟨rfl, ?_⟩
 constructor
 ·
  intro h; rw [h, Nat.mul_zero]
 ·
  intro h
  rcases Nat.mul_eq_zero.1 h with h | h
  ·
   omega
  ·
   exact h
theorem floor_down (x : Rat) (k : Nat) : floorQ (x * pw2 k 0) * pw2 0 k = downQ x k := by
 unfold floorQ
 rw [mkQ_pw2']
 unfold downQ
 have hd : 0 < x.den := x.den_pos
 obtain ⟨e1, e2⟩ := mkQ_div_mod (decide (x.num < 0)) (x.num.natAbs * 2 ^ k) x.den hd
 rw [← mul_pw2] at e1 e2
 have hs : decide ((x * pw2 k 0).num < 0) = decide (x.num < 0) := by
  rw [mul_pw2]
  by_cases h0 : x.num.natAbs * 2 ^ k = 0
  ·
   rw [h0]
   have : x.num.natAbs = 0 := by
    rcases Nat.mul_eq_zero.1 h0 with h | h
    ·
     exact h
    ·
     have := Nat.two_pow_pos k; omega
   have hn : ¬ x.num < 0 := by omega
   rw [decide_eq_false hn]
   unfold mkQ sg
   simp
  ·
   exact mkQ_neg _ _ _ hd h0
 have hn : ((x * pw2 k 0).num < 0) ↔ x.num < 0 := by
  constructor
  ·
   intro h
   have : decide ((x * pw2 k 0).num < 0) = true := decide_eq_true h
   rw [hs] at this
   exact of_decide_eq_true this
  ·
   intro h
   have : decide (x.num < 0) = true := decide_eq_true h
   rw [← hs] at this
   exact of_decide_eq_true this
 have hf : flN (x * pw2 k 0) = downN x k := by
  unfold flN downN
  rw [e1]
  by_cases h : x.num < 0 ∧ x.num.natAbs * 2 ^ k % x.den ≠ 0
  ·
   rw [if_pos h, if_pos ⟨hn.2 h.1, fun h2 => h.2 (e2.1 h2)⟩]
  ·
   rw [if_neg h, if_neg (fun h2 => h ⟨hn.1 h2.1, fun h3 => h2.2 (e2.2 h3)⟩)]
 rw [hs, hf]
theorem dig64_le (n : Nat) : (dig b64 n).length ≤ (dig b32 n).length := by
 refine dig_length_le b64_two _ _ ?_
 refine Nat.lt_of_lt_of_le (lt_pow_dig_length b32_two n) (Nat.pow_le_pow_left (by unfold b32 b64; decide) _)
theorem szR_of {x : Rat} {k : Nat} (h : szQ x k) : szR x k := ⟨Nat.le_trans (dig64_le _) h.1, Nat.le_trans (dig64_le _) h.2⟩
theorem szR_pw2 {a b : Nat} (ha : a ≤ 256) (hb : b ≤ 256) : szR (pw2 a b) 10 := by
 refine szR_of (mkQ_size false _ _ 10 (Nat.two_pow_pos b) ?_ ?_)
 ·
  exact Nat.le_trans (dig32_le _) (by have := len_pow2 ha; omega)
 ·
  exact Nat.le_trans (dig32_le _) (by have := len_pow2 hb; omega)
end Go.Proofs.YthhnkobkdhjfgaaGreat
