/- Part h of the lemmas and walks. -/
import Derived.Test.YtkdcgkafjkklcaaShelf
import Derived.Lib.SlBytesRow
import Derived.Deep.AppendLies
import Derived.Test.YtkdcgkafjkklcaaGa
import Derived.Test.YtkdcgkafjkklcaaGc
import Derived.Test.YtkdcgkafjkklcaaGf
import Derived.Test.YtkdcgkafjkklcaaGg

/- THE WALKS OF ratio's decimal, text, Text. -/
namespace Go.Proofs.Ytkdcgkafjkklcaa
open Go.RowKit Go.Shelf

/-- Bytes as a string. -/
def strB (l : List UInt8) : ByteArray := ⟨l.toArray⟩
theorem strB_size (l : List UInt8) : (strB l).size = l.length := rfl
theorem strB_append (a b : List UInt8) : strB a ++ strB b = strB (a ++ b) := by
  apply ByteArray.ext
  simp [strB, ByteArray.data_append]
def RetStr (l : List UInt8) (w : World) (e : Ending) (w' : World) : Prop := e = .returned (.string (strB l)) ∧ Below w.heap.size w w'
theorem repeat_zero (c : Nat) : Lib.repeatL [48] c = List.replicate c 48 := by
  induction c with
  | zero => rfl
  | succ c ih => rw [Lib.repeatL, ih]; rfl

/-- The last m of twenty bytes are the last m digits of n. -/
def DecRow (w : World) (B n m : Nat) : Prop := ∃ cs : List Value, cs.length = 20 ∧ w.heap[B]? = some (.cells cs.toArray 223 (0, 0)) ∧ cs.drop (20 - m) = (decP n m).map fun c => Value.int .u8 c.toNat
theorem DecRow.bytes {w : World} {B n m : Nat} (h : DecRow w B n m) (hm : m ≤ 20) (hl : (decP n m).length = m) : Lib.Bytes w B (20 - m) (strB (decP n m)) := by
  obtain ⟨cs, hc, hh, hd⟩ := h
  intro i hi
  rw [strB_size] at hi
  rw [cell_of_row w B _ _ _ (0, 0) hh]
  have e : cs[20 - m + i]? = ((decP n m).map fun c => Value.int .u8 c.toNat)[i]? := by rw [← hd, List.getElem?_drop]
  simp only [List.getElem?_toArray]
  rw [e, List.getElem?_map, List.getElem?_eq_getElem hi]
  rfl
theorem DecRow.step {w : World} {B n m k : Nat} (h : DecRow w B n m) (hk : k + 1 + m = 20) (h0 : n / 10 ^ m ≠ 0) (v : Value) (hv : v = .int .u8 (chD (n / 10 ^ m % 10)).toNat) : DecRow (w.setCell ⟨B, k, none⟩ v) B n (m + 1) := by
  obtain ⟨cs, hc, hh, hd⟩ := h
  refine ⟨cs.set k v, by simp [hc], ?_, ?_⟩
  · rw [heap_setCell_same w B k _ _ _ hh]
    simp
  · rw [decP_step n m h0, List.map_cons, ← hd, hv]
    rw [show 20 - (m + 1) = k by omega, show 20 - m = k + 1 by omega]
    rw [List.drop_eq_getElem_cons (by simp [hc]; omega)]
    simp [List.drop_set]
theorem DecRow.cell {w : World} {B n m : Nat} (h : DecRow w B n m) (k : Nat) (hk : k < 20) : ∃ v, w.cell? ⟨B, k, none⟩ = some v ∧ w.frozen? ⟨B, k, none⟩ = false := by
  obtain ⟨cs, hc, hh, hd⟩ := h
  refine ⟨cs[k], ?_, frozen_of_row w B k _ _ hh⟩
  rw [cell_of_row w B k _ _ (0, 0) hh]
  simp [hc, hk]

theorem arr20 : Try.prog.arrayLen 223 = 20 := by kernel_rfl
theorem und20 : Try.prog.underlying 223 = some (.array (Try.prog.arrayLen 223) (Try.prog.elem 223)) := by kernel_rfl
theorem size20 (w : World) : (sizeOf (Try.prog.elem 223)).run Try.prog w = .ok 1 w := by kernel_rfl
theorem slice20 (B a : Nat) (ha : a < 20) (w : World) : (Instr.sliceAt 223 (.pointer (some ⟨B, 0, none⟩)) (some (.int .i64 (a : Int))) none none).run Try.prog w = .ok (.slice (some ⟨B, a, none⟩) (20 - a) (20 - a)) w := by
  rw [run_sliceAt_array_l w _ _ und20 .i64 a (by omega) (by rw [arr20]; omega), size20, arr20]
  have h : ¬ 20 = a := by omega
  have e : (⟨B, 0, none⟩ : Addr).add (a * 1) = ⟨B, a, none⟩ := by unfold Addr.add; split <;> simp_all
  simp only [Result.andThen_ok, slicedAt, Int.toNat_natCast, if_neg h, e]
theorem slice20_end (B : Nat) (w : World) : (Instr.sliceAt 223 (.pointer (some ⟨B, 0, none⟩)) (some (.int .i64 ((20 : Nat) : Int))) none none).run Try.prog w = .ok (.slice (some ⟨B, 0, none⟩) 0 0) w := by
  rw [run_sliceAt_array_l w _ _ und20 .i64 _ (by omega) (by rw [arr20]; omega), size20, arr20]
  simp [slicedAt]

set_option maxRecDepth 100000 in
set_option maxHeartbeats 4000000 in
theorem decimal_any (n : Nat) (w : World) (hn : n < b64) : Calls Try.prog 109 #[.int .u64 n] w (RetStr (decL n) w) := by
  have h20 : n / 10 ^ 20 = 0 := Nat.div_eq_of_lt (by unfold b64 at hn; omega)
  have H20 := Lib.hid h20
  have hN : DecRow (w.alloc (.cells #[.int .u8 0, .int .u8 0, .int .u8 0, .int .u8 0, .int .u8 0, .int .u8 0, .int .u8 0, .int .u8 0, .int .u8 0, .int .u8 0, .int .u8 0, .int .u8 0, .int .u8 0, .int .u8 0, .int .u8 0, .int .u8 0, .int .u8 0, .int .u8 0, .int .u8 0, .int .u8 0] 223)) w.heap.size n 0 :=
    ⟨List.replicate 20 (.int .u8 0), by simp, blk_new w _ _, by simp [decP]⟩
  have hal : Below w.heap.size w (w.alloc (.cells #[.int .u8 0, .int .u8 0, .int .u8 0, .int .u8 0, .int .u8 0, .int .u8 0, .int .u8 0, .int .u8 0, .int .u8 0, .int .u8 0, .int .u8 0, .int .u8 0, .int .u8 0, .int .u8 0, .int .u8 0, .int .u8 0, .int .u8 0, .int .u8 0, .int .u8 0, .int .u8 0] 223)) := (Below.refl _ _).alloc (Nat.le_refl _) _
  have HN := Lib.hid hN
  clear h20 hN
  go_enter Try.func109, Try.ntmps109
  go_wp2_with fail
  go_loopw [0, 4] (fun nv av wr => ∃ (m a : Nat), a + m = 20 ∧ nv = .int .u64 ((n / 10 ^ m : Nat) : Int) ∧ av = .int .i64 a ∧ (m = 0 ∨ n / 10 ^ (m - 1) ≠ 0) ∧ Hid (DecRow wr w.heap.size n m) ∧ Below w.heap.size w wr)
    (fun _ av _ => (intOf av).toNat)
  case atStart => exact ⟨0, 20, rfl, by simp, rfl, .inl rfl, HN.out, hal⟩
  case round =>
    clear hal HN
    obtain ⟨m, a, ha, rfl, rfl, hm, hD, hbel⟩ := hrel
    have HM := Lib.hid hm
    have HA := Lib.hid ha
    clear hm
    by_cases h0 : n / 10 ^ m = 0
    · have Hh := Lib.hid h0
      by_cases ha20 : a = 20
      · have h00 : n = 0 := by
          obtain rfl : m = 0 := by omega
          simpa using h0
        have hw := Lib.run_convert_whole (P := Try.prog) wr 172 5 9 Try.underlying172 Try.underlying5 Try.underlying9 w.heap.size 0 (strB []) (fun i hi => absurd hi (Nat.not_lt_zero i)) 0
        rw [strB_size, List.length_nil] at hw
        have hsl := slice20_end w.heap.size
        have Hn0 : Hid (decL n = []) := by show _ = _; rw [h00]; rfl
        rw [h0]
        subst ha20
        clear h0 h00 ha
        go_wp2_with fail
        go_ret
        exact ⟨by rw [Hn0.out]; rfl, hbel⟩
      · have hl := decP_length n m HM.out
        have hm2 : m = 20 - a := by omega
        have hw := Lib.run_convert_whole (P := Try.prog) wr 172 5 9 Try.underlying172 Try.underlying5 Try.underlying9 w.heap.size (20 - m) (strB (decP n m)) (hD.out.bytes (by omega) hl) (20 - a)
        rw [strB_size, hl, decP_all n m h0, show 20 - m = a by omega, hm2] at hw
        have hsl := slice20 w.heap.size a (by omega)
        rw [h0]
        clear h0 hl hm2
        go_wp2_with fail
        go_ret
        exact ⟨rfl, hbel⟩
    · have hq : ((n / 10 ^ m : Nat) : Int) > 0 := Int.natCast_pos.2 (Nat.pos_of_ne_zero h0)
      have t1 : decide (((n / 10 ^ m : Nat) : Int) > 0) = true := decide_eq_true hq
      have hm20 : m < 20 := by
        rcases Nat.lt_or_ge m 20 with h | h
        · exact h
        · obtain rfl : m = 20 := by omega
          exact absurd H20.out h0
      obtain ⟨k, rfl⟩ : ∃ k, a = k + 1 := ⟨a - 1, by omega⟩
      obtain ⟨v0, g0, f0⟩ := hD.out.cell k (by omega)
      have hst := fun v hv => hD.out.step (k := k) (by omega) h0 v hv
      have HST := Lib.hid hst
      have Hm1 : Hid (n / 10 ^ (m + 1 - 1) ≠ 0) := by show _ ≠ _; rw [Nat.add_sub_cancel]; exact h0
      have hdv : Hid (n / 10 ^ m / 10 = n / 10 ^ (m + 1)) := by show _ = _; rw [Nat.div_div_eq_div_mul, Nat.pow_succ]
      have hch : Hid (((chD (n / 10 ^ m % 10)).toNat : Int) = 48 + ((n / 10 ^ m % 10 : Nat) : Int)) := by show _ = _; rw [chD_toNat _ (Nat.mod_lt _ (by omega))]; omega
      have hqb : n / 10 ^ m < b64 := Nat.lt_of_le_of_lt (Nat.div_le_self _ _) hn
      have e1 : IntKind.i64.wrap (((k + 1 : Nat) : Int) - 1) = (k : Int) := by rw [show (((k + 1 : Nat) : Int) - 1) = (k : Int) by omega]; exact IntWalk.i64_in _ (by omega)
      have e2 : IntKind.i64.wrap ((k : Int) + 1 - 1) = (k : Int) := by rw [show ((k : Int) + 1 - 1) = (k : Int) by omega]; exact IntWalk.i64_in _ (by omega)
      have hk20 : (k : Int) < 20 := by omega
      have hk0 : (0 : Int) ≤ k := by omega
      clear hst h0 hD
      generalize n / 10 ^ m = q at *
      unfold b64 at hqb
      clear hn
      go_wp2_with fail
      refine ⟨⟨m + 1, k, by have := HA.out; omega, by rw [← hdv.out, Int.natCast_ediv]; rfl, rfl, .inr Hm1.out, HST.out _ (by rw [hch.out, Int.natCast_emod]; rfl), hbel.setCell (p := ⟨w.heap.size, k, none⟩) (Nat.le_refl _) _⟩, by simp [intOf]⟩

/-- The part number i of 19 digits. -/
def decC : Nat := 10000000000000000000
theorem decC_eq : decC = 10 ^ 19 := by unfold decC; omega
def partL (n i : Nat) : List UInt8 := if n / decC ^ i / decC = 0 then decL (n / decC ^ i) else decZ 19 (n / decC ^ i % decC)
theorem partL_step (n i : Nat) : decL (n / decC ^ (i + 1)) ++ partL n i = decL (n / decC ^ i) := by
  have e : n / decC ^ (i + 1) = n / decC ^ i / decC := by rw [Nat.div_div_eq_div_mul, Nat.pow_succ]
  rw [e]
  unfold partL
  by_cases h : n / decC ^ i / decC = 0
  · rw [if_pos h, h, decL_zero]; rfl
  · rw [if_neg h]
    rw [decC_eq] at *
    exact (decL_split 19 _ h).symm
def partCells (n k : Nat) : List Value := (List.range k).map fun i => Value.string (strB (partL n i))
theorem partCells_succ (n k : Nat) : partCells n (k + 1) = partCells n k ++ [Value.string (strB (partL n k))] := by
  simp [partCells, List.range_succ]

theorem digits_len (n : Nat) : (dig 10 n).length ≤ 20 * (dig b64 n).length := by
  refine dig_length_le ten_two _ _ (Nat.lt_of_lt_of_le (lt_pow_dig_length b64_two n) ?_)
  rw [Nat.pow_mul]
  exact Nat.pow_le_pow_left (by unfold b64; omega) _
theorem parts_len (n k : Nat) (h : n / decC ^ k ≠ 0) : 19 * k < 20 * (dig b64 n).length := by
  have h1 : n / 10 ^ (19 * k) ≠ 0 := by rw [Nat.pow_mul, ← decC_eq]; exact h
  have := (dig_length_gt ten_two (19 * k) n).2 h1
  have := digits_len n
  omega
theorem decC_pos : 0 < decC := by unfold decC; omega
theorem partL_len (n i : Nat) : (partL n i).length ≤ 19 + (dig 10 n).length := by
  unfold partL
  split
  · rw [decL_length]
    have : (dig 10 (n / decC ^ i)).length ≤ (dig 10 n).length := dig_length_mono ten_two (Nat.div_le_self _ _)
    omega
  · unfold decZ
    have h1 : (decL (n / decC ^ i % decC)).length ≤ 19 := by
      rw [decL_length]
      refine dig_length_le ten_two 19 _ ?_
      rw [← decC_eq]
      exact Nat.mod_lt _ decC_pos
    simp
    omega
/-- A row of strings: the parts so far. -/
theorem LRow.cellAt {w : World} {base : Nat} {e : TypeId} {g n cap : Nat} {xs : List Value} (h : LRow w base e 1 (.slice (some ⟨g, 0, none⟩) n cap) n xs) (j : Nat) (v : Value) (hj : xs[j]? = some v) : w.cell? ⟨g, j, none⟩ = some v := by
  have hc : ∀ j u, xs[j]? = some u → w.cell? ((⟨g, 0, none⟩ : Addr).add j) = some u := h.1.cells (g := g) rfl
  have := hc j v hj
  have e : (⟨g, 0, none⟩ : Addr).add j = ⟨g, j, none⟩ := by unfold Addr.add; split <;> simp_all
  rwa [e] at this
theorem noDig_string (s : ByteArray) : noDig (.string s) := fun _ => ⟨by simp, by simp⟩
theorem info_string : (Try.prog.info? 9).map (fun i => (i.zero, i.size, i.bytes)) = some (some (.string .empty), 1, 16) := by kernel_rfl
theorem cell_new1 (w : World) (a : Value) (t : TypeId) : ∀ j u, [a][j]? = some u → (w.alloc (.cells #[a] t)).cell? ((⟨w.heap.size, 0, none⟩ : Addr).add j) = some u := by
  intro j u hj
  match j, hj with
  | 0, hj => simp at hj; subst hj; simp [Addr.add]
  | j + 1, hj => simp at hj
theorem padZ (m : List UInt8) (c : Nat) (h : m.length + c = 19) : strB (Lib.repeatL [48] c) ++ strB m = strB (List.replicate (19 - m.length) 48 ++ m) := by
  rw [strB_append, repeat_zero, show 19 - m.length = c by omega]

/-- How long a slice is. -/
def sliceLen : Value → Nat | .slice _ n _ => n | _ => 0
theorem LRow.form {w : World} {base : Nat} {e : TypeId} {size : Nat} {v : Value} {n : Nat} {xs : List Value} (h : LRow w base e size v n xs) : ∃ ao cap, v = .slice ao n cap ∧ (0 < n → ∃ g, ao = some ⟨g, 0, none⟩ ∧ g < w.heap.size ∧ base ≤ g) := by
  rcases h.1.2 with ⟨rfl, h0⟩ | ⟨g, cap, cur, rfl, hb, hg, _⟩
  · exact ⟨none, 0, by rw [h0], fun h => absurd h (by omega)⟩
  · exact ⟨_, _, rfl, fun _ => ⟨g, rfl, (Array.getElem?_eq_some_iff.1 hg).1, hb⟩⟩
theorem bw_any (q : Nat) (v : Value) (W : World) (h : IsNat .u64 b64 W v q) (hl : (dig b64 q).length ≤ 1099511627776) : Calls Try.prog 108 #[v, .int .u64 10000000000000000000] W (RetNatWord (q / decC) (q % decC) W) := by
  have h2 := byWord_any q decC v W h hl decC_pos (by unfold decC b64; omega)
  have e : ((decC : Nat) : Int) = 10000000000000000000 := rfl
  rw [e] at h2
  exact h2
theorem rep_any (c : Nat) (W : World) (hc : c ≤ 19) : Calls Try.prog 110 #[.string { data := #[48] }, .int .i64 (c : Int)] W (fun e w' => e = .returned (.string (strB (List.replicate c 48))) ∧ Below W.heap.size W w') := by
  have h := Try.strings_Repeat { data := #[48] } c W (by omega) (by show 1 * c ≤ _; omega)
  rw [show Lib.repeatL (ByteArray.mk #[48]).data.toList c = List.replicate c 48 from repeat_zero c] at h
  exact h
theorem write_any (B b : Nat) (l m : List UInt8) (W : World) (h : Lib.IsBuilder 205 5 B b (Lib.byteCells l) W) (hl : l.length + m.length ≤ 140737488355328) (hB : B ≤ W.heap.size) :
    Calls Try.prog 111 #[.pointer (some ⟨b, 0, none⟩), .string (strB m)] W (fun e w' => e = .returned (.tuple #[.int .i64 ((strB m).size : Int), .nilIface]) ∧ Lib.IsBuilder 205 5 B b (Lib.byteCells (l ++ m)) w' ∧ Below B W w') := by
  refine (Any.Builder_WriteString { Try.lays105 with } Try.Builder_Extra_105 B b (Lib.byteCells l) (strB m) W h (by rw [Lib.byteCells_length, strB_size]; exact hl) hB).mono fun e w' he => ?_
  obtain ⟨he, h1, h2⟩ := he
  refine ⟨he, .inr ?_, h2⟩
  have e2 : Lib.byteCells (l ++ m) = Lib.byteCells l ++ Lib.strCells (strB m) := by simp [Lib.byteCells, Lib.strCells, strB]
  rw [e2]
  exact h1
theorem new_builder (w : World) : Lib.IsBuilder 205 5 w.heap.size w.heap.size (Lib.byteCells []) (w.alloc (.cells #[.pointer none, .slice none 0 0] 205)) :=
  .inl ⟨Nat.le_refl _, _, blk_new w _ _, World.ownsRow_nil _ _ _ _, by simp [Value.ownBlock]⟩

theorem own_base {w : World} {base : Nat} {e : TypeId} {size : Nat} {v : Value} {n : Nat} {xs : List Value} (h : w.ownsRow base e size v n xs) : ∀ k, v.ownBlock = some k → base ≤ k := by
  intro k hk
  rcases h.2 with ⟨rfl, _⟩ | ⟨g, cap, cur, rfl, hb, _⟩
  · simp [Value.ownBlock] at hk
  · simp [Value.ownBlock] at hk
    omega
theorem decT_pos (n : Nat) (h : n ≠ 0) : decT n = decL n := by unfold decT; rw [if_neg h]
set_option maxRecDepth 100000 in
set_option maxHeartbeats 8000000 in
theorem text_any (n : Nat) (v : Value) (w : World) (h : IsNat .u64 b64 w v n) (hsz : (dig b64 n).length ≤ 68719476736) : Calls Try.prog 86 #[v] w (RetStr (decT n) w) := by
  have H := Lib.hid h
  have hd := digits_len n
  have HD := Lib.hid hd
  have HSZ := Lib.hid hsz
  obtain ⟨iS, hiS, hzS, hsS, hyS⟩ := info_parts info_string
  have hzd : ∀ u ∈ (Value.string ByteArray.empty).cells.toList, noDig u := by
    intro u hu
    simp [Value.cells] at hu
    subst hu
    exact noDig_string _
  clear h hd hsz
  have HN1 : Hid (n / decC ^ 0 = n) := by show _ = _; rw [Nat.pow_zero, Nat.div_one]
  have hvs : ∃ ao cap, v = .slice ao (dig b64 n).length cap := by obtain ⟨ao, cap, e, _⟩ := IsRow.opened H.out; exact ⟨ao, cap, e⟩
  obtain ⟨ao0, cap0, rfl⟩ := hvs
  go_enter Try.func86, Try.ntmps86
  go_wp2_with fail
  go_loopw [0, 3] (fun av pv wr => ∃ (k : Nat), IsNat .u64 b64 wr av (n / decC ^ k) ∧ (k = 0 ∨ n / decC ^ (k - 1) ≠ 0) ∧ Hid (LRow wr w.heap.size 9 1 pv k (partCells n k)) ∧ Below w.heap.size w wr)
    (fun _ pv _ => 1374389534721 - sliceLen pv)
  case atStart => exact ⟨0, by rw [HN1.out]; exact H.out, .inl rfl, LRow.nil _ _ _ _, Below.refl _ _⟩
  case round =>
    clear H
    obtain ⟨k, hA, hk, hL, hbel⟩ := hrel
    have HK := Lib.hid hk
    obtain ⟨ao, cap, rfl, hg⟩ := hL.out.form
    have HA := Lib.hid hA
    obtain ⟨aa, ca, rfl, _⟩ := IsRow.opened hA
    clear hA hk
    by_cases h0 : n / decC ^ k = 0
    · have Hq0 := Lib.hid h0
      rw [h0, dig_zero, List.length_nil]
      clear h0 HA
      by_cases hk0 : k = 0
      · have Hn : Hid (decT n = [48]) := by
          show _ = _
          have : n = 0 := by have := Hq0.out; rw [hk0, HN1.out] at this; exact this
          rw [this]; rfl
        subst hk0
        go_wp2_with fail
        go_ret
        exact ⟨by rw [Hn.out]; rfl, hbel⟩
      · have hn0 : Hid (n ≠ 0) := by
          show n ≠ 0
          rintro rfl
          rcases HK.out with h | h
          · exact hk0 h
          · exact h (Nat.zero_div _)
        have Hkb : Hid (k ≤ 1374389534720) := by
          show _ ≤ _
          rcases HK.out with h | h
          · omega
          · have := parts_len n (k - 1) h; have := HSZ.out; omega
        have tk : ((k : Int) == 0) = false := beq_eq_false_iff_ne.2 (by omega)
        obtain ⟨g, rfl, hgl, hgb⟩ := hg (by omega)
        have hkb := Hkb.out
        have ek : IntKind.i64.wrap ((k : Int) - 1) = (k : Int) - 1 := IntWalk.i64_in _ (by omega)
        obtain ⟨kp, hkp⟩ : ∃ z : Int, z = (k : Int) - 1 := ⟨_, rfl⟩
        have HKP := Lib.hid hkp
        rw [← hkp] at ek
        have ek2 : IntKind.i64.wrap ((k : Int) - 1) = kp := by rw [hkp]; exact IntWalk.i64_in _ (by omega)
        have hnb := new_builder wr
        have hal := (Below.refl wr.heap.size wr).alloc (Nat.le_refl _) (.cells #[.pointer none, .slice none 0 0] 205)
        have HL1 := Lib.hid (hL.out.below hal)
        have hx1 := ext_trans hbel hal
        have hBs : wr.heap.size < (wr.alloc (.cells #[.pointer none, .slice none 0 0] 205)).heap.size := by simp
        have HNB := Lib.hid hnb
        have hwB := hbel.size
        clear ek hkp hkb hL hbel hnb
        go_wp2_with fail
        generalize wr.alloc (.cells #[.pointer none, .slice none 0 0] 205) = W1 at *
        generalize wr.heap.size = B at *
        go_loopw [8] (fun iv wx => ∃ (j : Nat) (z : Int), z = (j : Int) - 1 ∧ j ≤ k ∧ iv = .int .i64 z ∧ Hid (Lib.IsBuilder 205 5 B B (Lib.byteCells (decL (n / decC ^ j))) wx) ∧ Below B W1 wx) (fun iv _ => (intOf iv + 1).toNat)
        case atStart => exact ⟨k, _, HKP.out, Nat.le_refl _, rfl, by rw [Hq0.out]; exact HNB.out, Below.refl _ _⟩
        case round =>
          clear HNB hal
          obtain ⟨j, z, hz, hj, rfl, hIB, hbx⟩ := hrel
          have hBx : B < wr.heap.size := Nat.lt_of_lt_of_le hBs hbx.size
          have hgx : g < B := hgl
          have hxx : Below w.heap.size w wr := hx1.trans (hbx.mono hwB)
          by_cases hj0 : j = 0
          · have t9 : decide (z ≥ 0) = false := decide_eq_false (by omega)
            have hs := fun h => Try.Builder_String_any B B (decL n) wr h (Nat.le_of_lt hBx)
            have HS := Lib.hid (hs (by have := hIB.out; rw [hj0, HN1.out] at this; exact this))
            have HT := Lib.hid (decT_pos n hn0.out)
            clear hs hz hj0 hIB
            go_wp2_with fail
            refine HS.out.mono ?_
            rintro e w3 ⟨rfl, hb3⟩
            go_wp2_with fail
            go_ret
            exact ⟨by rw [HT.out]; rfl, hxx.trans (hb3.mono (by omega))⟩
          · obtain ⟨i, rfl⟩ : ∃ i, j = i + 1 := ⟨j - 1, by omega⟩
            obtain rfl : z = (i : Int) := by omega
            have t9 : decide ((i : Int) ≥ 0) = true := decide_eq_true (by omega)
            have hi0 : (0 : Int) ≤ i := by omega
            have hik : (i : Int) < k := by omega
            have hce : (partCells n k)[i]? = some (.string (strB (partL n i))) := by
              unfold partCells
              rw [List.getElem?_map, List.getElem?_range (by omega)]
              rfl
            have c0 := HL1.out.cellAt i _ hce
            have c1 : wr.cell? ⟨g, i, none⟩ = some (.string (strB (partL n i))) := (hbx.cell (p := ⟨g, i, none⟩) hgx).trans c0
            have c2 : wr.cell? ⟨g, 0 + i, none⟩ = some (.string (strB (partL n i))) := by rw [Nat.zero_add]; exact c1
            have hps := Lib.hid (partL_step n i)
            have hlen1 := partL_len n i
            have hlen2 : (decL (n / decC ^ (i + 1))).length ≤ (dig 10 n).length := by rw [decL_length]; exact dig_length_mono ten_two (Nat.div_le_self _ _)
            have HW := Lib.hid (write_any B B (decL (n / decC ^ (i + 1))) (partL n i) wr hIB.out (by have := HD.out; have := HSZ.out; omega) (Nat.le_of_lt hBx))
            clear c0 hce hz hj0 hIB hlen1 hlen2
            generalize partL n i = pp at *
            go_wp2_with fail
            refine HW.out.mono ?_
            rintro e w3 ⟨rfl, hib3, hb3⟩
            rw [hps.out] at hib3
            have HIB := Lib.hid hib3
            have e1 : IntKind.i64.wrap ((i : Int) - 1) = (i : Int) - 1 := IntWalk.i64_in _ (by have := Hkb.out; omega)
            have e2 : Hid (((intOf (.int .i64 ((i : Int) - 1))) + 1).toNat < ((intOf (.int .i64 (i : Int))) + 1).toNat) := by show _ < _; simp [intOf] <;> omega
            clear hib3
            go_wp2_with fail
            exact ⟨⟨i, (i : Int) - 1, rfl, by omega, rfl, HIB.out, hbx.trans hb3⟩, e2.out⟩
    · have hlen : 0 < (dig b64 (n / decC ^ k)).length := by
        rcases Nat.eq_zero_or_pos (dig b64 (n / decC ^ k)).length with h | h
        · exact absurd ((dig_nil_iff b64_two _).1 (List.eq_nil_of_length_eq_zero h)) h0
        · exact h
      have t1 : decide (0 < (dig b64 (n / decC ^ k)).length) = true := decide_eq_true hlen
      have hLq : (dig b64 (n / decC ^ k)).length ≤ (dig b64 n).length := dig_length_mono b64_two (Nat.div_le_self _ _)
      have hpl := parts_len n k h0
      have Hk1 : Hid (n / decC ^ (k + 1 - 1) ≠ 0) := by show _ ≠ _; rw [Nat.add_sub_cancel]; exact h0
      have Hsu := Lib.hid (partCells_succ n k)
      have Hpd : Hid (n / decC ^ (k + 1) = n / decC ^ k / decC) := by show _ = _; rw [Nat.div_div_eq_div_mul, Nat.pow_succ]
      have Hpl : Hid (partL n k = if n / decC ^ k / decC = 0 then decL (n / decC ^ k) else decZ 19 (n / decC ^ k % decC)) := rfl
      have hkb : k ≤ 1374389534720 := by have := HSZ.out; omega
      have HBW := Lib.hid (fun W h => bw_any (n / decC ^ k) (.slice aa (dig b64 (n / decC ^ k)).length ca) W h (by have := HSZ.out; omega))
      clear hlen hLq hpl h0 hg
      generalize hPK : partL n k = pk at *
      generalize n / decC ^ k = q at *
      clear hPK
      go_wp2_with fail
      refine (HBW.out _ HA.out).mono ?_
      rintro e w1 ⟨vq, rfl, hvq, hb1⟩
      have HVQ := Lib.hid hvq
      obtain ⟨aq, cq, rfl, _⟩ := IsRow.opened hvq
      have hr : q % decC < decC := Nat.mod_lt _ decC_pos
      have HL1 := Lib.hid (hL.out.below hb1)
      have hx1 := ext_trans hbel hb1
      clear hvq hb1 hL hbel HBW t1
      go_wp2_with fail
      refine (decimal_any (q % decC) _ (Nat.lt_trans hr (by unfold decC b64; omega))).mono ?_
      rintro e w2 ⟨rfl, hb2⟩
      have HL2 := Lib.hid (HL1.out.below hb2)
      have HVQ2 := Lib.hid (HVQ.out.below hb2)
      have hx2 := ext_trans hx1 hb2
      clear HL1 HVQ hx1 hb2
      by_cases h1 : q / decC = 0
      · have hL0 : (dig b64 (q / decC)).length = 0 := by rw [h1]; rfl
        have Hpk : Hid (pk = decL (q % decC)) := by
          show _ = _
          rw [Hpl.out, if_pos h1]
          rcases Nat.lt_or_ge q decC with h | h
          · rw [Nat.mod_eq_of_lt h]
          · exact absurd (Nat.div_pos h decC_pos) (by omega)
        rw [hL0] at HVQ2 ⊢
        generalize decL (q % decC) = m at *
        have HL3 := Lib.hid (HL2.out.below ((Below.refl w2.heap.size w2).alloc (Nat.le_refl _) (.cells #[.string (strB m)] 9)))
        have hx3 := hx2.alloc hx2.size (.cells #[.string (strB m)] 9)
        have hsz2 := hx2.size
        clear hr h1 hL0
        have HVQ3 := Lib.hid (HVQ2.out.below ((Below.refl w2.heap.size w2).alloc (Nat.le_refl _) (.cells #[.string (strB m)] 9)))
        go_wp2_with (at_builtin; refine wpList_append_lrow _ rfl (.tmp 28) (.tmp 30) 22 rfl w.heap.size 9 iS _ 1 16 Try.underlying22 hiS hzS hsS hyS rfl (by decide) hzd _ _ _ rfl HL3.out ⟨w2.heap.size, 0, none⟩ 1 1 [.string (strB m)] rfl rfl (cell_new1 _ _ _) (by simp [Value.oneCell']) (by intro u hu; simp at hu; subst hu; exact noDig_string _) (by omega) (by unfold maxLen; omega) (by omega) (by simp; omega) ?_)
        intro g' cap' w3 hL4 hgr hat
        have HL4 := Lib.hid hL4
        have hx4 : Below w.heap.size w w3 := hx3.grown hgr (by simp; omega) (own_base HL3.out.1)
        have HVQ4 := Lib.hid (IsRow.grown (.inl rfl) (HVQ3.out) hgr HL3.out.2)
        clear hL4 hx3
        go_wp2_with fail
        exact ⟨⟨k + 1, by rw [Hpd.out]; exact HVQ4.out, .inr Hk1.out, by rw [Hsu.out, Hpk.out]; exact HL4.out, hx4⟩, by show 1374389534721 - (k + 1) < 1374389534721 - k; omega⟩
      · have hl2 : 0 < (dig b64 (q / decC)).length := by
          rcases Nat.eq_zero_or_pos (dig b64 (q / decC)).length with h | h
          · exact absurd ((dig_nil_iff b64_two _).1 (List.eq_nil_of_length_eq_zero h)) h1
          · exact h
        have t2 : decide (0 < (dig b64 (q / decC)).length) = true := decide_eq_true hl2
        have Hpk : Hid (pk = decZ 19 (q % decC)) := by show _ = _; rw [Hpl.out, if_neg h1]
        have hm19 : (decL (q % decC)).length ≤ 19 := by
          rw [decL_length]
          exact dig_length_le ten_two 19 _ (by rw [← decC_eq]; exact hr)
        have Hz : Hid (decZ 19 (q % decC) = List.replicate (19 - (decL (q % decC)).length) 48 ++ decL (q % decC)) := rfl
        generalize decL (q % decC) = m at *
        obtain ⟨c, hc⟩ : ∃ c, m.length + c = 19 := ⟨19 - m.length, by omega⟩
        have hsm : (strB m).size = m.length := rfl
        have e1 : IntKind.i64.wrap (19 - ((strB m).size : Int)) = (c : Int) := by rw [hsm, show (19 : Int) - (m.length : Int) = (c : Int) by omega]; exact IntWalk.i64_in _ (by omega)
        have hcat : strB (List.replicate c 48) ++ strB m = strB pk := by rw [strB_append, Hpk.out, Hz.out, show 19 - m.length = c by omega]
        have hc19 : c ≤ 19 := by omega
        have hz1 : (strB (List.replicate c 48)).size ≤ 19 := by rw [strB_size, List.length_replicate]; exact hc19
        have hz2 : (strB m).size ≤ 19 := by rw [strB_size]; omega
        clear hr h1 hl2 hm19 hc hsm Hz
        go_wp2_with fail
        refine (rep_any c _ hc19).mono ?_
        rintro e w2' ⟨rfl, hb3⟩
        have HL3 := Lib.hid ((HL2.out.below hb3).below ((Below.refl w2'.heap.size w2').alloc (Nat.le_refl _) (.cells #[.string (strB pk)] 9)))
        have HVQ3 := Lib.hid ((HVQ2.out.below hb3).below ((Below.refl w2'.heap.size w2').alloc (Nat.le_refl _) (.cells #[.string (strB pk)] 9)))
        have hx2' := ext_trans hx2 hb3
        have hx3 := hx2'.alloc hx2'.size (.cells #[.string (strB pk)] 9)
        have hsz2 := hx2'.size
        clear hb3 hx2 hx2'
        go_wp2_with (at_builtin; refine wpList_append_lrow _ rfl (.tmp 28) (.tmp 30) 22 rfl w.heap.size 9 iS _ 1 16 Try.underlying22 hiS hzS hsS hyS rfl (by decide) hzd _ _ _ rfl HL3.out ⟨w2'.heap.size, 0, none⟩ 1 1 [.string (strB pk)] rfl rfl (cell_new1 _ _ _) (by simp [Value.oneCell']) (by intro u hu; simp at hu; subst hu; exact noDig_string _) (by omega) (by unfold maxLen; omega) (by omega) (by simp; omega) ?_)
        intro g' cap' w3 hL4 hgr hat
        have HL4 := Lib.hid hL4
        have hx4 : Below w.heap.size w w3 := hx3.grown hgr (by simp; omega) (own_base HL3.out.1)
        have HVQ4 := Lib.hid (IsRow.grown (.inl rfl) (HVQ3.out) hgr HL3.out.2)
        clear hL4 hx3
        go_wp2_with fail
        exact ⟨⟨k + 1, by rw [Hpd.out]; exact HVQ4.out, .inr Hk1.out, by rw [Hsu.out]; exact HL4.out, hx4⟩, by show 1374389534721 - (k + 1) < 1374389534721 - k; omega⟩

theorem decT_len (n : Nat) (h : (dig b64 n).length ≤ 68719476736) : (strB (decT n)).size ≤ 1374389534720 := by
  have := digits_len n
  rw [strB_size]
  unfold decT
  split
  · simp
  · rw [decL_length]; omega

set_option maxRecDepth 100000 in
set_option maxHeartbeats 4000000 in
theorem textRat_any (q : Rat) (v : Value) (w : World) (h : IsRat w v q) (hs : szR q 68719476736) : Calls Try.prog 47 #[v] w (RetStr (txtQ q) w) := by
  obtain ⟨a1, c1, a2, c2, rfl, n1, n2⟩ := h.opened
  have N1 := Lib.hid n1
  have N2 := Lib.hid n2
  have HS := Lib.hid hs
  have hB := blk_new w #[.bool (decide (q.num < 0)), .slice a1 (dig b64 q.num.natAbs).length c1, .slice a2 (dig b64 (dn q.den)).length c2] 50
  have hal := (Below.refl w.heap.size w).alloc (Nat.le_refl _) (.cells #[.bool (decide (q.num < 0)), .slice a1 (dig b64 q.num.natAbs).length c1, .slice a2 (dig b64 (dn q.den)).length c2] 50)
  have hT1 := text_any q.num.natAbs (.slice a1 (dig b64 q.num.natAbs).length c1) _ (n1.below hal) hs.1
  have HT1 := Lib.hid hT1
  clear h n1 n2 hs hT1
  have Htx : Hid (txtQ q = (if q.num < 0 then [45] else []) ++ (decT q.num.natAbs ++ (if q.den = 1 then [] else 47 :: decT q.den))) := rfl
  go_enter Try.func47, Try.ntmps47
  go_wp2_with fail
  refine HT1.out.mono ?_
  rintro e w1 ⟨rfl, hb1⟩
  have hB1 := blk_keep hB hb1 (blk_lt hB)
  have hx1 := ext_trans hal hb1
  have p0 := blk_cell hB1 0 (.bool (decide (q.num < 0))) rfl
  have p2 := blk_cell hB1 2 (.slice a2 (dig b64 (dn q.den)).length c2) rfl
  have HN2 := Lib.hid (N2.out.below hx1)
  clear hB hB1 hal hb1 HT1
  have hz1 := decT_len q.num.natAbs HS.out.1
  have ho1 : (ByteArray.mk #[45]).size = 1 := rfl
  have ho2 : (ByteArray.mk #[47]).size = 1 := rfl
  by_cases hneg : q.num < 0
  · have tn : decide (q.num < 0) = true := decide_eq_true hneg
    have Hneg := Lib.hid hneg
    rw [tn] at p0 ⊢
    clear hneg tn
    by_cases hd : q.den = 1
    · have hdn : dn q.den = 0 := by simp [dn, hd]
      rw [hdn] at p2 ⊢
      rw [dig_zero, List.length_nil] at p2 ⊢
      have Htx2 : Hid (txtQ q = [45] ++ decT q.num.natAbs) := by show _ = _; rw [Htx.out, if_pos Hneg.out, if_pos hd, List.append_nil]
      clear hd hdn Htx HN2 N2
      have hcat : ByteArray.mk #[45] ++ strB (decT q.num.natAbs) = strB (txtQ q) := by rw [show ByteArray.mk #[45] = strB [45] from rfl, strB_append, Htx2.out]
      go_wp2_with fail
      go_ret
      exact ⟨rfl, hx1⟩
    · have hdn : dn q.den = q.den := by simp [dn, hd]
      rw [hdn] at p2 HN2 ⊢
      have hlen : 0 < (dig b64 q.den).length := by
        rcases Nat.eq_zero_or_pos (dig b64 q.den).length with h | h
        · exact absurd ((dig_nil_iff b64_two _).1 (List.eq_nil_of_length_eq_zero h)) (by have := q.den_pos; omega)
        · exact h
      have tl : decide (0 < (dig b64 q.den).length) = true := decide_eq_true hlen
      have Htx2 : Hid (txtQ q = [45] ++ (decT q.num.natAbs ++ 47 :: decT q.den)) := by show _ = _; rw [Htx.out, if_pos Hneg.out, if_neg hd]
      have hz2 := decT_len q.den HS.out.2
      have HT2 := Lib.hid (text_any q.den _ _ HN2.out HS.out.2)
      have hcat2 : ByteArray.mk #[47] ++ strB (decT q.den) = strB (47 :: decT q.den) := by rw [show ByteArray.mk #[47] = strB [47] from rfl, strB_append]; rfl
      have hz3 : (strB (47 :: decT q.den)).size ≤ 1374389534721 := by rw [strB_size] at hz2 ⊢; rw [List.length_cons]; omega
      have hcat1 : ByteArray.mk #[45] ++ strB (decT q.num.natAbs) = strB (45 :: decT q.num.natAbs) := by rw [show ByteArray.mk #[45] = strB [45] from rfl, strB_append]; rfl
      have hcat3 : strB (45 :: decT q.num.natAbs) ++ strB (47 :: decT q.den) = strB (txtQ q) := by rw [strB_append, Htx2.out]; rfl
      have hz4 : (strB (45 :: decT q.num.natAbs)).size ≤ 1374389534721 := by rw [strB_size] at hz1 ⊢; rw [List.length_cons]; omega
      clear hd hdn Htx hlen HN2 N2
      go_wp2_with fail
      refine HT2.out.mono ?_
      rintro e w2 ⟨rfl, hb2⟩
      go_wp2_with fail
      go_ret
      exact ⟨rfl, ext_trans hx1 hb2⟩
  · have tn : decide (q.num < 0) = false := decide_eq_false hneg
    have Hneg := Lib.hid hneg
    rw [tn] at p0 ⊢
    clear hneg tn
    by_cases hd : q.den = 1
    · have hdn : dn q.den = 0 := by simp [dn, hd]
      rw [hdn] at p2 ⊢
      rw [dig_zero, List.length_nil] at p2 ⊢
      have Htx2 : Hid (txtQ q = decT q.num.natAbs) := by show _ = _; rw [Htx.out, if_neg Hneg.out, if_pos hd, List.append_nil]; rfl
      clear hd hdn Htx HN2 N2
      go_wp2_with fail
      go_ret
      exact ⟨by rw [Htx2.out]; rfl, hx1⟩
    · have hdn : dn q.den = q.den := by simp [dn, hd]
      rw [hdn] at p2 HN2 ⊢
      have hlen : 0 < (dig b64 q.den).length := by
        rcases Nat.eq_zero_or_pos (dig b64 q.den).length with h | h
        · exact absurd ((dig_nil_iff b64_two _).1 (List.eq_nil_of_length_eq_zero h)) (by have := q.den_pos; omega)
        · exact h
      have tl : decide (0 < (dig b64 q.den).length) = true := decide_eq_true hlen
      have Htx2 : Hid (txtQ q = decT q.num.natAbs ++ 47 :: decT q.den) := by show _ = _; rw [Htx.out, if_neg Hneg.out, if_neg hd]; rfl
      have hz2 := decT_len q.den HS.out.2
      have HT2 := Lib.hid (text_any q.den _ _ HN2.out HS.out.2)
      have hcat2 : ByteArray.mk #[47] ++ strB (decT q.den) = strB (47 :: decT q.den) := by rw [show ByteArray.mk #[47] = strB [47] from rfl, strB_append]; rfl
      have hz3 : (strB (47 :: decT q.den)).size ≤ 1374389534721 := by rw [strB_size] at hz2 ⊢; rw [List.length_cons]; omega
      have hcat3 : strB (decT q.num.natAbs) ++ strB (47 :: decT q.den) = strB (txtQ q) := by rw [strB_append, Htx2.out]
      clear hd hdn Htx hlen HN2 N2
      go_wp2_with fail
      refine HT2.out.mono ?_
      rintro e w2 ⟨rfl, hb2⟩
      go_wp2_with fail
      go_ret
      exact ⟨rfl, ext_trans hx1 hb2⟩

end Go.Proofs.Ytkdcgkafjkklcaa

/- THE WALK OF law03.awake. -/
namespace Go.Proofs.Ytkdcgkafjkklcaa
open Go.RowKit

theorem pt_fields : (Try.prog.fieldsOf 55).toList = [{ name := "X", type := 3, offset := 0, embedded := false, tag := "", pkgPath := "", byteOffset := 0 }, { name := "Y", type := 3, offset := 1, embedded := false, tag := "", pkgPath := "", byteOffset := 8 }] := by kernel_rfl
set_option maxRecDepth 100000 in
theorem eql_pt (a b c d : Int) (w : World) : (binOp .eql 55 (.agg #[.int .i64 a, .int .i64 b]) (.agg #[.int .i64 c, .int .i64 d])).run Try.prog w = .ok (.bool (a == c && b == d)) w := by
  rw [run_eql_struct, run_equalIn_struct w 9999 55 _ _ (by kernel_rfl) (by kernel_rfl), pt_fields]
  have n0 : ("X" ≠ "_") := by decide
  have n1 : ("Y" ≠ "_") := by decide
  unfold Op.eqFields
  rw [if_pos n0]
  simp only [Sem.run_bind, (part2 _ _ _).1, eqInt, Result.andThen_ok, Sem.run_ite]
  cases a == c with
  | false => simp
  | true =>
    unfold Op.eqFields
    rw [if_pos n1]
    simp only [Sem.run_bind, (part2 _ _ _).2, eqInt, Result.andThen_ok, Sem.run_ite]
    unfold Op.eqFields
    by_cases h : b = d <;> simp [h]

def ptsA : List Pt := [(0, 0), (10, 0), (0, 10)]
def crsA : Crs := ⟨0, 2, 6, 1, 0, 10⟩
theorem outErr_A : outErr ptsA = 0 := by
  refine outErr_ok _ (by decide) (by decide) ?_
  intro k hk j hj i hi
  have : k = 2 := by simp [ptsA] at hk; omega
  subst this
  obtain rfl : j = 1 := by omega
  obtain rfl : i = 0 := by omega
  decide
theorem areaQ_A : areaQ ptsA = 50 := by decide +kernel
theorem txt_50 : strB (txtQ 50) = { data := #[53, 48] } := by decide +kernel
theorem towsErr_A : towsErr [crsA] = 0 := by decide +kernel
theorem towsVal_A : towsVal [crsA] = [(0, 0, 10, 6), (0, 7, 10, 13)] := by decide +kernel
theorem pts_new3 (w : World) (a b c d e f : Int) (t : TypeId) : PairsOf (w.alloc (.cells #[.int .i64 a, .int .i64 b, .int .i64 c, .int .i64 d, .int .i64 e, .int .i64 f] t)) (.slice (some ⟨w.heap.size, 0, none⟩) 3 3) [(a, b), (c, d), (e, f)] := by
  have hB := blk_new w #[.int .i64 a, .int .i64 b, .int .i64 c, .int .i64 d, .int .i64 e, .int .i64 f] t
  refine ⟨_, 3, rfl, fun _ => ⟨w.heap.size, 0, rfl, blk_lt hB, fun i hi => ?_⟩⟩
  match i, hi with
  | 0, _ => exact ⟨blk_cell hB 0 _ rfl, blk_cell hB 1 _ rfl⟩
  | 1, _ => exact ⟨blk_cell hB 2 _ rfl, blk_cell hB 3 _ rfl⟩
  | 2, _ => exact ⟨blk_cell hB 4 _ rfl, blk_cell hB 5 _ rfl⟩
  | i + 3, hi => simp at hi; omega
theorem crs_new1 (w : World) (c : Crs) (t : TypeId) : CrsOf (w.alloc (.cells #[.int .i64 c.first, .int .i64 c.tows, .int .i64 c.width, .int .i64 c.gap, .int .i64 c.from_, .int .i64 c.to_] t)) (.slice (some ⟨w.heap.size, 0, none⟩) 1 1) [c] := by
  have hB := blk_new w #[.int .i64 c.first, .int .i64 c.tows, .int .i64 c.width, .int .i64 c.gap, .int .i64 c.from_, .int .i64 c.to_] t
  refine ⟨_, 1, rfl, fun _ => ⟨w.heap.size, 0, rfl, blk_lt hB, fun i hi => ?_⟩⟩
  match i, hi with
  | 0, _ => exact ⟨blk_cell hB 0 _ rfl, blk_cell hB 1 _ rfl, blk_cell hB 2 _ rfl, blk_cell hB 3 _ rfl, blk_cell hB 4 _ rfl, blk_cell hB 5 _ rfl⟩
  | i + 1, hi => simp at hi

set_option maxRecDepth 100000 in
set_option maxHeartbeats 1000000 in
theorem awake03_any (w : World) : Calls Try.prog 16 #[] w (RetBool true w) := by
  have HT : Hid (∀ W, Calls Try.prog 19 #[.agg #[.int .i64 3, .int .i64 4], .agg #[.int .i64 2, .int .i64 1]] W (fun e w' => e = .returned (.tuple #[.agg #[.int .i64 10, .int .i64 (-5)], .int .i64 0]) ∧ Below W.heap.size W w')) := fun W => turned_ok (3, 4) (2, 1) W (by decide) (by decide) (by decide) (by decide) (by decide)
  have HA : Hid (∀ W v, PairsOf W v ptsA → Calls Try.prog 24 #[v] W (RetRatE 50 0 W)) := fun W v h => by
    have := layupArea_ok ptsA v W h outErr_A
    rw [areaQ_A] at this
    exact this
  have HW : Hid (∀ W v, CrsOf W v [crsA] → Calls Try.prog 25 #[v] W (fun e w' => ∃ v, e = .returned (.tuple #[v, .int .i64 0]) ∧ BxsOf w' v [(0, 0, 10, 6), (0, 7, 10, 13)] ∧ Below W.heap.size W w')) := fun W v h => by
    have := tows_any [crsA] v W h
    unfold RetTows at this
    rw [towsErr_A, towsVal_A] at this
    exact this
  have HX : Hid (∀ W v, IsRat W v 50 → Calls Try.prog 47 #[v] W (fun e w' => e = .returned (.string { data := #[53, 48] }) ∧ Below W.heap.size W w')) := fun W v h => by
    have := textRat_any 50 v W h (i64_szR 50 (by omega) (by omega) _ (by omega))
    unfold RetStr at this
    rw [txt_50] at this
    exact this
  have he := eql_pt 10 (-5) 10 (-5)
  rw [show ((10 : Int) == 10 && (-5 : Int) == -5) = true from rfl] at he
  go_enter Try.func16, Try.ntmps16
  go_wp2_with fail
  refine (HT.out _).mono ?_
  rintro e w1 ⟨rfl, hb1⟩
  have hP := blk_new w1 #[.int .i64 10, .int .i64 (-5)] 55
  have hx1 := hb1.alloc hb1.size (.cells #[.int .i64 10, .int .i64 (-5)] 55)
  have hPl : w1.heap.size < (w1.alloc (.cells #[.int .i64 10, .int .i64 (-5)] 55)).heap.size := by simp
  clear hb1
  have hPA := pts_new3 (w1.alloc (.cells #[.int .i64 10, .int .i64 (-5)] 55)) 0 0 10 0 0 10 55
  rw [World.size_alloc] at hPA
  have HPA := Lib.hid hPA
  clear hPA
  have hP2 := blk_keep hP ((Below.refl _ _).alloc (Nat.le_refl _) (.cells #[.int .i64 0, .int .i64 0, .int .i64 10, .int .i64 0, .int .i64 0, .int .i64 10] 55)) hPl
  have hx2 := hx1.alloc hx1.size (.cells #[.int .i64 0, .int .i64 0, .int .i64 10, .int .i64 0, .int .i64 0, .int .i64 10] 55)
  clear hx1 hP hPl
  go_wp2_with fail
  refine (HA.out _ _ HPA.out).mono ?_
  rintro e w2 ⟨va, rfl, hva, hb2⟩
  have hP3 := blk_keep hP2 hb2 (blk_lt hP2)
  have hx3 := ext_trans hx2 hb2
  obtain ⟨a5, c5, a6, c6, rfl, _, _⟩ := hva.opened
  have HVA := Lib.hid hva
  clear hP2 hb2 hx2 hva HPA
  generalize hq : (50 : Rat) = q at *
  clear hq
  have hal4 := (Below.refl w2.heap.size w2).alloc (Nat.le_refl _) (.cells #[.bool (decide (q.num < 0)), .slice a5 (dig b64 q.num.natAbs).length c5, .slice a6 (dig b64 (dn q.den)).length c6] 50)
  have hQ := blk_new w2 #[.bool (decide (q.num < 0)), .slice a5 (dig b64 q.num.natAbs).length c5, .slice a6 (dig b64 (dn q.den)).length c6] 50
  have hP4 := blk_keep hP3 hal4 (blk_lt hP3)
  have hx4 := ext_trans hx3 hal4
  have HVA4 := Lib.hid (HVA.out.below hal4)
  clear hP3 hx3 hal4 HVA
  have hCA := (crs_new1 (w2.alloc (.cells #[.bool (decide (q.num < 0)), .slice a5 (dig b64 q.num.natAbs).length c5, .slice a6 (dig b64 (dn q.den)).length c6] 50)) crsA 137)
  rw [World.size_alloc] at hCA
  have HCA := Lib.hid hCA
  clear hCA
  have hal5 := (Below.refl (w2.alloc (.cells #[.bool (decide (q.num < 0)), .slice a5 (dig b64 q.num.natAbs).length c5, .slice a6 (dig b64 (dn q.den)).length c6] 50)).heap.size (w2.alloc (.cells #[.bool (decide (q.num < 0)), .slice a5 (dig b64 q.num.natAbs).length c5, .slice a6 (dig b64 (dn q.den)).length c6] 50))).alloc (Nat.le_refl _) (.cells #[.int .i64 0, .int .i64 2, .int .i64 6, .int .i64 1, .int .i64 0, .int .i64 10] 137)
  have hQ5 := blk_keep hQ hal5 (blk_lt hQ)
  have hP5 := blk_keep hP4 hal5 (blk_lt hP4)
  have hx5 := ext_trans hx4 hal5
  have HVA5 := Lib.hid (HVA4.out.below hal5)
  clear hQ hP4 hx4 hal5 HVA4
  go_wp2_with fail
  refine (HW.out _ _ HCA.out).mono ?_
  rintro e w6 ⟨vt, rfl, hvt, hb6⟩
  obtain ⟨ao, cap, rfl, hB⟩ := hvt
  obtain ⟨b, off, rfl, hbl, hBB⟩ := hB (by simp)
  obtain ⟨_, hy, _, _⟩ := hBB 1 (by simp)
  have hy2 : w6.cell? ⟨b, off + 4 + 1, none⟩ = some (.int .i64 7) := hy
  have hQ6 := blk_keep hQ5 hb6 (blk_lt hQ5)
  have hP6 := blk_keep hP5 hb6 (blk_lt hP5)
  have hx6 := ext_trans hx5 hb6
  have HVA6 := Lib.hid (HVA5.out.below hb6)
  have p0 := blk_cell hP6 0 (.int .i64 10) rfl
  have p1 := blk_cell hP6 1 (.int .i64 (-5)) rfl
  have q0 := blk_cell hQ6 0 (.bool (decide (q.num < 0))) rfl
  have q1 := blk_cell hQ6 1 (.slice a5 (dig b64 q.num.natAbs).length c5) rfl
  have q2 := blk_cell hQ6 2 (.slice a6 (dig b64 (dn q.den)).length c6) rfl
  clear hQ5 hP5 hx5 hb6 HVA5 HCA hQ6 hP6 hBB hB hy
  go_wp2_with fail
  refine (HX.out _ _ HVA6.out).mono ?_
  rintro e w7 ⟨rfl, hb7⟩
  have hy3 := (hb7.cell (p := ⟨b, off + 4 + 1, none⟩) hbl).trans hy2
  have hx7 := ext_trans hx6 hb7
  clear p0 p1 q0 q1 q2 hy2 hx6 hb7
  go_wp2_with fail
  go_ret
  exact ⟨rfl, hx7⟩

end Go.Proofs.Ytkdcgkafjkklcaa

/- THE WALK OF law03.LayupTows. -/
namespace Go.Proofs.Ytkdcgkafjkklcaa
open Go.RowKit

/-! The plain part: the reference's tests of a course. -/
theorem inB_zero : inB 0 (-far) far = true := by decide
theorem crsErr_arg {c : Crs} (h : ¬ (1 ≤ c.tows) ∨ ¬ (c.tows ≤ 24) ∨ ¬ (1 ≤ c.width) ∨ ¬ (c.width ≤ 1000000) ∨ inB c.gap (-1000000) 1000000 = false ∨ inB c.first (-far) far = false ∨ inB c.from_ (-far) far = false ∨ inB c.to_ (-far) far = false) : crsErr c = 1 := by
  have e : ptsOk [(c.from_, c.first), (c.to_, 0)] = (inB c.from_ (-far) far && inB c.first (-far) far && (inB c.to_ (-far) far && inB 0 (-far) far && true)) := rfl
  have et : inB c.tows 1 24 = (decide (1 ≤ c.tows) && decide (c.tows ≤ 24)) := rfl
  have ew : inB c.width 1 1000000 = (decide (1 ≤ c.width) && decide (c.width ≤ 1000000)) := rfl
  unfold crsErr cE
  rw [e, et, ew]
  rcases h with h | h | h | h | h | h | h | h
  · rw [decide_eq_false h]; rfl
  · rw [decide_eq_false h]; simp
  · rw [decide_eq_false h]; simp
  · rw [decide_eq_false h]; simp
  · rw [h]; simp
  · rw [h]; simp
  · rw [h]; simp
  · rw [h]; simp
theorem crsErr_rest {c : Crs} (h1 : 1 ≤ c.tows) (h2 : c.tows ≤ 24) (h3 : 1 ≤ c.width) (h4 : c.width ≤ 1000000) (h5 : inB c.gap (-1000000) 1000000 = true) (h6 : inB c.first (-far) far = true) (h7 : inB c.from_ (-far) far = true) (h8 : inB c.to_ (-far) far = true) :
    crsErr c = if decide (c.from_ ≥ c.to_) || decide (c.width + c.gap ≤ 0) then 7 else 0 := by
  have e : ptsOk [(c.from_, c.first), (c.to_, 0)] = (inB c.from_ (-far) far && inB c.first (-far) far && (inB c.to_ (-far) far && inB 0 (-far) far && true)) := rfl
  have et : inB c.tows 1 24 = (decide (1 ≤ c.tows) && decide (c.tows ≤ 24)) := rfl
  have ew : inB c.width 1 1000000 = (decide (1 ≤ c.width) && decide (c.width ≤ 1000000)) := rfl
  unfold crsErr cE
  rw [e, et, ew, h5, h6, h7, h8, inB_zero, decide_eq_true h1, decide_eq_true h2, decide_eq_true h3, decide_eq_true h4]
  rfl

set_option maxHeartbeats 1000000 in
theorem rwithin_any (x m : Int) (w : World) (hm : 0 ≤ m ∧ m ≤ 4398046511104) : Calls Try.prog 60 #[.int .i64 x, .int .i64 m] w (RetBool (inB x (-m) m) w) := by
  have en : IntKind.i64.wrap (-m) = -m := IntWalk.i64_in _ (by omega)
  by_cases h1 : -m ≤ x
  · by_cases h2 : x ≤ m
    · have Hr : Hid (inB x (-m) m = true) := by show _ = _; simp [inB, h1, h2]
      have t1 : decide (x ≥ -m) = true := decide_eq_true h1
      have t2 : decide (x ≤ m) = true := decide_eq_true h2
      clear h1 h2
      go_enter Try.func60, Try.ntmps60
      go_wp2_with fail
      go_ret
      exact ⟨by rw [Hr.out]; rfl, Below.refl _ _⟩
    · have Hr : Hid (inB x (-m) m = false) := by show _ = _; simp [inB, h1, h2]
      have t1 : decide (x ≥ -m) = true := decide_eq_true h1
      have t2 : decide (x ≤ m) = false := decide_eq_false h2
      clear h1 h2
      go_enter Try.func60, Try.ntmps60
      go_wp2_with fail
      go_ret
      exact ⟨by rw [Hr.out]; rfl, Below.refl _ _⟩
  · have Hr : Hid (inB x (-m) m = false) := by show _ = _; simp [inB, h1]
    have t1 : decide (x ≥ -m) = false := decide_eq_false h1
    clear h1
    go_enter Try.func60, Try.ntmps60
    go_wp2_with fail
    go_ret
    exact ⟨by rw [Hr.out]; rfl, Below.refl _ _⟩

def crsCells : List Crs → List Value
  | [] => []
  | c :: l => .int .i64 c.first :: .int .i64 c.tows :: .int .i64 c.width :: .int .i64 c.gap :: .int .i64 c.from_ :: .int .i64 c.to_ :: crsCells l
theorem crsCells_append (a b : List Crs) : crsCells (a ++ b) = crsCells a ++ crsCells b := by
  induction a with
  | nil => rfl
  | cons r a ih => simp [crsCells, ih]
theorem crsCells_take (cs : List Crs) (i : Nat) (hi : i < cs.length) : crsCells (cs.take (i + 1)) = crsCells (cs.take i) ++ [.int .i64 (cs.getD i crs0).first, .int .i64 (cs.getD i crs0).tows, .int .i64 (cs.getD i crs0).width, .int .i64 (cs.getD i crs0).gap, .int .i64 (cs.getD i crs0).from_, .int .i64 (cs.getD i crs0).to_] := by
  rw [List.take_add_one, crsCells_append]
  simp [hi, crsCells]
theorem crsCells_get (ls : List Crs) : ∀ i, i < ls.length → (crsCells ls)[i * 6]? = some (.int .i64 (ls.getD i crs0).first) ∧ (crsCells ls)[i * 6 + 1]? = some (.int .i64 (ls.getD i crs0).tows) ∧ (crsCells ls)[i * 6 + 2]? = some (.int .i64 (ls.getD i crs0).width) ∧ (crsCells ls)[i * 6 + 3]? = some (.int .i64 (ls.getD i crs0).gap) ∧ (crsCells ls)[i * 6 + 4]? = some (.int .i64 (ls.getD i crs0).from_) ∧ (crsCells ls)[i * 6 + 5]? = some (.int .i64 (ls.getD i crs0).to_) := by
  induction ls with
  | nil => intro i hi; simp at hi
  | cons r l ih =>
    intro i hi
    cases i with
    | zero => simp [crsCells]
    | succ i =>
      have := ih i (by simpa using hi)
      simpa [crsCells, Nat.succ_mul] using this
theorem CrsOf.ofRow {w : World} {base : Nat} {e : TypeId} {v : Value} {ls : List Crs} (h : LRow w base e 6 v ls.length (crsCells ls)) : CrsOf w v ls := by
  rcases Nat.eq_zero_or_pos ls.length with h0 | hp
  · rcases h.1.2 with ⟨rfl, _⟩ | ⟨g, cap, cur, rfl, _⟩
    · exact ⟨none, 0, by rw [h0], fun h => absurd h (by omega)⟩
    · exact ⟨_, _, rfl, fun h => absurd h (by omega)⟩
  · obtain ⟨g, cap, rfl⟩ := ownsRow_some h.1 hp
    have hc : ∀ j u, (crsCells ls)[j]? = some u → w.cell? ((⟨g, 0, none⟩ : Addr).add j) = some u := h.1.cells (g := g) rfl
    have hlt : g < w.heap.size := (h.lt rfl).1
    refine ⟨_, _, rfl, fun _ => ⟨g, 0, rfl, hlt, fun i hi => ?_⟩⟩
    obtain ⟨h0, h1, h2, h3, h4, h5⟩ := crsCells_get ls i hi
    have ea : ∀ j, (⟨g, 0, none⟩ : Addr).add j = ⟨g, 0 + j, none⟩ := fun j => by unfold Addr.add; split <;> simp_all
    refine ⟨?_, ?_, ?_, ?_, ?_, ?_⟩
    · rw [← ea]; exact hc _ _ h0
    all_goals rw [Nat.add_assoc, ← ea]
    · exact hc _ _ h1
    · exact hc _ _ h2
    · exact hc _ _ h3
    · exact hc _ _ h4
    · exact hc _ _ h5
theorem cell_new6i (w : World) (a b c d e f : Value) (t : TypeId) : ∀ j u, [a, b, c, d, e, f][j]? = some u → (w.alloc (.cells #[a, b, c, d, e, f] t)).cell? ((⟨w.heap.size, 0, none⟩ : Addr).add j) = some u := cell_new6 w a b c d e f t
theorem info_qcourse : (Try.prog.info? 149).map (fun i => (i.zero, i.size, i.bytes)) = some (some (.agg #[.int .i64 0, .int .i64 0, .int .i64 0, .int .i64 0, .int .i64 0, .int .i64 0]), 6, 48) := by kernel_rfl
def RetCrs (cs : List Crs) (w : World) (e : Ending) (w' : World) : Prop := ∃ v, e = .returned v ∧ CrsOf w' v cs ∧ Below w.heap.size w w'

set_option maxRecDepth 100000 in
set_option maxHeartbeats 4000000 in
theorem courses_any (cs : List Crs) (v : Value) (w : World) (h : CrsOf w v cs) (hl : cs.length ≤ 1000000) : Calls Try.prog 27 #[v] w (RetCrs cs w) := by
  obtain ⟨ao, cap, rfl, hE⟩ := h
  have HE := Lib.hid hE
  clear hE
  obtain ⟨i0, hi0, hz0, hz1, hz2⟩ := info_parts info_qcourse
  have hzd : ∀ u ∈ (Value.agg #[.int .i64 0, .int .i64 0, .int .i64 0, .int .i64 0, .int .i64 0, .int .i64 0]).cells.toList, noDig u := by
    intro u hu
    simp [Value.cells] at hu
    subst hu
    exact noDig_i64 _
  go_enter Try.func27, Try.ntmps27
  go_wp2_with fail
  go_loopw [3, 8] (fun mv iv wr => ∃ (i : Nat), i ≤ cs.length ∧ iv = .int .i64 i ∧ Hid (LRow wr w.heap.size 149 6 mv i (crsCells (cs.take i))) ∧ Below w.heap.size w wr) (fun _ iv _ => cs.length - (intOf iv).toNat)
  case atStart => exact ⟨0, Nat.zero_le _, rfl, LRow.nil _ _ _ _, Below.refl _ _⟩
  case round =>
    obtain ⟨i, hi, rfl, hL, hbel⟩ := hrel
    by_cases hlt : i < cs.length
    · obtain ⟨b, off, rfl, hbl, hEE⟩ := HE.out (by omega)
      obtain ⟨g0, g1, g2, g3, g4, g5⟩ := (hEE i hlt).below hbel hbl
      have hlt' : (i : Int) < cs.length := by omega
      have hge' : (0 : Int) ≤ i := by omega
      have hbl2 : b < wr.heap.size := Nat.lt_of_lt_of_le hbl hbel.size
      have Htk := Lib.hid (crsCells_take cs i hlt)
      clear hEE
      generalize cs.getD i crs0 = c at *
      have hx1 := (Below.refl wr.heap.size wr).alloc (Nat.le_refl _) (.cells #[.int .i64 c.first, .int .i64 c.tows, .int .i64 c.width, .int .i64 c.gap, .int .i64 c.from_, .int .i64 c.to_] 137)
      have hx2 := hx1.alloc hx1.size (.cells #[.int .i64 c.first, .int .i64 c.tows, .int .i64 c.width, .int .i64 c.gap, .int .i64 c.from_, .int .i64 c.to_] 149)
      have hcn := cell_new6i (wr.alloc (.cells #[.int .i64 c.first, .int .i64 c.tows, .int .i64 c.width, .int .i64 c.gap, .int .i64 c.from_, .int .i64 c.to_] 137)) (.int .i64 c.first) (.int .i64 c.tows) (.int .i64 c.width) (.int .i64 c.gap) (.int .i64 c.from_) (.int .i64 c.to_) 149
      rw [World.size_alloc] at hcn
      have HCN := Lib.hid hcn
      have HL2 := Lib.hid (hL.out.below hx2)
      have hbs := hbel.size
      clear hcn hL hx1
      go_wp2_with (at_builtin; refine wpList_append_lrow _ rfl (.tmp 12) (.tmp 14) 69 rfl w.heap.size 149 i0 _ 6 48 Try.underlying69 hi0 hz0 hz1 hz2 rfl (by decide) hzd _ _ _ rfl HL2.out ⟨wr.heap.size + 1, 0, none⟩ 1 1 _ rfl rfl HCN.out (by simp [Value.oneCell']) (by intro u hu; simp at hu; rcases hu with rfl | rfl | rfl | rfl | rfl | rfl <;> exact noDig_i64 _) (by omega) (by unfold maxLen; omega) (by omega) (by simp; omega) ?_)
      intro g cap' w3 hL3 hgr hat
      have hx3 : Below w.heap.size w w3 := (hbel.trans (hx2.mono hbel.size)).grown hgr (by simp; omega) (ownBlock_low' HL2.out.1)
      have HL3 := Lib.hid hL3
      clear hL3 hgr hat HL2 hx2
      go_wp2_with fail
      exact ⟨⟨i + 1, by omega, by go_num, by rw [Htk.out]; exact HL3.out, hx3⟩, meas_up hlt⟩
    · obtain rfl : i = cs.length := by omega
      rw [List.take_length] at hL
      have HR := Lib.hid (CrsOf.ofRow hL.out)
      clear hL
      go_wp2_with fail
      go_ret
      exact ⟨_, rfl, HR.out, hbel⟩

theorem keepC3 {n : Nat} {W a b : World} {A0 A1 A2 : Addr} {v0 v1 v2 : Value} (hn : n ≤ W.heap.size) (hb : Below a.heap.size a b) (h : Below n W a ∧ a.cell? A0 = some v0 ∧ a.cell? A1 = some v1 ∧ a.cell? A2 = some v2) :
    Below n W b ∧ b.cell? A0 = some v0 ∧ b.cell? A1 = some v1 ∧ b.cell? A2 = some v2 := keepB3c hn hb h
theorem keepC3g {n : Nat} {W a b : World} {B j0 j1 j2 : Nat} {v0 v1 v2 : Value} {row : Option Nat} (hg : a.grownBy b row) (hr : ∀ k, row = some k → n ≤ k) (hB : B < n) (hn : n ≤ a.heap.size) (h : Below n W a ∧ a.cell? ⟨B, j0, none⟩ = some v0 ∧ a.cell? ⟨B, j1, none⟩ = some v1 ∧ a.cell? ⟨B, j2, none⟩ = some v2) :
    Below n W b ∧ b.cell? ⟨B, j0, none⟩ = some v0 ∧ b.cell? ⟨B, j1, none⟩ = some v1 ∧ b.cell? ⟨B, j2, none⟩ = some v2 := by
  obtain ⟨h0, h1, h2, h3⟩ := h
  have hb := hg.block B (by omega) (fun e => by have := hr B e.symm; omega)
  have e : ∀ j v, a.cell? ⟨B, j, none⟩ = some v → b.cell? ⟨B, j, none⟩ = some v := fun j v h => by rw [← h]; exact World.cell?_of_block (a := ⟨B, j, none⟩) hb
  exact ⟨h0.grown hg hn hr, e _ _ h1, e _ _ h2, e _ _ h3⟩

set_option maxRecDepth 100000 in
set_option maxHeartbeats 16000000 in
theorem qtows_any (cs : List Crs) (v : Value) (w : World) (h : CrsOf w v cs) : Calls Try.prog 26 #[v] w (RetTows cs w) := by
  obtain ⟨ao, cap, rfl, hE⟩ := h
  have HE := Lib.hid hE
  clear hE
  by_cases c1 : 24 < cs.length
  · have Hr : Hid (towsErr cs = 4) := by show _ = _; unfold towsErr; rw [if_pos c1]
    have t1 : decide ((cs.length : Int) > 24) = true := by simp; omega
    clear c1
    go_enter Try.func26, Try.ntmps26
    go_wp2_with fail
    go_ret2
    exact ⟨.slice none 0 0, by rw [Hr.out]; rfl, by rw [towsVal_err (by rw [Hr.out]; omega)]; exact BxsOf.nil _, Below.refl _ _⟩
  · have t1 : decide ((cs.length : Int) > 24) = false := by simp; omega
    have h24 : cs.length ≤ 24 := by omega
    have Hc1 := Lib.hid c1
    clear c1
    go_enter Try.func26, Try.ntmps26
    go_wp2_with fail
    clear t1
    go_loopw [4] (fun iv wr => ∃ (i : Nat), i ≤ cs.length ∧ iv = .int .i64 i ∧ Hid (crsTo cs i = 0) ∧ Below w.heap.size w wr) (fun iv _ => cs.length - (intOf iv).toNat)
    case atStart => exact ⟨0, Nat.zero_le _, rfl, rfl, Below.refl _ _⟩
    case round =>
      obtain ⟨i, hi, rfl, hC, hbel⟩ := hrel
      by_cases hlt : i < cs.length
      · obtain ⟨b, off, rfl, hbl, hEE⟩ := HE.out (by omega)
        obtain ⟨g0, g1, g2, g3, g4, g5⟩ := (hEE i hlt).below hbel hbl
        have hlt' : (i : Int) < cs.length := by omega
        have hge' : (0 : Int) ≤ i := by omega
        have hbl2 : b < wr.heap.size := Nat.lt_of_lt_of_le hbl hbel.size
        have Hst : Hid (crsTo cs (i + 1) = crsErr (cs.getD i crs0)) := by show _ = _; rw [crsTo, if_pos hC.out]
        have Hbad : ∀ z, z ≠ 0 → crsErr (cs.getD i crs0) = z → towsErr cs = z := fun z hz h => by
          have h2 : crsTo cs cs.length = z := by rw [← h, ← Hst.out]; exact crsTo_stay cs (i + 1) cs.length (by rw [Hst.out, h]; exact hz) hlt
          unfold towsErr
          rw [if_neg Hc1.out, h2, if_pos hz]
        have Hb1 : Hid (crsErr (cs.getD i crs0) = 1 → towsErr cs = 1) := Hbad 1 (by omega)
        have Hb7 : Hid (crsErr (cs.getD i crs0) = 7 → towsErr cs = 7) := Hbad 7 (by omega)
        clear Hbad hEE
        generalize cs.getD i crs0 = c at *
        have m0 := blk_new wr #[.int .i64 c.first, .int .i64 c.tows, .int .i64 c.width, .int .i64 c.gap, .int .i64 c.from_, .int .i64 c.to_] 149
        have hal := (Below.refl wr.heap.size wr).alloc (Nat.le_refl _) (.cells #[.int .i64 c.first, .int .i64 c.tows, .int .i64 c.width, .int .i64 c.gap, .int .i64 c.from_, .int .i64 c.to_] 149)
        have hxi := ext_trans hbel hal
        clear hal
        by_cases h0 : 1 ≤ c.tows
        · have s0 : decide (c.tows < 1) = false := decide_eq_false (by omega)
          by_cases h1 : c.tows ≤ 24
          · have s1 : decide (c.tows > 24) = false := decide_eq_false (by omega)
            by_cases h2 : 1 ≤ c.width
            · have s2 : decide (c.width < 1) = false := decide_eq_false (by omega)
              by_cases h3 : c.width ≤ 1000000
              · have s3 : decide (c.width > 1000000) = false := decide_eq_false (by omega)
                go_wp2_with fail
                refine (rwithin_any c.gap 1000000 _ (by omega)).mono ?_
                rintro e w0 ⟨rfl, hb0⟩
                have m1 := blk_keep m0 hb0 (blk_lt m0)
                have hx0 := ext_trans hxi hb0
                have c1 := blk_cell m1 0 (.int .i64 c.first) rfl
                clear m0 hb0
                have HQ0 : Hid (inB c.gap (-1000000) 1000000 = inB c.gap (-1000000) 1000000) := rfl
                generalize hq0 : inB c.gap (-1000000) 1000000 = q0 at *
                cases q0 with
                | false =>
                  have Hr : Hid (towsErr cs = 1) := Hb1.out (crsErr_arg (.inr (.inr (.inr (.inr (.inl hq0))))))
                  clear hq0
                  go_wp2_with fail
                  go_ret2
                  exact ⟨.slice none 0 0, by rw [Hr.out]; rfl, by rw [towsVal_err (by rw [Hr.out]; omega)]; exact BxsOf.nil _, hx0⟩
                | true =>
                  replace HQ0 : Hid (inB c.gap (-1000000) 1000000 = true) := hq0
                  clear hq0
                  go_wp2_with fail
                  refine (rwithin_any c.first 4398046511104 _ (by omega)).mono ?_
                  rintro e w1 ⟨rfl, hb1⟩
                  have m2 := blk_keep m1 hb1 (blk_lt m1)
                  have hx1 := ext_trans hx0 hb1
                  have c2 := blk_cell m2 4 (.int .i64 c.from_) rfl
                  clear m1 hb1
                  have HQ1 : Hid (inB c.first (-4398046511104) 4398046511104 = inB c.first (-4398046511104) 4398046511104) := rfl
                  generalize hq1 : inB c.first (-4398046511104) 4398046511104 = q1 at *
                  cases q1 with
                  | false =>
                    have Hr : Hid (towsErr cs = 1) := Hb1.out (crsErr_arg (.inr (.inr (.inr (.inr (.inr (.inl hq1)))))))
                    clear hq1
                    go_wp2_with fail
                    go_ret2
                    exact ⟨.slice none 0 0, by rw [Hr.out]; rfl, by rw [towsVal_err (by rw [Hr.out]; omega)]; exact BxsOf.nil _, hx1⟩
                  | true =>
                    replace HQ1 : Hid (inB c.first (-4398046511104) 4398046511104 = true) := hq1
                    clear hq1
                    go_wp2_with fail
                    refine (rwithin_any c.from_ 4398046511104 _ (by omega)).mono ?_
                    rintro e w2 ⟨rfl, hb2⟩
                    have m3 := blk_keep m2 hb2 (blk_lt m2)
                    have hx2 := ext_trans hx1 hb2
                    have c3 := blk_cell m3 5 (.int .i64 c.to_) rfl
                    clear m2 hb2
                    have HQ2 : Hid (inB c.from_ (-4398046511104) 4398046511104 = inB c.from_ (-4398046511104) 4398046511104) := rfl
                    generalize hq2 : inB c.from_ (-4398046511104) 4398046511104 = q2 at *
                    cases q2 with
                    | false =>
                      have Hr : Hid (towsErr cs = 1) := Hb1.out (crsErr_arg (.inr (.inr (.inr (.inr (.inr (.inr (.inl hq2))))))))
                      clear hq2
                      go_wp2_with fail
                      go_ret2
                      exact ⟨.slice none 0 0, by rw [Hr.out]; rfl, by rw [towsVal_err (by rw [Hr.out]; omega)]; exact BxsOf.nil _, hx2⟩
                    | true =>
                      replace HQ2 : Hid (inB c.from_ (-4398046511104) 4398046511104 = true) := hq2
                      clear hq2
                      go_wp2_with fail
                      refine (rwithin_any c.to_ 4398046511104 _ (by omega)).mono ?_
                      rintro e w3 ⟨rfl, hb3⟩
                      have m4 := blk_keep m3 hb3 (blk_lt m3)
                      have hx3 := ext_trans hx2 hb3
                      clear m3 hb3
                      have HQ3 : Hid (inB c.to_ (-4398046511104) 4398046511104 = inB c.to_ (-4398046511104) 4398046511104) := rfl
                      generalize hq3 : inB c.to_ (-4398046511104) 4398046511104 = q3 at *
                      cases q3 with
                      | false =>
                        have Hr : Hid (towsErr cs = 1) := Hb1.out (crsErr_arg (.inr (.inr (.inr (.inr (.inr (.inr (.inr hq3))))))))
                        clear hq3
                        go_wp2_with fail
                        go_ret2
                        exact ⟨.slice none 0 0, by rw [Hr.out]; rfl, by rw [towsVal_err (by rw [Hr.out]; omega)]; exact BxsOf.nil _, hx3⟩
                      | true =>
                        replace HQ3 : Hid (inB c.to_ (-4398046511104) 4398046511104 = true) := hq3
                        clear hq3
                        have hre := crsErr_rest h0 h1 h2 h3 HQ0.out HQ1.out HQ2.out HQ3.out
                        have hwg : IntKind.i64.wrap (c.width + c.gap) = c.width + c.gap := by have := (inB_iff _ _ _).1 HQ0.out; exact IntWalk.i64_in _ (by omega)
                        have d2 := blk_cell m4 2 (.int .i64 c.width) rfl
                        have d3 := blk_cell m4 3 (.int .i64 c.gap) rfl
                        have d4 := blk_cell m4 4 (.int .i64 c.from_) rfl
                        have d5 := blk_cell m4 5 (.int .i64 c.to_) rfl
                        by_cases u0 : c.from_ ≥ c.to_
                        · have t6 : decide (c.from_ ≥ c.to_) = true := decide_eq_true u0
                          have Hr : Hid (towsErr cs = 7) := Hb7.out (by rw [hre, t6]; rfl)
                          clear hre u0
                          go_wp2_with fail
                          go_ret2
                          exact ⟨.slice none 0 0, by rw [Hr.out]; rfl, by rw [towsVal_err (by rw [Hr.out]; omega)]; exact BxsOf.nil _, hx3⟩
                        · have t6 : decide (c.from_ ≥ c.to_) = false := decide_eq_false u0
                          by_cases u1 : c.width + c.gap ≤ 0
                          · have t7 : decide (c.width + c.gap ≤ 0) = true := decide_eq_true u1
                            have Hr : Hid (towsErr cs = 7) := Hb7.out (by rw [hre, t6, t7]; rfl)
                            clear hre u0 u1
                            go_wp2_with fail
                            go_ret2
                            exact ⟨.slice none 0 0, by rw [Hr.out]; rfl, by rw [towsVal_err (by rw [Hr.out]; omega)]; exact BxsOf.nil _, hx3⟩
                          · have t7 : decide (c.width + c.gap ≤ 0) = false := decide_eq_false u1
                            have Hc0 : Hid (crsTo cs (i + 1) = 0) := by show _ = _; rw [Hst.out, hre, t6, t7]; rfl
                            clear hre u0 u1
                            go_wp2_with fail
                            exact ⟨⟨i + 1, by omega, by go_num, Hc0.out, hx3⟩, meas_up hlt⟩
              · have s3 : decide (c.width > 1000000) = true := decide_eq_true (by omega)
                have Hr : Hid (towsErr cs = 1) := Hb1.out (crsErr_arg (.inr (.inr (.inr (.inl h3)))))
                go_wp2_with fail
                go_ret2
                exact ⟨.slice none 0 0, by rw [Hr.out]; rfl, by rw [towsVal_err (by rw [Hr.out]; omega)]; exact BxsOf.nil _, hxi⟩
            · have s2 : decide (c.width < 1) = true := decide_eq_true (by omega)
              have Hr : Hid (towsErr cs = 1) := Hb1.out (crsErr_arg (.inr (.inr (.inl h2))))
              go_wp2_with fail
              go_ret2
              exact ⟨.slice none 0 0, by rw [Hr.out]; rfl, by rw [towsVal_err (by rw [Hr.out]; omega)]; exact BxsOf.nil _, hxi⟩
          · have s1 : decide (c.tows > 24) = true := decide_eq_true (by omega)
            have Hr : Hid (towsErr cs = 1) := Hb1.out (crsErr_arg (.inr (.inl h1)))
            go_wp2_with fail
            go_ret2
            exact ⟨.slice none 0 0, by rw [Hr.out]; rfl, by rw [towsVal_err (by rw [Hr.out]; omega)]; exact BxsOf.nil _, hxi⟩
        · have s0 : decide (c.tows < 1) = true := decide_eq_true (by omega)
          have Hr : Hid (towsErr cs = 1) := Hb1.out (crsErr_arg (Or.inl h0))
          go_wp2_with fail
          go_ret2
          exact ⟨.slice none 0 0, by rw [Hr.out]; rfl, by rw [towsVal_err (by rw [Hr.out]; omega)]; exact BxsOf.nil _, hxi⟩
      · obtain rfl : i = cs.length := by omega
        obtain ⟨i0, hi0, hz0, hz1, hz2⟩ := info_parts info_box
        have hzd : ∀ u ∈ (Value.agg #[.int .i64 0, .int .i64 0, .int .i64 0, .int .i64 0]).cells.toList, noDig u := by
          intro u hu
          simp [Value.cells] at hu
          subst hu
          exact noDig_i64 _
        go_wp2_with fail
        go_loopw [6, 7] (fun ov iv wx => ∃ (i : Nat), i ≤ cs.length ∧ iv = .int .i64 i ∧ Hid (LRow wx w.heap.size 73 4 ov (bxsTo cs i).length (bxCells (bxsTo cs i))) ∧ Below w.heap.size w wx) (fun _ iv _ => cs.length - (intOf iv).toNat)
        case atStart => exact ⟨0, Nat.zero_le _, rfl, LRow.nil _ _ _ _, hbel⟩
        case round =>
          clear hbel
          obtain ⟨i, hi, rfl, hL, hbel⟩ := hrel
          by_cases hlt : i < cs.length
          · obtain ⟨b, off, rfl, hbl, hEE⟩ := HE.out (by omega)
            obtain ⟨g0, g1, g2, g3, g4, g5⟩ := hEE i hlt
            have hlt' : (i : Int) < cs.length := by omega
            have hge' : (0 : Int) ≤ i := by omega
            have hbl2 : b < wr.heap.size := Nat.lt_of_lt_of_le hbl hbel.size
            have Hbs : Hid (bxsTo cs (i + 1) = bxsTo cs i ++ bxsOf (cs.getD i crs0) (cs.getD i crs0).tows.toNat) := rfl
            have hcg := crs_good (crsTo_good cs cs.length hC.out i hlt)
            obtain ⟨⟨ht1, ht2⟩, hw, hgp, hf, _⟩ := hcg
            have c0 : wr.cell? ⟨b, off + i * 6, none⟩ = some (.int .i64 (cs.getD i crs0).first) := (hbel.cell (p := ⟨b, off + i * 6, none⟩) hbl).trans g0
            have Hbl : Hid ((bxsTo cs i).length ≤ 24 * i) := bxsTo_length cs i (by
              rcases Nat.eq_zero_or_pos i with h | h
              · rw [h]; rfl
              · by_cases h2 : crsTo cs i = 0
                · exact h2
                · exact absurd (crsTo_stay cs i cs.length h2 hi) (by rw [hC.out]; exact fun e => h2 e.symm))
            clear hEE
            generalize cs.getD i crs0 = c at *
            have G1 := Lib.hid g1
            have G2 := Lib.hid g2
            have G3 := Lib.hid g3
            have G4 := Lib.hid g4
            have G5 := Lib.hid g5
            clear g0 g1 g2 g3 g4 g5
            generalize wr = wo at *
            go_wp2_with fail
            go_loopw [6, 8, 9] (fun ov lv kv wx => ∃ (k : Nat) (y : Int), (k : Int) ≤ c.tows ∧ y = c.first + (k : Int) * (c.width + c.gap) ∧ lv = .int .i64 y ∧ kv = .int .i64 k ∧ Hid (LRow wx w.heap.size 73 4 ov (bxsTo cs i ++ bxsOf c k).length (bxCells (bxsTo cs i ++ bxsOf c k))) ∧ Below w.heap.size w wx) (fun _ _ kv _ => (c.tows - intOf kv).toNat)
            case atStart => exact ⟨0, _, by omega, by simp, rfl, rfl, by simp only [bxsOf, List.range_zero, List.map_nil, List.append_nil]; exact hL.out, hbel⟩
            case round =>
              clear hbel hL c0
              obtain ⟨k, y, hk, hy, rfl, rfl, hLk, hbx⟩ := hrel
              have hbl3 : b < wr.heap.size := Nat.lt_of_lt_of_le hbl hbx.size
              have p1 : wr.cell? ⟨b, off + i * 6 + 1, none⟩ = some (.int .i64 c.tows) := (hbx.cell (p := ⟨b, off + i * 6 + 1, none⟩) hbl).trans G1.out
              by_cases hlk : (k : Int) < c.tows
              · have tk : decide ((k : Int) < c.tows) = true := decide_eq_true hlk
                have p2 : wr.drew.cell? ⟨b, off + i * 6 + 2, none⟩ = some (.int .i64 c.width) := (hbx.cell (p := ⟨b, off + i * 6 + 2, none⟩) hbl).trans G2.out
                have p4 : wr.drew.cell? ⟨b, off + i * 6 + 4, none⟩ = some (.int .i64 c.from_) := (hbx.cell (p := ⟨b, off + i * 6 + 4, none⟩) hbl).trans G4.out
                have p5 : wr.drew.cell? ⟨b, off + i * 6 + 5, none⟩ = some (.int .i64 c.to_) := (hbx.cell (p := ⟨b, off + i * 6 + 5, none⟩) hbl).trans G5.out
                obtain ⟨S, hS⟩ : ∃ S, S = c.width + c.gap := ⟨_, rfl⟩
                have hS1 : -2000000 ≤ S ∧ S ≤ 2000000 := by omega
                rw [← hS] at hy
                have hp := mul_absI (show -24 ≤ (k : Int) ∧ (k : Int) ≤ 24 by omega) hS1
                have hbi : bxI c k = (c.from_, y, c.to_, y + c.width) := by rw [hy, hS]; rfl
                have hyn : y + c.width + c.gap = c.first + (((k + 1 : Nat)) : Int) * (c.width + c.gap) := by rw [hy, ← hS, Int.natCast_succ, Int.add_mul, Int.one_mul]; omega
                have HYN := Lib.hid hyn
                have hyr : -5000000000000 ≤ y ∧ y ≤ 5000000000000 := by omega
                have e4 : IntKind.i64.wrap (y + c.width) = y + c.width := IntWalk.i64_in _ (by omega)
                have e5 : IntKind.i64.wrap (y + c.width + c.gap) = y + c.width + c.gap := IntWalk.i64_in _ (by omega)
                have Hsn : Hid (bxsTo cs i ++ bxsOf c (k + 1) = (bxsTo cs i ++ bxsOf c k) ++ [(c.from_, y, c.to_, y + c.width)]) := by show _ = _; rw [bxsOf_succ, hbi, List.append_assoc]
                have hpl : (bxsTo cs i ++ bxsOf c k).length ≤ 1000 := by have := Hbl.out; rw [List.length_append]; simp only [bxsOf, List.length_map, List.length_range]; omega
                have hbw := hbx.size
                clear hbi hS hS1 hp hy hyn
                generalize bxsTo cs i ++ bxsOf c k = pre at *
                have HLd : Hid (LRow wr.drew w.heap.size 73 4 u6 pre.length (bxCells pre)) := hLk.out
                have hxd : Below w.heap.size w wr.drew := hbx.drew
                have hal := (Below.refl wr.heap.size wr).alloc (Nat.le_refl _) (.cells #[.int .i64 c.from_, .int .i64 y, .int .i64 c.to_, .int .i64 (y + c.width)] 73)
                have HLa : Hid (LRow (wr.alloc (.cells #[.int .i64 c.from_, .int .i64 y, .int .i64 c.to_, .int .i64 (y + c.width)] 73)).drew w.heap.size 73 4 u6 pre.length (bxCells pre)) := hLk.out.below hal.drew
                have hxa : Below w.heap.size w (wr.alloc (.cells #[.int .i64 c.from_, .int .i64 y, .int .i64 c.to_, .int .i64 (y + c.width)] 73)).drew := (hbx.alloc hbx.size _).drew
                have q2 : (wr.alloc (.cells #[.int .i64 c.from_, .int .i64 y, .int .i64 c.to_, .int .i64 (y + c.width)] 73)).drew.cell? ⟨b, off + i * 6 + 2, none⟩ = some (.int .i64 c.width) := (hal.cell (p := ⟨b, off + i * 6 + 2, none⟩) hbl3).trans p2
                have q4 : (wr.alloc (.cells #[.int .i64 c.from_, .int .i64 y, .int .i64 c.to_, .int .i64 (y + c.width)] 73)).drew.cell? ⟨b, off + i * 6 + 4, none⟩ = some (.int .i64 c.from_) := (hal.cell (p := ⟨b, off + i * 6 + 4, none⟩) hbl3).trans p4
                have q5 : (wr.alloc (.cells #[.int .i64 c.from_, .int .i64 y, .int .i64 c.to_, .int .i64 (y + c.width)] 73)).drew.cell? ⟨b, off + i * 6 + 5, none⟩ = some (.int .i64 c.to_) := (hal.cell (p := ⟨b, off + i * 6 + 5, none⟩) hbl3).trans p5
                clear hLk hbx hal
                go_wp2_with fail
                go_region_held3 (fun w' => Below w.heap.size w w' ∧ w'.cell? ⟨b, off + i * 6 + 4, none⟩ = some (.int .i64 c.from_) ∧ w'.cell? ⟨b, off + i * 6 + 5, none⟩ = some (.int .i64 c.to_) ∧ w'.cell? ⟨b, off + i * 6 + 2, none⟩ = some (.int .i64 c.width))
                  (first | exact ⟨hxd, p4, p5, p2⟩ | exact ⟨hxa, q4, q5, q2⟩ | assumption | (refine keepC3 (Nat.le_refl _) ((Below.refl _ _).alloc (Nat.le_refl _) _) ?_; assumption) | (refine keepC3g hgrA (ownBlock_low' HLa.out.1) hbl (by simp; omega) ?_; assumption))
                  (first
                    | (refine step_append_lrow _ rfl (.tmp 98) (.tmp 120) 65 rfl w.heap.size 73 i0 _ 4 32 Try.underlying65 hi0 hz0 hz1 hz2 rfl (by decide) hzd _ _ _ rfl HLa.out ⟨wr.heap.size, 0, none⟩ 1 1 [.int .i64 c.from_, .int .i64 y, .int .i64 c.to_, .int .i64 (y + c.width)] rfl rfl (cell_new4i _ _ _ _ _ _) (by simp [Value.oneCell']) (by intro u hu; simp at hu; rcases hu with rfl | rfl | rfl | rfl <;> exact noDig_i64 _) (by omega) (by unfold maxLen; omega) (by omega) (by simp; omega) ?_; intro gA capA w3 hL3 hgrA hatA))
                rename_i hS
                have hx4 := hS.1
                have r2 : w3.cell? ⟨b, off + i * 6 + 2, none⟩ = some (.int .i64 c.width) := (hx4.cell (p := ⟨b, off + i * 6 + 2, none⟩) hbl).trans G2.out
                have r3 : w3.cell? ⟨b, off + i * 6 + 3, none⟩ = some (.int .i64 c.gap) := (hx4.cell (p := ⟨b, off + i * 6 + 3, none⟩) hbl).trans G3.out
                have hbl4 : b < w3.heap.size := Nat.lt_of_lt_of_le hbl hx4.size
                have HL4 : Hid (LRow w3 w.heap.size 73 4 (.slice (some ⟨gA, 0, none⟩) (pre.length + 1) capA) (pre ++ [(c.from_, y, c.to_, y + c.width)]).length (bxCells (pre ++ [(c.from_, y, c.to_, y + c.width)]))) := by
                  show LRow _ _ _ _ _ _ _
                  rw [bxCells_append, List.length_append]
                  exact hL3
                clear hS hL3 hgrA hatA HLa HLd hxa hxd p1 p2 p4 p5 q2 q4 q5
                go_wp2_with fail
                go_region
                go_wp2_with fail
                exact ⟨⟨k + 1, _, by omega, HYN.out, rfl, by go_num, by rw [Hsn.out]; exact HL4.out, hx4.drew⟩, by simp [intOf]; omega⟩
              · have tk : decide ((k : Int) < c.tows) = false := decide_eq_false hlk
                have hkt : c.tows.toNat = k := by omega
                have Hfin : Hid (bxsTo cs (i + 1) = bxsTo cs i ++ bxsOf c k) := by show _ = _; rw [Hbs.out, hkt]
                clear hkt hlk hy
                go_wp2_with fail
                exact ⟨⟨i + 1, by omega, by go_num, by rw [Hfin.out]; exact hLk.out, hbx⟩, meas_up hlt⟩
          · obtain rfl : i = cs.length := by omega
            have hform : ∃ ao2 cap2, u6 = .slice ao2 (bxsTo cs cs.length).length cap2 := by
              rcases hL.out.1.2 with ⟨e, h0⟩ | ⟨g, cap, cur, e, _⟩
              · exact ⟨none, 0, by rw [e, h0]⟩
              · exact ⟨_, _, e⟩
            obtain ⟨ao2, cap2, rfl⟩ := hform
            have HB := Lib.hid (BxsOf.ofRow hL.out)
            have Hte : Hid (towsErr cs = if 24 < (bxsTo cs cs.length).length then 9 else 0) := by show _ = _; unfold towsErr; rw [if_neg Hc1.out, hC.out, if_neg (by simp)]
            have Htv : Hid (towsVal cs = if towsErr cs = 0 then bxsTo cs cs.length else []) := rfl
            by_cases c2 : 24 < (bxsTo cs cs.length).length
            · have t2 : decide (((bxsTo cs cs.length).length : Int) > 24) = true := by simp; omega
              have Hr : Hid (towsErr cs = 9) := by show _ = _; rw [Hte.out, if_pos c2]
              clear c2 hL
              generalize bxsTo cs cs.length = bl at *
              go_wp2_with fail
              go_ret2
              exact ⟨.slice none 0 0, by rw [Hr.out]; rfl, by rw [towsVal_err (by rw [Hr.out]; omega)]; exact BxsOf.nil _, hbel⟩
            · have t2 : decide (((bxsTo cs cs.length).length : Int) > 24) = false := by simp; omega
              have Hr : Hid (towsErr cs = 0) := by show _ = _; rw [Hte.out, if_neg c2]
              have Hv : Hid (towsVal cs = bxsTo cs cs.length) := by show _ = _; rw [Htv.out, if_pos Hr.out]
              clear c2 hL
              generalize bxsTo cs cs.length = bl at *
              go_wp2_with fail
              go_ret2
              exact ⟨.slice ao2 bl.length cap2, by rw [Hr.out]; rfl, by rw [Hv.out]; exact HB.out, hbel⟩

theorem box_fields : (Try.prog.fieldsOf 73).toList = [{ name := "Lo", type := 55, offset := 0, embedded := false, tag := "", pkgPath := "", byteOffset := 0 }, { name := "Hi", type := 55, offset := 2, embedded := false, tag := "", pkgPath := "", byteOffset := 16 }] := by kernel_rfl
theorem eqInt8 (x y : Int) (w : World) : (Op.equalIn 9998 3 (.int .i64 x) (.int .i64 y)).run Try.prog w = .ok (x == y) w := by rw [run_equalIn_int w 9997 3 .i64 .i64 x y Try.underlying3]
set_option maxRecDepth 100000 in
theorem eqPt9 (a b : Int) (w : World) : (Op.equalIn 9999 55 (.agg #[.int .i64 a, .int .i64 b]) (.agg #[.int .i64 a, .int .i64 b])).run Try.prog w = .ok true w := by
  rw [run_equalIn_struct w 9998 55 _ _ (by kernel_rfl) (by kernel_rfl), pt_fields]
  have n0 : ("X" ≠ "_") := by decide
  have n1 : ("Y" ≠ "_") := by decide
  unfold Op.eqFields
  rw [if_pos n0]
  simp only [Sem.run_bind, (part2 _ _ _).1, eqInt8, Result.andThen_ok, Sem.run_ite, beq_self_eq_true]
  unfold Op.eqFields
  rw [if_pos n1]
  simp only [Sem.run_bind, (part2 _ _ _).2, eqInt8, Result.andThen_ok, Sem.run_ite, beq_self_eq_true]
  unfold Op.eqFields
  simp
theorem part4 (a b c d : Int) (w : World) : (part 55 #[Value.int .i64 a, .int .i64 b, .int .i64 c, .int .i64 d] 0).run Try.prog w = .ok (.agg #[.int .i64 a, .int .i64 b]) w ∧ (part 55 #[Value.int .i64 a, .int .i64 b, .int .i64 c, .int .i64 d] 2).run Try.prog w = .ok (.agg #[.int .i64 c, .int .i64 d]) w := ⟨by kernel_rfl, by kernel_rfl⟩
set_option maxRecDepth 100000 in
theorem neq_box (a b c d : Int) (w : World) : (binOp .neq 73 (.agg #[.int .i64 a, .int .i64 b, .int .i64 c, .int .i64 d]) (.agg #[.int .i64 a, .int .i64 b, .int .i64 c, .int .i64 d])).run Try.prog w = .ok (.bool false) w := by
  rw [run_neq_struct, run_equalIn_struct w 9999 73 _ _ (by kernel_rfl) (by kernel_rfl), box_fields]
  have n0 : ("Lo" ≠ "_") := by decide
  have n1 : ("Hi" ≠ "_") := by decide
  unfold Op.eqFields
  rw [if_pos n0]
  simp only [Sem.run_bind, (part4 _ _ _ _ _).1, eqPt9, Result.andThen_ok, Sem.run_ite]
  unfold Op.eqFields
  rw [if_pos n1]
  simp only [Sem.run_bind, (part4 _ _ _ _ _).2, eqPt9, Result.andThen_ok, Sem.run_ite]
  unfold Op.eqFields
  simp

set_option maxRecDepth 100000 in
set_option maxHeartbeats 4000000 in
theorem equalBx_same (l : List Bx) (v1 v2 : Value) (w : World) (h1 : BxsOf w v1 l) (h2 : BxsOf w v2 l) (hl : l.length ≤ 1000000) : Calls Try.prog 28 #[v1, v2] w (RetBool true w) := by
  obtain ⟨ao, cap, rfl, hA⟩ := h1
  obtain ⟨bo, bap, rfl, hB⟩ := h2
  have HA := Lib.hid hA
  have HB := Lib.hid hB
  have tne : (((l.length : Int)) != ((l.length : Int))) = false := by simp
  clear hA hB
  go_enter Try.func28, Try.ntmps28
  go_wp2_with fail
  go_loopw [13] (fun iv wr => ∃ (i : Nat), i ≤ l.length ∧ iv = .int .i64 i ∧ Below w.heap.size w wr) (fun iv _ => l.length - (intOf iv).toNat)
  case atStart => exact ⟨0, Nat.zero_le _, rfl, Below.refl _ _⟩
  case round =>
    obtain ⟨i, hi, rfl, hbel⟩ := hrel
    by_cases hlt : i < l.length
    · obtain ⟨b, off, rfl, hbl, hLL⟩ := HA.out (by omega)
      obtain ⟨b2, off2, rfl, hbl2, hMM⟩ := HB.out (by omega)
      obtain ⟨g0, g1, g2, g3⟩ := (hLL i hlt).below hbel hbl
      obtain ⟨k0, k1, k2, k3⟩ := (hMM i hlt).below hbel hbl2
      have hlt' : (i : Int) < l.length := by omega
      have hge' : (0 : Int) ≤ i := by omega
      have hq := neq_box (l.getD i (0, 0, 0, 0)).1 (l.getD i (0, 0, 0, 0)).2.1 (l.getD i (0, 0, 0, 0)).2.2.1 (l.getD i (0, 0, 0, 0)).2.2.2
      clear hLL hMM
      generalize (l.getD i (0, 0, 0, 0)).1 = x0 at *
      generalize (l.getD i (0, 0, 0, 0)).2.1 = x1 at *
      generalize (l.getD i (0, 0, 0, 0)).2.2.1 = x2 at *
      generalize (l.getD i (0, 0, 0, 0)).2.2.2 = x3 at *
      go_wp2_with fail
      go_region
      go_wp2_with fail
      exact ⟨⟨i + 1, by omega, by go_num, hbel.drew⟩, meas_up hlt⟩
    · obtain rfl : i = l.length := by omega
      go_wp2_with fail
      go_ret
      exact ⟨rfl, hbel⟩

theorem towsVal_length (cs : List Crs) : (towsVal cs).length ≤ 24 := by
  unfold towsVal
  split
  · rename_i h
    unfold towsErr at h
    split at h
    · cases h
    · split at h
      · rename_i h1; exact absurd h h1
      · split at h
        · cases h
        · omega
  · simp

set_option maxRecDepth 100000 in
set_option maxHeartbeats 4000000 in
theorem layupTows_any (cs : List Crs) (v : Value) (w : World) (h : CrsOf w v cs) : Calls Try.prog 5 #[v] w (RetBool true w) := by
  have H := Lib.hid h
  obtain ⟨ao, cap, rfl, _⟩ := h
  have HTL := Lib.hid (towsVal_length cs)
  by_cases c1 : 30 < cs.length
  · have t1 : decide ((cs.length : Int) > 30) = true := by simp; omega
    clear c1
    go_enter Try.func5, Try.ntmps5
    go_wp2_with fail
    refine (awake03_any _).mono ?_
    rintro e w1 ⟨rfl, hb1⟩
    go_wp2_with fail
    refine (awake03_any _).mono ?_
    rintro e w2 ⟨rfl, hb2⟩
    go_wp2_with fail
    go_ret
    exact ⟨rfl, ext_trans hb1 hb2⟩
  · have t1 : decide ((cs.length : Int) > 30) = false := by simp; omega
    have hl30 : cs.length ≤ 30 := by omega
    clear c1
    go_enter Try.func5, Try.ntmps5
    go_wp2_with fail
    refine (awake03_any _).mono ?_
    rintro e w1 ⟨rfl, hb1⟩
    have H1 := Lib.hid (H.out.below hb1)
    go_wp2_with fail
    refine (tows_any cs _ _ H1.out).mono ?_
    rintro e w2 ⟨vx, rfl, hvx, hb2⟩
    have H2 := Lib.hid (H1.out.below hb2)
    have hx2 := ext_trans hb1 hb2
    have HX := Lib.hid hvx
    obtain ⟨ax, capx, rfl, _⟩ := hvx
    clear hb1 hb2 H1
    go_wp2_with fail
    refine (courses_any cs _ _ H2.out (by omega)).mono ?_
    rintro e w3 ⟨vc, rfl, hvc, hb3⟩
    have HC := Lib.hid hvc
    obtain ⟨ac, capc, rfl, _⟩ := hvc
    have HX3 := Lib.hid (HX.out.below hb3)
    have hx3 := ext_trans hx2 hb3
    clear hb3 hx2 HX H2
    go_wp2_with fail
    refine (qtows_any cs _ _ HC.out).mono ?_
    rintro e w4 ⟨vy, rfl, hvy, hb4⟩
    have HY := Lib.hid hvy
    obtain ⟨ay, capy, rfl, _⟩ := hvy
    have HX4 := Lib.hid (HX3.out.below hb4)
    have hx4 := ext_trans hx3 hb4
    have te : (towsErr cs == towsErr cs) = true := by simp
    clear hb4 hx3 HX3 HC
    generalize towsErr cs = er at *
    go_wp2_with fail
    refine (equalBx_same (towsVal cs) _ _ _ HX4.out HY.out (by have := HTL.out; omega)).mono ?_
    rintro e w5 ⟨rfl, hb5⟩
    go_wp2_with fail
    go_ret
    exact ⟨rfl, ext_trans hx4 hb5⟩

end Go.Proofs.Ytkdcgkafjkklcaa
