/- Part h of the lemmas and walks. -/
import Derived.Test.YtmfochplnchgcaaShelf
import Derived.Lib.SlBytesRow
import Derived.Test.YtmfochplnchgcaaGa
import Derived.Test.YtmfochplnchgcaaGc
import Derived.Test.YtmfochplnchgcaaGd
import Derived.Test.YtmfochplnchgcaaGg

/- THE WALK of cure.Play. -/
namespace Go.Proofs.Ytmfochplnchgcaa
open Go.RowKit

/-- The slice v reads as the integers es. -/
def IntsOf (w : World) (v : Value) (es : List Int) : Prop :=
  ∃ ao cap, v = .slice ao es.length cap ∧ (0 < es.length → ∃ b off, ao = some ⟨b, off, none⟩ ∧ b < w.heap.size ∧ ∀ i, i < es.length → w.cell? ⟨b, off + i, none⟩ = some (.int .i64 (es.getD i 0)))
theorem IntsOf.below {w w' : World} {v : Value} {es : List Int} (h : IntsOf w v es) (hb : Below w.heap.size w w') : IntsOf w' v es := by
  obtain ⟨ao, cap, rfl, h⟩ := h
  refine ⟨ao, cap, rfl, fun hl => ?_⟩
  obtain ⟨b, off, rfl, hlt, h⟩ := h hl
  exact ⟨b, off, rfl, Nat.lt_of_lt_of_le hlt hb.size, fun i hi => (hb.cell (p := ⟨b, off + i, none⟩) hlt).trans (h i hi)⟩
def allEv (es : List Int) : Bool := es.all fun e => inR e 0 7
def playE (r : Ru) (es : List Int) : Rn × Nat × Int :=
  if rulesOk r then (if 256 < es.length then (rn0, 0, 4) else if allEv es then ((play r es).1, (play r es).2, 0) else (rn0, 0, 1)) else (rn0, 0, 1)
def RetPl (p : Rn × Nat × Int) (w : World) (e : Ending) (w' : World) : Prop := e = .returned (.tuple #[rnV p.1, .int .i64 p.2.1, .int .i64 p.2.2]) ∧ Below w.heap.size w w'
theorem allEv_no {es : List Int} {i : Nat} (hi : i < es.length) (h : inR (es.getD i 0) 0 7 = false) : allEv es = false := by
  unfold allEv
  rw [List.all_eq_false]
  refine ⟨es.getD i 0, ?_, by rw [h]; decide⟩
  rw [List.getD_eq_getElem?_getD, List.getElem?_eq_getElem hi]
  exact List.getElem_mem hi
theorem allEv_yes {es : List Int} (h : ∀ i, i < es.length → inR (es.getD i 0) 0 7 = true) : allEv es = true := by
  unfold allEv
  rw [List.all_eq_true]
  intro e he
  obtain ⟨i, hi, rfl⟩ := List.mem_iff_getElem.1 he
  have := h i hi
  rw [List.getD_eq_getElem?_getD, List.getElem?_eq_getElem hi] at this
  exact this
theorem allEv_mem {es : List Int} (h : allEv es = true) : ∀ e ∈ es, 0 ≤ e ∧ e ≤ 7 := fun e he => by
  have := List.all_eq_true.1 h e he
  unfold inR at this
  simpa using this
theorem play_le (r : Ru) (es : List Int) : ∀ s : Rn × Nat, (es.foldl (playStep r) s).2 ≤ s.2 + es.length := by
  induction es with
  | nil => intro s; simp
  | cons e es ih =>
    intro s
    refine Nat.le_trans (ih _) ?_
    have : (playStep r s e).2 ≤ s.2 + 1 := by
      unfold playStep
      split
      · exact Nat.le_refl _
      · omega
    simp
    omega
theorem boxesP4 (w : World) (r : Ru) (c d : Rn) (W : World) (hW : W = (((w.alloc (ruO r)).alloc (rnO c)).alloc (ruO r)).alloc (rnO d)) :
    Below w.heap.size w W ∧ W.heap[w.heap.size]? = some (ruO r) ∧ W.heap[w.heap.size + 1]? = some (rnO c) ∧ W.heap[w.heap.size + 1 + 1 + 1]? = some (rnO d) := by
  subst hW
  have e1 : (w.alloc (ruO r)).heap.size = w.heap.size + 1 := World.size_alloc ..
  have e2 : ((w.alloc (ruO r)).alloc (rnO c)).heap.size = w.heap.size + 1 + 1 := by rw [World.size_alloc, e1]
  have e3 : (((w.alloc (ruO r)).alloc (rnO c)).alloc (ruO r)).heap.size = w.heap.size + 1 + 1 + 1 := by rw [World.size_alloc, e2]
  have a1 := heap_alloc_new w (ruO r)
  have a2 := heap_alloc_new (w.alloc (ruO r)) (rnO c)
  rw [e1] at a2
  have a1' := (heap_alloc_old _ (rnO c) (blk_lt a1)).trans a1
  have a4 := heap_alloc_new (((w.alloc (ruO r)).alloc (rnO c)).alloc (ruO r)) (rnO d)
  rw [e3] at a4
  have b1 := (heap_alloc_old _ (ruO r) (blk_lt a1')).trans a1'
  have b2 := (heap_alloc_old _ (ruO r) (blk_lt a2)).trans a2
  exact ⟨ba (ba (below2 _ _ _)), (heap_alloc_old _ _ (blk_lt b1)).trans b1, (heap_alloc_old _ _ (blk_lt b2)).trans b2, a4⟩
set_option maxRecDepth 100000 in
set_option maxHeartbeats 1000000 in
theorem Play_bad (r : Ru) (ve : Value) (h : rulesOk r = false) (w : World) : Calls Try.prog 8 #[ruV r, ve] w (RetPl (rn0, 0, 1) w) := by
  have he : errRules r = 1 := by unfold errRules; rw [h]; rfl
  clear h
  go_enter Try.func8, Try.ntmps8
  go_wp2_with fail
  refine (checkRules_any r _).mono ?_
  rintro e w1 ⟨rfl, rfl⟩
  rw [he]
  go_wp2_with fail
  refine bodyPost_ret (v := .tuple #[rnV rn0, .int .i64 0, .int .i64 1]) (by simp [results, Try.results8, go_sem, rn0]) rfl ⟨rfl, ?_⟩
  exact ba (below2 _ _ _)
set_option maxRecDepth 100000 in
set_option maxHeartbeats 1000000 in
theorem Play_good (r : Ru) (es : List Int) (ve : Value) (h : rulesOk r = true) (w : World) (hv : IntsOf w ve es) :
    Calls Try.prog 8 #[ruV r, ve] w (RetPl (if 256 < es.length then (rn0, 0, 4) else if allEv es then ((play r es).1, (play r es).2, 0) else (rn0, 0, 1)) w) := by
  have he : errRules r = 0 := by unfold errRules; rw [h]; rfl
  have HG := Lib.hid (rulesOk_good h)
  clear h
  obtain ⟨q, hq⟩ : ∃ q, q = (if 256 < es.length then (rn0, 0, (4 : Int)) else if allEv es then ((play r es).1, (play r es).2, 0) else (rn0, 0, 1)) := ⟨_, rfl⟩
  rw [← hq]
  have HQ := Lib.hid hq
  clear hq
  obtain ⟨ao, cap, rfl, hE⟩ := hv
  have HE := Lib.hid hE
  clear hE
  by_cases h1 : 256 < es.length
  · have t1 : decide ((es.length : Int) > 256) = true := by simp; omega
    have HQ2 : Hid (q = (rn0, 0, 4)) := by show _ = _; rw [HQ.out, if_pos h1]
    clear h1 HQ
    go_enter Try.func8, Try.ntmps8
    go_wp2_with fail
    refine (checkRules_any r _).mono ?_
    rintro e w1 ⟨rfl, rfl⟩
    rw [he]
    go_wp2_with fail
    refine bodyPost_ret (v := .tuple #[rnV rn0, .int .i64 0, .int .i64 4]) (by simp [results, Try.results8, go_sem, rn0]) rfl ⟨by rw [HQ2.out]; rfl, ?_⟩
    exact ba (below2 _ _ _)
  · have t1 : decide ((es.length : Int) > 256) = false := by simp; omega
    have HQ2 : Hid (q = if allEv es then ((play r es).1, (play r es).2, 0) else (rn0, 0, 1)) := by show _ = _; rw [HQ.out, if_neg h1]
    have HL : Hid (es.length ≤ 256) := by show _ ≤ _; omega
    clear h1 HQ
    go_enter Try.func8, Try.ntmps8
    go_wp2_with fail
    refine (checkRules_any r _).mono ?_
    rintro e w1 ⟨rfl, rfl⟩
    rw [he]
    go_wp2_with fail
    generalize hW0 : ((w.alloc (.cells (ruA r) 25)).alloc (.cells (rnA ⟨0, 0, 0, 0, false, false, false, false⟩) 30)).alloc (.cells (ruA r) 25) = W at *
    have hbW : Below w.heap.size w W := by rw [← hW0]; exact ba (below2 _ _ _)
    obtain ⟨hbX, x1, x2, x4⟩ := boxesP4 w r ⟨0, 0, 0, 0, false, false, false, false⟩ ⟨0, 0, 0, 0, false, false, false, false⟩ _ rfl
    have hbX' : Below w.heap.size w (W.alloc (rnO ⟨0, 0, 0, 0, false, false, false, false⟩)) := by rw [← hW0]; exact hbX
    have x1' : (W.alloc (rnO ⟨0, 0, 0, 0, false, false, false, false⟩)).heap[w.heap.size]? = some (ruO r) := by rw [← hW0]; exact x1
    have x2' : (W.alloc (rnO ⟨0, 0, 0, 0, false, false, false, false⟩)).heap[w.heap.size + 1]? = some (rnO ⟨0, 0, 0, 0, false, false, false, false⟩) := by rw [← hW0]; exact x2
    have x4' : (W.alloc (rnO ⟨0, 0, 0, 0, false, false, false, false⟩)).heap[W.heap.size]? = some (rnO ⟨0, 0, 0, 0, false, false, false, false⟩) := heap_alloc_new W _
    have hsz : W.heap.size = w.heap.size + 1 + 1 + 1 := by rw [← hW0, World.size_alloc, World.size_alloc, World.size_alloc]
    have HBW := Lib.hid hbW
    have HBX := Lib.hid hbX'
    have X1 := Lib.hid x1'
    have X2 := Lib.hid x2'
    have X4 := Lib.hid x4'
    have HSZ := Lib.hid hsz
    have HW0 := Lib.hid hW0
    have HEA : Hid (0 < es.length → ∃ b off, ao = some ⟨b, off, none⟩ ∧ b < w.heap.size ∧ ∀ w', Below w.heap.size w w' → ∀ i, i < es.length → w'.cell? ⟨b, off + i, none⟩ = some (.int .i64 (es.getD i 0))) := fun hl => by
      obtain ⟨b, off, h1, h2, h3⟩ := HE.out hl
      exact ⟨b, off, h1, h2, fun w' hb i hi => (hb.cell (p := ⟨b, off + i, none⟩) h2).trans (h3 i hi)⟩
    have X2W : Hid (W.heap[w.heap.size + 1]? = some (.cells (rnA ⟨0, 0, 0, 0, false, false, false, false⟩) 30 (0, 0))) := by
      have := heap_alloc_old W (rnO ⟨0, 0, 0, 0, false, false, false, false⟩) (show w.heap.size + 1 < W.heap.size by omega)
      exact this.symm.trans x2'
    have hlen := HL.out
    clear hbW hbX x1 x2 x4 hbX' x1' x2' x4' hsz hW0 HE he t1
    go_loopw [28] (fun iv wr => ∃ (i : Nat), i ≤ es.length ∧ iv = .int .i64 i ∧ W = wr ∧ Hid (∀ k, k < i → inR (es.getD k 0) 0 7 = true))
      (fun iv _ => es.length - (intOf iv).toNat)
    case atStart => exact ⟨0, by omega, rfl, rfl, fun k hk => absurd hk (by omega)⟩
    case round =>
      obtain ⟨i, hi, rfl, rfl, HK⟩ := hrel
      by_cases hlt : i < es.length
      · obtain ⟨b, off, rfl, hbl, hc⟩ := HEA.out (by omega)
        have g0 := hc W HBW.out i hlt
        have hlt' : (i : Int) < es.length := by omega
        have hge' : (0 : Int) ≤ i := by omega
        have HLT := Lib.hid hlt
        have HNO : Hid (inR (es.getD i 0) 0 7 = false → allEv es = false) := fun h => allEv_no HLT.out h
        have HYE : Hid (inR (es.getD i 0) 0 7 = true → ∀ k, k < i + 1 → inR (es.getD k 0) 0 7 = true) := fun h k hk => by
          rcases Nat.lt_or_ge k i with h' | h'
          · exact HK.out k h'
          · rw [show k = i from by omega]
            exact h
        clear hlt hc
        generalize hev : es.getD i 0 = ev at *
        clear hev
        go_wp2_with fail
        refine (in_any _ _ _ _).mono ?_
        rintro e w1 ⟨rfl, rfl⟩
        cases hin : inR ev 0 7 with
        | true =>
          have HY := Lib.hid (HYE.out hin)
          clear hin HYE HNO
          go_wp2_with fail
          exact ⟨⟨i + 1, by have := HLT.out; omega, by go_num, by first | rfl | trivial, HY⟩, meas_up HLT.out⟩
        | false =>
          have HN := Lib.hid (HNO.out hin)
          have HQ3 : Hid (q = (rn0, 0, 1)) := by show _ = _; rw [HQ2.out, HN.out]; rfl
          clear hin HYE HNO HQ2
          obtain ⟨f0, f1, f2, f3, f4, f5, f6, f7⟩ := rnf (x := ⟨0, 0, 0, 0, false, false, false, false⟩) X2W.out
          obtain ⟨g0, g1, g2, g3, g4, g5, g6, g7⟩ := rn8 (x := ⟨0, 0, 0, 0, false, false, false, false⟩) X2W.out
          go_wp2_with fail
          obtain ⟨h0, h1, h2, h3, h4, h5, h6, h7⟩ := rn8 (x := rn0) (set8 (u0 := .int .i64 0) (u1 := .int .i64 0) (u2 := .int .i64 0) (u3 := .int .i64 0) (u4 := .bool false) (u5 := .bool false) (u6 := .bool false) (u7 := .bool false) X2W.out)
          refine bodyPost_ret (v := .tuple #[rnV rn0, .int .i64 0, .int .i64 1]) (by simp [results, Try.results8, go_sem, h0, h1, h2, h3, h4, h5, h6, h7]) rfl ⟨?_, below_set8 HBW.out (by omega)⟩
          rw [HQ3.out]
          rfl
      · obtain rfl : i = es.length := by omega
        have HA : Hid (allEv es = true) := allEv_yes HK.out
        have HQ3 : Hid (q = ((play r es).1, (play r es).2, 0)) := by show _ = _; rw [HQ2.out, HA.out]; rfl
        clear HQ2 HK hlt
        go_wp2_with fail
        go_loopw [11, 39] (fun nv iv wr => ∃ (i : Nat), i ≤ es.length ∧ iv = .int .i64 i ∧ nv = .int .i64 (play r (es.take i)).2 ∧ Hid (wr.heap[w.heap.size]? = some (ruO r)) ∧ Hid (wr.heap[w.heap.size + 1]? = some (rnO ⟨0, 0, 0, 0, false, false, false, false⟩)) ∧ Hid (wr.heap[W.heap.size]? = some (rnO (play r (es.take i)).1)) ∧ Hid (Below w.heap.size w wr))
          (fun _ iv _ => es.length - (intOf iv).toNat)
        case atStart => exact ⟨0, by omega, rfl, rfl, X1, X2, X4, HBX⟩
        case round =>
          obtain ⟨i, hi, rfl, rfl, K1, K2, K4, KB⟩ := hrel
          by_cases hlt : i < es.length
          · obtain ⟨b, off, rfl, hbl, hc⟩ := HEA.out (by omega)
            have g0 := hc _ KB.out i hlt
            have hlt' : (i : Int) < es.length := by omega
            have hge' : (0 : Int) ≤ i := by omega
            have HLT := Lib.hid hlt
            have HR : Hid (Right r (play r (es.take i)).1) := play_right HG.out _ (fun e he => (allEv_mem HA.out e (List.mem_of_mem_take he)).2)
            have HEV : Hid (0 ≤ es.getD i 0 ∧ es.getD i 0 ≤ 7) := allEv_mem HA.out _ (by rw [List.getD_eq_getElem?_getD, List.getElem?_eq_getElem hlt]; exact List.getElem_mem hlt)
            have HS : Hid (play r (es.take (i + 1)) = playStep r (play r (es.take i)) (es.getD i 0)) := play_take hlt
            have hn : (play r (es.take i)).2 ≤ es.length := by
              have := play_le r (es.take i) (rn0, 0)
              simp at this
              show (List.foldl (playStep r) (rn0, 0) (List.take i es)).snd ≤ _
              omega
            clear hlt hc
            generalize play r (es.take i) = s at *
            generalize es.getD i 0 = ev at *
            obtain ⟨y, n⟩ := s
            have hn' : n ≤ es.length := hn
            clear hn
            obtain ⟨m0, m1, m2, m3, m4, m5, m6, m7, m8, m9, m10, m11, m12⟩ := ru13 K1.out
            obtain ⟨k0, k1, k2, k3, k4, k5, k6, k7⟩ := rn8 K4.out
            go_wp2_with fail
            refine (next_any r y ev HG.out HR.out HEV.out _).mono ?_
            rintro e w1 ⟨rfl, hb⟩
            have E1 := Lib.hid (blk_keep K1.out hb (blk_lt K1.out))
            have E2 := Lib.hid (blk_keep K2.out hb (blk_lt K2.out))
            have E4 := Lib.hid (blk_keep K4.out hb (blk_lt K4.out))
            have EB := Lib.hid (KB.out.trans (hb.mono KB.out.size))
            clear m0 m1 m2 m3 m4 m5 m6 m7 m8 m9 m10 m11 m12 k0 k1 k2 k3 k4 k5 k6 k7 hb g0
            cases hx : next r y ev with
            | none =>
              have HS2 : Hid (play r (es.take (i + 1)) = (y, n)) := by
                show _ = _
                rw [HS.out]
                unfold playStep
                rw [show (y, n).1 = y from rfl, hx]
              clear hx HS
              go_wp2_with fail
              exact ⟨⟨i + 1, by have := HLT.out; omega, by go_num, by rw [HS2.out], (heap_alloc_old _ _ (blk_lt E1.out)).trans E1.out, (heap_alloc_old _ _ (blk_lt E2.out)).trans E2.out, by rw [HS2.out]; exact (heap_alloc_old _ _ (blk_lt E4.out)).trans E4.out, ba EB.out⟩, meas_up HLT.out⟩
            | some z =>
              have HS2 : Hid (play r (es.take (i + 1)) = (z, n + 1)) := by
                show _ = _
                rw [HS.out]
                unfold playStep
                rw [show (y, n).1 = y from rfl, hx]
              clear hx HS
              have L4 := Lib.hid ((heap_alloc_old _ (rnO z) (blk_lt E4.out)).trans E4.out)
              have L2 := Lib.hid ((heap_alloc_old _ (rnO z) (blk_lt E2.out)).trans E2.out)
              have L1 := Lib.hid ((heap_alloc_old _ (rnO z) (blk_lt E1.out)).trans E1.out)
              obtain ⟨f0, f1, f2, f3, f4, f5, f6, f7⟩ := rnf L4.out
              obtain ⟨g0, g1, g2, g3, g4, g5, g6, g7⟩ := rn8 L4.out
              go_wp2_with fail
              refine ⟨⟨i + 1, by have := HLT.out; omega, by go_num, ?_, oth8 L1.out (by have := HSZ.out; omega), oth8 L2.out (by have := HSZ.out; omega), (by rw [HS2.out]; exact set8 L4.out), below_set8 (ba EB.out) (by have := HSZ.out; omega)⟩, meas_up HLT.out⟩
              rw [HS2.out]
              go_num
          · obtain rfl : i = es.length := by omega
            rw [List.take_length] at *
            generalize play r es = s at *
            obtain ⟨y, n⟩ := s
            have HQ4 : Hid (q = (y, n, 0)) := HQ3.out
            clear HQ3
            obtain ⟨k0, k1, k2, k3, k4, k5, k6, k7⟩ := rn8 K4.out
            obtain ⟨f0, f1, f2, f3, f4, f5, f6, f7⟩ := rnf (x := ⟨0, 0, 0, 0, false, false, false, false⟩) K2.out
            obtain ⟨g0, g1, g2, g3, g4, g5, g6, g7⟩ := rn8 (x := ⟨0, 0, 0, 0, false, false, false, false⟩) K2.out
            go_wp2_with fail
            obtain ⟨h0, h1, h2, h3, h4, h5, h6, h7⟩ := rn8 (x := y) (set8 (u0 := .int .i64 y.ph) (u1 := .int .i64 y.be) (u2 := .int .i64 y.mi) (u3 := .int .i64 y.wa) (u4 := .bool y.l0) (u5 := .bool y.l1) (u6 := .bool y.l2) (u7 := .bool y.te) K2.out)
            refine bodyPost_ret (v := .tuple #[rnV y, .int .i64 n, .int .i64 0]) (by simp [results, Try.results8, go_sem, h0, h1, h2, h3, h4, h5, h6, h7]) rfl ⟨?_, below_set8 KB.out (by omega)⟩
            rw [HQ4.out]
theorem Play_any (r : Ru) (es : List Int) (ve : Value) (w : World) (hv : IntsOf w ve es) : Calls Try.prog 8 #[ruV r, ve] w (RetPl (playE r es) w) := by
  unfold playE
  cases h : rulesOk r with
  | false => exact Play_bad r ve h w
  | true => exact Play_good r es ve h w hv
end Go.Proofs.Ytmfochplnchgcaa

/- THE WALKS OF ratio's decimal, text, Text. -/
namespace Go.Proofs.Ytmfochplnchgcaa
open Go.RowKit Go.Shelf

/-- Bytes as a string. -/
def strB (l : List UInt8) : ByteArray := ⟨l.toArray⟩
theorem strB_size (l : List UInt8) : (strB l).size = l.length := rfl
theorem strB_append (a b : List UInt8) : strB a ++ strB b = strB (a ++ b) := by
  apply ByteArray.ext
  simp [strB, ByteArray.data_append]
def RetStr (l : List UInt8) (w : World) (e : Ending) (w' : World) : Prop := e = .returned (.string (strB l)) ∧ Below w.heap.size w w'
theorem repeat_zero (c : Nat) : Lib.repeatL [48] c = List.replicate c 48 := by
  induction c with
  | zero => rfl
  | succ c ih => rw [Lib.repeatL, ih]; rfl

/-- The last m of twenty bytes are the last m digits of n. -/
def DecRow (w : World) (B n m : Nat) : Prop := ∃ cs : List Value, cs.length = 20 ∧ w.heap[B]? = some (.cells cs.toArray 132 (0, 0)) ∧ cs.drop (20 - m) = (decP n m).map fun c => Value.int .u8 c.toNat
theorem DecRow.bytes {w : World} {B n m : Nat} (h : DecRow w B n m) (hm : m ≤ 20) (hl : (decP n m).length = m) : Lib.Bytes w B (20 - m) (strB (decP n m)) := by
  obtain ⟨cs, hc, hh, hd⟩ := h
  intro i hi
  rw [strB_size] at hi
  rw [cell_of_row w B _ _ _ (0, 0) hh]
  have e : cs[20 - m + i]? = ((decP n m).map fun c => Value.int .u8 c.toNat)[i]? := by rw [← hd, List.getElem?_drop]
  simp only [List.getElem?_toArray]
  rw [e, List.getElem?_map, List.getElem?_eq_getElem hi]
  rfl
theorem DecRow.step {w : World} {B n m k : Nat} (h : DecRow w B n m) (hk : k + 1 + m = 20) (h0 : n / 10 ^ m ≠ 0) (v : Value) (hv : v = .int .u8 (chD (n / 10 ^ m % 10)).toNat) : DecRow (w.setCell ⟨B, k, none⟩ v) B n (m + 1) := by
  obtain ⟨cs, hc, hh, hd⟩ := h
  refine ⟨cs.set k v, by simp [hc], ?_, ?_⟩
  · rw [heap_setCell_same w B k _ _ _ hh]
    simp
  · rw [decP_step n m h0, List.map_cons, ← hd, hv]
    rw [show 20 - (m + 1) = k by omega, show 20 - m = k + 1 by omega]
    rw [List.drop_eq_getElem_cons (by simp [hc]; omega)]
    simp [List.drop_set]
theorem DecRow.cell {w : World} {B n m : Nat} (h : DecRow w B n m) (k : Nat) (hk : k < 20) : ∃ v, w.cell? ⟨B, k, none⟩ = some v ∧ w.frozen? ⟨B, k, none⟩ = false := by
  obtain ⟨cs, hc, hh, hd⟩ := h
  refine ⟨cs[k], ?_, frozen_of_row w B k _ _ hh⟩
  rw [cell_of_row w B k _ _ (0, 0) hh]
  simp [hc, hk]

theorem arr20 : Try.prog.arrayLen 132 = 20 := by kernel_rfl
theorem und20 : Try.prog.underlying 132 = some (.array (Try.prog.arrayLen 132) (Try.prog.elem 132)) := by kernel_rfl
theorem size20 (w : World) : (sizeOf (Try.prog.elem 132)).run Try.prog w = .ok 1 w := by kernel_rfl
theorem slice20 (B a : Nat) (ha : a < 20) (w : World) : (Instr.sliceAt 132 (.pointer (some ⟨B, 0, none⟩)) (some (.int .i64 (a : Int))) none none).run Try.prog w = .ok (.slice (some ⟨B, a, none⟩) (20 - a) (20 - a)) w := by
  rw [run_sliceAt_array_l w _ _ und20 .i64 a (by omega) (by rw [arr20]; omega), size20, arr20]
  have h : ¬ 20 = a := by omega
  have e : (⟨B, 0, none⟩ : Addr).add (a * 1) = ⟨B, a, none⟩ := by unfold Addr.add; split <;> simp_all
  simp only [Result.andThen_ok, slicedAt, Int.toNat_natCast, if_neg h, e]
theorem slice20_end (B : Nat) (w : World) : (Instr.sliceAt 132 (.pointer (some ⟨B, 0, none⟩)) (some (.int .i64 ((20 : Nat) : Int))) none none).run Try.prog w = .ok (.slice (some ⟨B, 0, none⟩) 0 0) w := by
  rw [run_sliceAt_array_l w _ _ und20 .i64 _ (by omega) (by rw [arr20]; omega), size20, arr20]
  simp [slicedAt]

set_option maxRecDepth 100000 in
set_option maxHeartbeats 4000000 in
theorem decimal_any (n : Nat) (w : World) (hn : n < b64) : Calls Try.prog 89 #[.int .u64 n] w (RetStr (decL n) w) := by
  have h20 : n / 10 ^ 20 = 0 := Nat.div_eq_of_lt (by unfold b64 at hn; omega)
  have H20 := Lib.hid h20
  have hN : DecRow (w.alloc (.cells #[.int .u8 0, .int .u8 0, .int .u8 0, .int .u8 0, .int .u8 0, .int .u8 0, .int .u8 0, .int .u8 0, .int .u8 0, .int .u8 0, .int .u8 0, .int .u8 0, .int .u8 0, .int .u8 0, .int .u8 0, .int .u8 0, .int .u8 0, .int .u8 0, .int .u8 0, .int .u8 0] 132)) w.heap.size n 0 :=
    ⟨List.replicate 20 (.int .u8 0), by simp, blk_new w _ _, by simp [decP]⟩
  have hal : Below w.heap.size w (w.alloc (.cells #[.int .u8 0, .int .u8 0, .int .u8 0, .int .u8 0, .int .u8 0, .int .u8 0, .int .u8 0, .int .u8 0, .int .u8 0, .int .u8 0, .int .u8 0, .int .u8 0, .int .u8 0, .int .u8 0, .int .u8 0, .int .u8 0, .int .u8 0, .int .u8 0, .int .u8 0, .int .u8 0] 132)) := (Below.refl _ _).alloc (Nat.le_refl _) _
  have HN := Lib.hid hN
  clear h20 hN
  go_enter Try.func89, Try.ntmps89
  go_wp2_with fail
  go_loopw [0, 4] (fun nv av wr => ∃ (m a : Nat), a + m = 20 ∧ nv = .int .u64 ((n / 10 ^ m : Nat) : Int) ∧ av = .int .i64 a ∧ (m = 0 ∨ n / 10 ^ (m - 1) ≠ 0) ∧ Hid (DecRow wr w.heap.size n m) ∧ Below w.heap.size w wr)
    (fun _ av _ => (intOf av).toNat)
  case atStart => exact ⟨0, 20, rfl, by simp, rfl, .inl rfl, HN.out, hal⟩
  case round =>
    clear hal HN
    obtain ⟨m, a, ha, rfl, rfl, hm, hD, hbel⟩ := hrel
    have HM := Lib.hid hm
    have HA := Lib.hid ha
    clear hm
    by_cases h0 : n / 10 ^ m = 0
    · have Hh := Lib.hid h0
      by_cases ha20 : a = 20
      · have h00 : n = 0 := by
          obtain rfl : m = 0 := by omega
          simpa using h0
        have hw := Lib.run_convert_whole (P := Try.prog) wr 49 5 9 Try.underlying49 Try.underlying5 Try.underlying9 w.heap.size 0 (strB []) (fun i hi => absurd hi (Nat.not_lt_zero i)) 0
        rw [strB_size, List.length_nil] at hw
        have hsl := slice20_end w.heap.size
        have Hn0 : Hid (decL n = []) := by show _ = _; rw [h00]; rfl
        rw [h0]
        subst ha20
        clear h0 h00 ha
        go_wp2_with fail
        go_ret
        exact ⟨by rw [Hn0.out]; rfl, hbel⟩
      · have hl := decP_length n m HM.out
        have hm2 : m = 20 - a := by omega
        have hw := Lib.run_convert_whole (P := Try.prog) wr 49 5 9 Try.underlying49 Try.underlying5 Try.underlying9 w.heap.size (20 - m) (strB (decP n m)) (hD.out.bytes (by omega) hl) (20 - a)
        rw [strB_size, hl, decP_all n m h0, show 20 - m = a by omega, hm2] at hw
        have hsl := slice20 w.heap.size a (by omega)
        rw [h0]
        clear h0 hl hm2
        go_wp2_with fail
        go_ret
        exact ⟨rfl, hbel⟩
    · have hq : ((n / 10 ^ m : Nat) : Int) > 0 := Int.natCast_pos.2 (Nat.pos_of_ne_zero h0)
      have t1 : decide (((n / 10 ^ m : Nat) : Int) > 0) = true := decide_eq_true hq
      have hm20 : m < 20 := by
        rcases Nat.lt_or_ge m 20 with h | h
        · exact h
        · obtain rfl : m = 20 := by omega
          exact absurd H20.out h0
      obtain ⟨k, rfl⟩ : ∃ k, a = k + 1 := ⟨a - 1, by omega⟩
      obtain ⟨v0, g0, f0⟩ := hD.out.cell k (by omega)
      have hst := fun v hv => hD.out.step (k := k) (by omega) h0 v hv
      have HST := Lib.hid hst
      have Hm1 : Hid (n / 10 ^ (m + 1 - 1) ≠ 0) := by show _ ≠ _; rw [Nat.add_sub_cancel]; exact h0
      have hdv : Hid (n / 10 ^ m / 10 = n / 10 ^ (m + 1)) := by show _ = _; rw [Nat.div_div_eq_div_mul, Nat.pow_succ]
      have hch : Hid (((chD (n / 10 ^ m % 10)).toNat : Int) = 48 + ((n / 10 ^ m % 10 : Nat) : Int)) := by show _ = _; rw [chD_toNat _ (Nat.mod_lt _ (by omega))]; omega
      have hqb : n / 10 ^ m < b64 := Nat.lt_of_le_of_lt (Nat.div_le_self _ _) hn
      have e1 : IntKind.i64.wrap (((k + 1 : Nat) : Int) - 1) = (k : Int) := by rw [show (((k + 1 : Nat) : Int) - 1) = (k : Int) by omega]; exact IntWalk.i64_in _ (by omega)
      have e2 : IntKind.i64.wrap ((k : Int) + 1 - 1) = (k : Int) := by rw [show ((k : Int) + 1 - 1) = (k : Int) by omega]; exact IntWalk.i64_in _ (by omega)
      have hk20 : (k : Int) < 20 := by omega
      have hk0 : (0 : Int) ≤ k := by omega
      clear hst h0 hD
      generalize n / 10 ^ m = q at *
      unfold b64 at hqb
      clear hn
      go_wp2_with fail
      refine ⟨⟨m + 1, k, by have := HA.out; omega, by rw [← hdv.out, Int.natCast_ediv]; rfl, rfl, .inr Hm1.out, HST.out _ (by rw [hch.out, Int.natCast_emod]; rfl), hbel.setCell (p := ⟨w.heap.size, k, none⟩) (Nat.le_refl _) _⟩, by simp [intOf]⟩

/-- The part number i of 19 digits. -/
def decC : Nat := 10000000000000000000
theorem decC_eq : decC = 10 ^ 19 := by unfold decC; omega
def partL (n i : Nat) : List UInt8 := if n / decC ^ i / decC = 0 then decL (n / decC ^ i) else decZ 19 (n / decC ^ i % decC)
theorem partL_step (n i : Nat) : decL (n / decC ^ (i + 1)) ++ partL n i = decL (n / decC ^ i) := by
  have e : n / decC ^ (i + 1) = n / decC ^ i / decC := by rw [Nat.div_div_eq_div_mul, Nat.pow_succ]
  rw [e]
  unfold partL
  by_cases h : n / decC ^ i / decC = 0
  · rw [if_pos h, h, decL_zero]; rfl
  · rw [if_neg h]
    rw [decC_eq] at *
    exact (decL_split 19 _ h).symm
def partCells (n k : Nat) : List Value := (List.range k).map fun i => Value.string (strB (partL n i))
theorem partCells_succ (n k : Nat) : partCells n (k + 1) = partCells n k ++ [Value.string (strB (partL n k))] := by
  simp [partCells, List.range_succ]

theorem digits_len (n : Nat) : (dig 10 n).length ≤ 20 * (dig b64 n).length := by
  refine dig_length_le ten_two _ _ (Nat.lt_of_lt_of_le (lt_pow_dig_length b64_two n) ?_)
  rw [Nat.pow_mul]
  exact Nat.pow_le_pow_left (by unfold b64; omega) _
theorem parts_len (n k : Nat) (h : n / decC ^ k ≠ 0) : 19 * k < 20 * (dig b64 n).length := by
  have h1 : n / 10 ^ (19 * k) ≠ 0 := by rw [Nat.pow_mul, ← decC_eq]; exact h
  have := (dig_length_gt ten_two (19 * k) n).2 h1
  have := digits_len n
  omega
theorem decC_pos : 0 < decC := by unfold decC; omega
theorem partL_len (n i : Nat) : (partL n i).length ≤ 19 + (dig 10 n).length := by
  unfold partL
  split
  · rw [decL_length]
    have : (dig 10 (n / decC ^ i)).length ≤ (dig 10 n).length := dig_length_mono ten_two (Nat.div_le_self _ _)
    omega
  · unfold decZ
    have h1 : (decL (n / decC ^ i % decC)).length ≤ 19 := by
      rw [decL_length]
      refine dig_length_le ten_two 19 _ ?_
      rw [← decC_eq]
      exact Nat.mod_lt _ decC_pos
    simp
    omega
/-- A row of strings: the parts so far. -/
theorem LRow.cellAt {w : World} {base : Nat} {e : TypeId} {g n cap : Nat} {xs : List Value} (h : LRow w base e 1 (.slice (some ⟨g, 0, none⟩) n cap) n xs) (j : Nat) (v : Value) (hj : xs[j]? = some v) : w.cell? ⟨g, j, none⟩ = some v := by
  have hc : ∀ j u, xs[j]? = some u → w.cell? ((⟨g, 0, none⟩ : Addr).add j) = some u := h.1.cells (g := g) rfl
  have := hc j v hj
  have e : (⟨g, 0, none⟩ : Addr).add j = ⟨g, j, none⟩ := by unfold Addr.add; split <;> simp_all
  rwa [e] at this
theorem noDig_string (s : ByteArray) : noDig (.string s) := fun _ => ⟨by simp, by simp⟩
theorem info_string : (Try.prog.info? 9).map (fun i => (i.zero, i.size, i.bytes)) = some (some (.string .empty), 1, 16) := by kernel_rfl
theorem cell_new1 (w : World) (a : Value) (t : TypeId) : ∀ j u, [a][j]? = some u → (w.alloc (.cells #[a] t)).cell? ((⟨w.heap.size, 0, none⟩ : Addr).add j) = some u := by
  intro j u hj
  match j, hj with
  | 0, hj => simp at hj; subst hj; simp [Addr.add]
  | j + 1, hj => simp at hj
theorem padZ (m : List UInt8) (c : Nat) (h : m.length + c = 19) : strB (Lib.repeatL [48] c) ++ strB m = strB (List.replicate (19 - m.length) 48 ++ m) := by
  rw [strB_append, repeat_zero, show 19 - m.length = c by omega]

/-- How long a slice is. -/
def sliceLen : Value → Nat | .slice _ n _ => n | _ => 0
theorem LRow.form {w : World} {base : Nat} {e : TypeId} {size : Nat} {v : Value} {n : Nat} {xs : List Value} (h : LRow w base e size v n xs) : ∃ ao cap, v = .slice ao n cap ∧ (0 < n → ∃ g, ao = some ⟨g, 0, none⟩ ∧ g < w.heap.size ∧ base ≤ g) := by
  rcases h.1.2 with ⟨rfl, h0⟩ | ⟨g, cap, cur, rfl, hb, hg, _⟩
  · exact ⟨none, 0, by rw [h0], fun h => absurd h (by omega)⟩
  · exact ⟨_, _, rfl, fun _ => ⟨g, rfl, (Array.getElem?_eq_some_iff.1 hg).1, hb⟩⟩
theorem bw_any (q : Nat) (v : Value) (W : World) (h : IsNat .u64 b64 W v q) (hl : (dig b64 q).length ≤ 1099511627776) : Calls Try.prog 75 #[v, .int .u64 10000000000000000000] W (RetNatWord (q / decC) (q % decC) W) := by
  have h2 := byWord_any q decC v W h hl decC_pos (by unfold decC b64; omega)
  have e : ((decC : Nat) : Int) = 10000000000000000000 := rfl
  rw [e] at h2
  exact h2
theorem rep_any (c : Nat) (W : World) (hc : c ≤ 19) : Calls Try.prog 90 #[.string { data := #[48] }, .int .i64 (c : Int)] W (fun e w' => e = .returned (.string (strB (List.replicate c 48))) ∧ Below W.heap.size W w') := by
  have h := Try.strings_Repeat { data := #[48] } c W (by omega) (by show 1 * c ≤ _; omega)
  rw [show Lib.repeatL (ByteArray.mk #[48]).data.toList c = List.replicate c 48 from repeat_zero c] at h
  exact h
theorem write_any (B b : Nat) (l m : List UInt8) (W : World) (h : Lib.IsBuilder 127 5 B b (Lib.byteCells l) W) (hl : l.length + m.length ≤ 140737488355328) (hB : B ≤ W.heap.size) :
    Calls Try.prog 91 #[.pointer (some ⟨b, 0, none⟩), .string (strB m)] W (fun e w' => e = .returned (.tuple #[.int .i64 ((strB m).size : Int), .nilIface]) ∧ Lib.IsBuilder 127 5 B b (Lib.byteCells (l ++ m)) w' ∧ Below B W w') := by
  refine (Any.Builder_WriteString { Try.lays105 with } Try.Builder_Extra_105 B b (Lib.byteCells l) (strB m) W h (by rw [Lib.byteCells_length, strB_size]; exact hl) hB).mono fun e w' he => ?_
  obtain ⟨he, h1, h2⟩ := he
  refine ⟨he, .inr ?_, h2⟩
  have e2 : Lib.byteCells (l ++ m) = Lib.byteCells l ++ Lib.strCells (strB m) := by simp [Lib.byteCells, Lib.strCells, strB]
  rw [e2]
  exact h1
theorem new_builder (w : World) : Lib.IsBuilder 127 5 w.heap.size w.heap.size (Lib.byteCells []) (w.alloc (.cells #[.pointer none, .slice none 0 0] 127)) :=
  .inl ⟨Nat.le_refl _, _, blk_new w _ _, World.ownsRow_nil _ _ _ _, by simp [Value.ownBlock]⟩

theorem own_base {w : World} {base : Nat} {e : TypeId} {size : Nat} {v : Value} {n : Nat} {xs : List Value} (h : w.ownsRow base e size v n xs) : ∀ k, v.ownBlock = some k → base ≤ k := by
  intro k hk
  rcases h.2 with ⟨rfl, _⟩ | ⟨g, cap, cur, rfl, hb, _⟩
  · simp [Value.ownBlock] at hk
  · simp [Value.ownBlock] at hk
    omega
theorem decT_pos (n : Nat) (h : n ≠ 0) : decT n = decL n := by unfold decT; rw [if_neg h]
set_option maxRecDepth 100000 in
set_option maxHeartbeats 8000000 in
theorem text_any (n : Nat) (v : Value) (w : World) (h : IsNat .u64 b64 w v n) (hsz : (dig b64 n).length ≤ 68719476736) : Calls Try.prog 79 #[v] w (RetStr (decT n) w) := by
  have H := Lib.hid h
  have hd := digits_len n
  have HD := Lib.hid hd
  have HSZ := Lib.hid hsz
  obtain ⟨iS, hiS, hzS, hsS, hyS⟩ := info_parts info_string
  have hzd : ∀ u ∈ (Value.string ByteArray.empty).cells.toList, noDig u := by
    intro u hu
    simp [Value.cells] at hu
    subst hu
    exact noDig_string _
  clear h hd hsz
  have HN1 : Hid (n / decC ^ 0 = n) := by show _ = _; rw [Nat.pow_zero, Nat.div_one]
  have hvs : ∃ ao cap, v = .slice ao (dig b64 n).length cap := by obtain ⟨ao, cap, e, _⟩ := IsRow.opened H.out; exact ⟨ao, cap, e⟩
  obtain ⟨ao0, cap0, rfl⟩ := hvs
  go_enter Try.func79, Try.ntmps79
  go_wp2_with fail
  go_loopw [0, 3] (fun av pv wr => ∃ (k : Nat), IsNat .u64 b64 wr av (n / decC ^ k) ∧ (k = 0 ∨ n / decC ^ (k - 1) ≠ 0) ∧ Hid (LRow wr w.heap.size 9 1 pv k (partCells n k)) ∧ Below w.heap.size w wr)
    (fun _ pv _ => 1374389534721 - sliceLen pv)
  case atStart => exact ⟨0, by rw [HN1.out]; exact H.out, .inl rfl, LRow.nil _ _ _ _, Below.refl _ _⟩
  case round =>
    clear H
    obtain ⟨k, hA, hk, hL, hbel⟩ := hrel
    have HK := Lib.hid hk
    obtain ⟨ao, cap, rfl, hg⟩ := hL.out.form
    have HA := Lib.hid hA
    obtain ⟨aa, ca, rfl, _⟩ := IsRow.opened hA
    clear hA hk
    by_cases h0 : n / decC ^ k = 0
    · have Hq0 := Lib.hid h0
      rw [h0, dig_zero, List.length_nil]
      clear h0 HA
      by_cases hk0 : k = 0
      · have Hn : Hid (decT n = [48]) := by
          show _ = _
          have : n = 0 := by have := Hq0.out; rw [hk0, HN1.out] at this; exact this
          rw [this]; rfl
        subst hk0
        go_wp2_with fail
        go_ret
        exact ⟨by rw [Hn.out]; rfl, hbel⟩
      · have hn0 : Hid (n ≠ 0) := by
          show n ≠ 0
          rintro rfl
          rcases HK.out with h | h
          · exact hk0 h
          · exact h (Nat.zero_div _)
        have Hkb : Hid (k ≤ 1374389534720) := by
          show _ ≤ _
          rcases HK.out with h | h
          · omega
          · have := parts_len n (k - 1) h; have := HSZ.out; omega
        have tk : ((k : Int) == 0) = false := beq_eq_false_iff_ne.2 (by omega)
        obtain ⟨g, rfl, hgl, hgb⟩ := hg (by omega)
        have hkb := Hkb.out
        have ek : IntKind.i64.wrap ((k : Int) - 1) = (k : Int) - 1 := IntWalk.i64_in _ (by omega)
        obtain ⟨kp, hkp⟩ : ∃ z : Int, z = (k : Int) - 1 := ⟨_, rfl⟩
        have HKP := Lib.hid hkp
        rw [← hkp] at ek
        have ek2 : IntKind.i64.wrap ((k : Int) - 1) = kp := by rw [hkp]; exact IntWalk.i64_in _ (by omega)
        have hnb := new_builder wr
        have hal := (Below.refl wr.heap.size wr).alloc (Nat.le_refl _) (.cells #[.pointer none, .slice none 0 0] 127)
        have HL1 := Lib.hid (hL.out.below hal)
        have hx1 := ext_trans hbel hal
        have hBs : wr.heap.size < (wr.alloc (.cells #[.pointer none, .slice none 0 0] 127)).heap.size := by simp
        have HNB := Lib.hid hnb
        have hwB := hbel.size
        clear ek hkp hkb hL hbel hnb
        go_wp2_with fail
        generalize wr.alloc (.cells #[.pointer none, .slice none 0 0] 127) = W1 at *
        generalize wr.heap.size = B at *
        go_loopw [8] (fun iv wx => ∃ (j : Nat) (z : Int), z = (j : Int) - 1 ∧ j ≤ k ∧ iv = .int .i64 z ∧ Hid (Lib.IsBuilder 127 5 B B (Lib.byteCells (decL (n / decC ^ j))) wx) ∧ Below B W1 wx) (fun iv _ => (intOf iv + 1).toNat)
        case atStart => exact ⟨k, _, HKP.out, Nat.le_refl _, rfl, by rw [Hq0.out]; exact HNB.out, Below.refl _ _⟩
        case round =>
          clear HNB hal
          obtain ⟨j, z, hz, hj, rfl, hIB, hbx⟩ := hrel
          have hBx : B < wr.heap.size := Nat.lt_of_lt_of_le hBs hbx.size
          have hgx : g < B := hgl
          have hxx : Below w.heap.size w wr := hx1.trans (hbx.mono hwB)
          by_cases hj0 : j = 0
          · have t9 : decide (z ≥ 0) = false := decide_eq_false (by omega)
            have hs := fun h => Try.Builder_String_any B B (decL n) wr h (Nat.le_of_lt hBx)
            have HS := Lib.hid (hs (by have := hIB.out; rw [hj0, HN1.out] at this; exact this))
            have HT := Lib.hid (decT_pos n hn0.out)
            clear hs hz hj0 hIB
            go_wp2_with fail
            refine HS.out.mono ?_
            rintro e w3 ⟨rfl, hb3⟩
            go_wp2_with fail
            go_ret
            exact ⟨by rw [HT.out]; rfl, hxx.trans (hb3.mono (by omega))⟩
          · obtain ⟨i, rfl⟩ : ∃ i, j = i + 1 := ⟨j - 1, by omega⟩
            obtain rfl : z = (i : Int) := by omega
            have t9 : decide ((i : Int) ≥ 0) = true := decide_eq_true (by omega)
            have hi0 : (0 : Int) ≤ i := by omega
            have hik : (i : Int) < k := by omega
            have hce : (partCells n k)[i]? = some (.string (strB (partL n i))) := by
              unfold partCells
              rw [List.getElem?_map, List.getElem?_range (by omega)]
              rfl
            have c0 := HL1.out.cellAt i _ hce
            have c1 : wr.cell? ⟨g, i, none⟩ = some (.string (strB (partL n i))) := (hbx.cell (p := ⟨g, i, none⟩) hgx).trans c0
            have c2 : wr.cell? ⟨g, 0 + i, none⟩ = some (.string (strB (partL n i))) := by rw [Nat.zero_add]; exact c1
            have hps := Lib.hid (partL_step n i)
            have hlen1 := partL_len n i
            have hlen2 : (decL (n / decC ^ (i + 1))).length ≤ (dig 10 n).length := by rw [decL_length]; exact dig_length_mono ten_two (Nat.div_le_self _ _)
            have HW := Lib.hid (write_any B B (decL (n / decC ^ (i + 1))) (partL n i) wr hIB.out (by have := HD.out; have := HSZ.out; omega) (Nat.le_of_lt hBx))
            clear c0 hce hz hj0 hIB hlen1 hlen2
            generalize partL n i = pp at *
            go_wp2_with fail
            refine HW.out.mono ?_
            rintro e w3 ⟨rfl, hib3, hb3⟩
            rw [hps.out] at hib3
            have HIB := Lib.hid hib3
            have e1 : IntKind.i64.wrap ((i : Int) - 1) = (i : Int) - 1 := IntWalk.i64_in _ (by have := Hkb.out; omega)
            have e2 : Hid (((intOf (.int .i64 ((i : Int) - 1))) + 1).toNat < ((intOf (.int .i64 (i : Int))) + 1).toNat) := by show _ < _; simp [intOf] <;> omega
            clear hib3
            go_wp2_with fail
            exact ⟨⟨i, (i : Int) - 1, rfl, by omega, rfl, HIB.out, hbx.trans hb3⟩, e2.out⟩
    · have hlen : 0 < (dig b64 (n / decC ^ k)).length := by
        rcases Nat.eq_zero_or_pos (dig b64 (n / decC ^ k)).length with h | h
        · exact absurd ((dig_nil_iff b64_two _).1 (List.eq_nil_of_length_eq_zero h)) h0
        · exact h
      have t1 : decide (0 < (dig b64 (n / decC ^ k)).length) = true := decide_eq_true hlen
      have hLq : (dig b64 (n / decC ^ k)).length ≤ (dig b64 n).length := dig_length_mono b64_two (Nat.div_le_self _ _)
      have hpl := parts_len n k h0
      have Hk1 : Hid (n / decC ^ (k + 1 - 1) ≠ 0) := by show _ ≠ _; rw [Nat.add_sub_cancel]; exact h0
      have Hsu := Lib.hid (partCells_succ n k)
      have Hpd : Hid (n / decC ^ (k + 1) = n / decC ^ k / decC) := by show _ = _; rw [Nat.div_div_eq_div_mul, Nat.pow_succ]
      have Hpl : Hid (partL n k = if n / decC ^ k / decC = 0 then decL (n / decC ^ k) else decZ 19 (n / decC ^ k % decC)) := rfl
      have hkb : k ≤ 1374389534720 := by have := HSZ.out; omega
      have HBW := Lib.hid (fun W h => bw_any (n / decC ^ k) (.slice aa (dig b64 (n / decC ^ k)).length ca) W h (by have := HSZ.out; omega))
      clear hlen hLq hpl h0 hg
      generalize hPK : partL n k = pk at *
      generalize n / decC ^ k = q at *
      clear hPK
      go_wp2_with fail
      refine (HBW.out _ HA.out).mono ?_
      rintro e w1 ⟨vq, rfl, hvq, hb1⟩
      have HVQ := Lib.hid hvq
      obtain ⟨aq, cq, rfl, _⟩ := IsRow.opened hvq
      have hr : q % decC < decC := Nat.mod_lt _ decC_pos
      have HL1 := Lib.hid (hL.out.below hb1)
      have hx1 := ext_trans hbel hb1
      clear hvq hb1 hL hbel HBW t1
      go_wp2_with fail
      refine (decimal_any (q % decC) _ (Nat.lt_trans hr (by unfold decC b64; omega))).mono ?_
      rintro e w2 ⟨rfl, hb2⟩
      have HL2 := Lib.hid (HL1.out.below hb2)
      have HVQ2 := Lib.hid (HVQ.out.below hb2)
      have hx2 := ext_trans hx1 hb2
      clear HL1 HVQ hx1 hb2
      by_cases h1 : q / decC = 0
      · have hL0 : (dig b64 (q / decC)).length = 0 := by rw [h1]; rfl
        have Hpk : Hid (pk = decL (q % decC)) := by
          show _ = _
          rw [Hpl.out, if_pos h1]
          rcases Nat.lt_or_ge q decC with h | h
          · rw [Nat.mod_eq_of_lt h]
          · exact absurd (Nat.div_pos h decC_pos) (by omega)
        rw [hL0] at HVQ2 ⊢
        generalize decL (q % decC) = m at *
        have HL3 := Lib.hid (HL2.out.below ((Below.refl w2.heap.size w2).alloc (Nat.le_refl _) (.cells #[.string (strB m)] 9)))
        have hx3 := hx2.alloc hx2.size (.cells #[.string (strB m)] 9)
        have hsz2 := hx2.size
        clear hr h1 hL0
        have HVQ3 := Lib.hid (HVQ2.out.below ((Below.refl w2.heap.size w2).alloc (Nat.le_refl _) (.cells #[.string (strB m)] 9)))
        go_wp2_with (at_builtin; refine wpList_append_lrow _ rfl (.tmp 28) (.tmp 30) 122 rfl w.heap.size 9 iS _ 1 16 Try.underlying122 hiS hzS hsS hyS rfl (by decide) hzd _ _ _ rfl HL3.out ⟨w2.heap.size, 0, none⟩ 1 1 [.string (strB m)] rfl rfl (cell_new1 _ _ _) (by simp [Value.oneCell']) (by intro u hu; simp at hu; subst hu; exact noDig_string _) (by omega) (by unfold maxLen; omega) (by omega) (by simp; omega) ?_)
        intro g' cap' w3 hL4 hgr hat
        have HL4 := Lib.hid hL4
        have hx4 : Below w.heap.size w w3 := hx3.grown hgr (by simp; omega) (own_base HL3.out.1)
        have HVQ4 := Lib.hid (IsRow.grown (.inl rfl) (HVQ3.out) hgr HL3.out.2)
        clear hL4 hx3
        go_wp2_with fail
        exact ⟨⟨k + 1, by rw [Hpd.out]; exact HVQ4.out, .inr Hk1.out, by rw [Hsu.out, Hpk.out]; exact HL4.out, hx4⟩, by show 1374389534721 - (k + 1) < 1374389534721 - k; omega⟩
      · have hl2 : 0 < (dig b64 (q / decC)).length := by
          rcases Nat.eq_zero_or_pos (dig b64 (q / decC)).length with h | h
          · exact absurd ((dig_nil_iff b64_two _).1 (List.eq_nil_of_length_eq_zero h)) h1
          · exact h
        have t2 : decide (0 < (dig b64 (q / decC)).length) = true := decide_eq_true hl2
        have Hpk : Hid (pk = decZ 19 (q % decC)) := by show _ = _; rw [Hpl.out, if_neg h1]
        have hm19 : (decL (q % decC)).length ≤ 19 := by
          rw [decL_length]
          exact dig_length_le ten_two 19 _ (by rw [← decC_eq]; exact hr)
        have Hz : Hid (decZ 19 (q % decC) = List.replicate (19 - (decL (q % decC)).length) 48 ++ decL (q % decC)) := rfl
        generalize decL (q % decC) = m at *
        obtain ⟨c, hc⟩ : ∃ c, m.length + c = 19 := ⟨19 - m.length, by omega⟩
        have hsm : (strB m).size = m.length := rfl
        have e1 : IntKind.i64.wrap (19 - ((strB m).size : Int)) = (c : Int) := by rw [hsm, show (19 : Int) - (m.length : Int) = (c : Int) by omega]; exact IntWalk.i64_in _ (by omega)
        have hcat : strB (List.replicate c 48) ++ strB m = strB pk := by rw [strB_append, Hpk.out, Hz.out, show 19 - m.length = c by omega]
        have hc19 : c ≤ 19 := by omega
        have hz1 : (strB (List.replicate c 48)).size ≤ 19 := by rw [strB_size, List.length_replicate]; exact hc19
        have hz2 : (strB m).size ≤ 19 := by rw [strB_size]; omega
        clear hr h1 hl2 hm19 hc hsm Hz
        go_wp2_with fail
        refine (rep_any c _ hc19).mono ?_
        rintro e w2' ⟨rfl, hb3⟩
        have HL3 := Lib.hid ((HL2.out.below hb3).below ((Below.refl w2'.heap.size w2').alloc (Nat.le_refl _) (.cells #[.string (strB pk)] 9)))
        have HVQ3 := Lib.hid ((HVQ2.out.below hb3).below ((Below.refl w2'.heap.size w2').alloc (Nat.le_refl _) (.cells #[.string (strB pk)] 9)))
        have hx2' := ext_trans hx2 hb3
        have hx3 := hx2'.alloc hx2'.size (.cells #[.string (strB pk)] 9)
        have hsz2 := hx2'.size
        clear hb3 hx2 hx2'
        go_wp2_with (at_builtin; refine wpList_append_lrow _ rfl (.tmp 28) (.tmp 30) 122 rfl w.heap.size 9 iS _ 1 16 Try.underlying122 hiS hzS hsS hyS rfl (by decide) hzd _ _ _ rfl HL3.out ⟨w2'.heap.size, 0, none⟩ 1 1 [.string (strB pk)] rfl rfl (cell_new1 _ _ _) (by simp [Value.oneCell']) (by intro u hu; simp at hu; subst hu; exact noDig_string _) (by omega) (by unfold maxLen; omega) (by omega) (by simp; omega) ?_)
        intro g' cap' w3 hL4 hgr hat
        have HL4 := Lib.hid hL4
        have hx4 : Below w.heap.size w w3 := hx3.grown hgr (by simp; omega) (own_base HL3.out.1)
        have HVQ4 := Lib.hid (IsRow.grown (.inl rfl) (HVQ3.out) hgr HL3.out.2)
        clear hL4 hx3
        go_wp2_with fail
        exact ⟨⟨k + 1, by rw [Hpd.out]; exact HVQ4.out, .inr Hk1.out, by rw [Hsu.out]; exact HL4.out, hx4⟩, by show 1374389534721 - (k + 1) < 1374389534721 - k; omega⟩

theorem decT_len (n : Nat) (h : (dig b64 n).length ≤ 68719476736) : (strB (decT n)).size ≤ 1374389534720 := by
  have := digits_len n
  rw [strB_size]
  unfold decT
  split
  · simp
  · rw [decL_length]; omega

set_option maxRecDepth 100000 in
set_option maxHeartbeats 4000000 in
theorem textRat_any (q : Rat) (v : Value) (w : World) (h : IsRat w v q) (hs : szR q 68719476736) : Calls Try.prog 54 #[v] w (RetStr (txtQ q) w) := by
  obtain ⟨a1, c1, a2, c2, rfl, n1, n2⟩ := h.opened
  have N1 := Lib.hid n1
  have N2 := Lib.hid n2
  have HS := Lib.hid hs
  have hB := blk_new w #[.bool (decide (q.num < 0)), .slice a1 (dig b64 q.num.natAbs).length c1, .slice a2 (dig b64 (dn q.den)).length c2] 56
  have hal := (Below.refl w.heap.size w).alloc (Nat.le_refl _) (.cells #[.bool (decide (q.num < 0)), .slice a1 (dig b64 q.num.natAbs).length c1, .slice a2 (dig b64 (dn q.den)).length c2] 56)
  have hT1 := text_any q.num.natAbs (.slice a1 (dig b64 q.num.natAbs).length c1) _ (n1.below hal) hs.1
  have HT1 := Lib.hid hT1
  clear h n1 n2 hs hT1
  have Htx : Hid (txtQ q = (if q.num < 0 then [45] else []) ++ (decT q.num.natAbs ++ (if q.den = 1 then [] else 47 :: decT q.den))) := rfl
  go_enter Try.func54, Try.ntmps54
  go_wp2_with fail
  refine HT1.out.mono ?_
  rintro e w1 ⟨rfl, hb1⟩
  have hB1 := blk_keep hB hb1 (blk_lt hB)
  have hx1 := ext_trans hal hb1
  have p0 := blk_cell hB1 0 (.bool (decide (q.num < 0))) rfl
  have p2 := blk_cell hB1 2 (.slice a2 (dig b64 (dn q.den)).length c2) rfl
  have HN2 := Lib.hid (N2.out.below hx1)
  clear hB hB1 hal hb1 HT1
  have hz1 := decT_len q.num.natAbs HS.out.1
  have ho1 : (ByteArray.mk #[45]).size = 1 := rfl
  have ho2 : (ByteArray.mk #[47]).size = 1 := rfl
  by_cases hneg : q.num < 0
  · have tn : decide (q.num < 0) = true := decide_eq_true hneg
    have Hneg := Lib.hid hneg
    rw [tn] at p0 ⊢
    clear hneg tn
    by_cases hd : q.den = 1
    · have hdn : dn q.den = 0 := by simp [dn, hd]
      rw [hdn] at p2 ⊢
      rw [dig_zero, List.length_nil] at p2 ⊢
      have Htx2 : Hid (txtQ q = [45] ++ decT q.num.natAbs) := by show _ = _; rw [Htx.out, if_pos Hneg.out, if_pos hd, List.append_nil]
      clear hd hdn Htx HN2 N2
      have hcat : ByteArray.mk #[45] ++ strB (decT q.num.natAbs) = strB (txtQ q) := by rw [show ByteArray.mk #[45] = strB [45] from rfl, strB_append, Htx2.out]
      go_wp2_with fail
      go_ret
      exact ⟨rfl, hx1⟩
    · have hdn : dn q.den = q.den := by simp [dn, hd]
      rw [hdn] at p2 HN2 ⊢
      have hlen : 0 < (dig b64 q.den).length := by
        rcases Nat.eq_zero_or_pos (dig b64 q.den).length with h | h
        · exact absurd ((dig_nil_iff b64_two _).1 (List.eq_nil_of_length_eq_zero h)) (by have := q.den_pos; omega)
        · exact h
      have tl : decide (0 < (dig b64 q.den).length) = true := decide_eq_true hlen
      have Htx2 : Hid (txtQ q = [45] ++ (decT q.num.natAbs ++ 47 :: decT q.den)) := by show _ = _; rw [Htx.out, if_pos Hneg.out, if_neg hd]
      have hz2 := decT_len q.den HS.out.2
      have HT2 := Lib.hid (text_any q.den _ _ HN2.out HS.out.2)
      have hcat2 : ByteArray.mk #[47] ++ strB (decT q.den) = strB (47 :: decT q.den) := by rw [show ByteArray.mk #[47] = strB [47] from rfl, strB_append]; rfl
      have hz3 : (strB (47 :: decT q.den)).size ≤ 1374389534721 := by rw [strB_size] at hz2 ⊢; rw [List.length_cons]; omega
      have hcat1 : ByteArray.mk #[45] ++ strB (decT q.num.natAbs) = strB (45 :: decT q.num.natAbs) := by rw [show ByteArray.mk #[45] = strB [45] from rfl, strB_append]; rfl
      have hcat3 : strB (45 :: decT q.num.natAbs) ++ strB (47 :: decT q.den) = strB (txtQ q) := by rw [strB_append, Htx2.out]; rfl
      have hz4 : (strB (45 :: decT q.num.natAbs)).size ≤ 1374389534721 := by rw [strB_size] at hz1 ⊢; rw [List.length_cons]; omega
      clear hd hdn Htx hlen HN2 N2
      go_wp2_with fail
      refine HT2.out.mono ?_
      rintro e w2 ⟨rfl, hb2⟩
      go_wp2_with fail
      go_ret
      exact ⟨rfl, ext_trans hx1 hb2⟩
  · have tn : decide (q.num < 0) = false := decide_eq_false hneg
    have Hneg := Lib.hid hneg
    rw [tn] at p0 ⊢
    clear hneg tn
    by_cases hd : q.den = 1
    · have hdn : dn q.den = 0 := by simp [dn, hd]
      rw [hdn] at p2 ⊢
      rw [dig_zero, List.length_nil] at p2 ⊢
      have Htx2 : Hid (txtQ q = decT q.num.natAbs) := by show _ = _; rw [Htx.out, if_neg Hneg.out, if_pos hd, List.append_nil]; rfl
      clear hd hdn Htx HN2 N2
      go_wp2_with fail
      go_ret
      exact ⟨by rw [Htx2.out]; rfl, hx1⟩
    · have hdn : dn q.den = q.den := by simp [dn, hd]
      rw [hdn] at p2 HN2 ⊢
      have hlen : 0 < (dig b64 q.den).length := by
        rcases Nat.eq_zero_or_pos (dig b64 q.den).length with h | h
        · exact absurd ((dig_nil_iff b64_two _).1 (List.eq_nil_of_length_eq_zero h)) (by have := q.den_pos; omega)
        · exact h
      have tl : decide (0 < (dig b64 q.den).length) = true := decide_eq_true hlen
      have Htx2 : Hid (txtQ q = decT q.num.natAbs ++ 47 :: decT q.den) := by show _ = _; rw [Htx.out, if_neg Hneg.out, if_neg hd]; rfl
      have hz2 := decT_len q.den HS.out.2
      have HT2 := Lib.hid (text_any q.den _ _ HN2.out HS.out.2)
      have hcat2 : ByteArray.mk #[47] ++ strB (decT q.den) = strB (47 :: decT q.den) := by rw [show ByteArray.mk #[47] = strB [47] from rfl, strB_append]; rfl
      have hz3 : (strB (47 :: decT q.den)).size ≤ 1374389534721 := by rw [strB_size] at hz2 ⊢; rw [List.length_cons]; omega
      have hcat3 : strB (decT q.num.natAbs) ++ strB (47 :: decT q.den) = strB (txtQ q) := by rw [strB_append, Htx2.out]
      clear hd hdn Htx hlen HN2 N2
      go_wp2_with fail
      refine HT2.out.mono ?_
      rintro e w2 ⟨rfl, hb2⟩
      go_wp2_with fail
      go_ret
      exact ⟨rfl, ext_trans hx1 hb2⟩

end Go.Proofs.Ytmfochplnchgcaa

/- THE WALK OF ratio's Add. -/
namespace Go.Proofs.Ytmfochplnchgcaa
open Go.RowKit

theorem IsRat.stored {w : World} {B : Nat} {neg : Bool} {x1 y1 : Option Addr} {i1 j1 k1 l1 n : Nat} {q : Rat}
    (hB : RB w B) (h1 : IsNat .u64 b64 w (.slice x1 i1 j1) n) (h2 : IsNat .u64 b64 w (.slice y1 k1 l1) (dn q.den))
    (hn : decide (q.num < 0) = neg) (hm : q.num.natAbs = n) :
    IsRat (((w.setCell ⟨B, 0, none⟩ (.bool neg)).setCell ⟨B, 1, none⟩ (.slice x1 i1 j1)).setCell ⟨B, 2, none⟩ (.slice y1 k1 l1)) (.agg #[.bool neg, .slice x1 i1 j1, .slice y1 k1 l1]) q := by
  subst hn hm
  obtain ⟨b, x, i, j, y, k, l, T, hB⟩ := hB
  exact ⟨_, _, rfl, store3 hB h1, store3 hB h2⟩

set_option maxRecDepth 100000 in
set_option maxHeartbeats 4000000 in
theorem addRat_any (x y : Rat) (vx vy : Value) (w : World) (hx : IsRat w vx x) (hy : IsRat w vy y) (hlx : szR x 68719476736) (hly : szR y 68719476736) : Calls Try.prog 19 #[vx, vy] w (RetRat (x + y) w) := by
  obtain ⟨a1, c1, a2, c2, rfl, n1, n2⟩ := hx.opened
  obtain ⟨a3, c3, a4, c4, rfl, n3, n4⟩ := hy.opened
  have N1 := Lib.hid n1
  have N2 := Lib.hid n2
  have N3 := Lib.hid n3
  have N4 := Lib.hid n4
  have He := Lib.hid (mkQ_add x y)
  have hA := dig_length_mul b64_two x.num.natAbs y.den
  have hB := dig_length_mul b64_two y.num.natAbs x.den
  have hC := dig_length_mul b64_two x.den y.den
  have HA : Hid ((dig b64 (x.num.natAbs * y.den)).length ≤ 137438953472) := by have := hlx.1; have := hly.2; show _ ≤ _; omega
  have HBB : Hid ((dig b64 (y.num.natAbs * x.den)).length ≤ 137438953472) := by have := hlx.2; have := hly.1; show _ ≤ _; omega
  have HC : Hid ((dig b64 (x.den * y.den)).length ≤ 137438953472) := by have := hlx.2; have := hly.2; show _ ≤ _; omega
  have hS := dig_length_add b64_two (x.num.natAbs * y.den) (y.num.natAbs * x.den) 137438953472 HA.out HBB.out
  have HS := Lib.hid hS
  have HP := Lib.hid (Nat.mul_pos x.den_pos y.den_pos)
  have HLX := Lib.hid hlx
  have HLY := Lib.hid hly
  clear hx hy n1 n2 n3 n4 hlx hly hA hB hC hS
  go_enter Try.func19, Try.ntmps19
  go_wp2_with fail
  generalize hsx : decide (x.num < 0) = sx at *
  generalize hsy : decide (y.num < 0) = sy at *
  clear hsx hsy
  generalize hW0 : ((w.alloc (.cells #[.bool sx, .slice a1 (dig b64 x.num.natAbs).length c1, .slice a2 (dig b64 (dn x.den)).length c2] 56)).alloc (.cells #[.bool sy, .slice a3 (dig b64 y.num.natAbs).length c3, .slice a4 (dig b64 (dn y.den)).length c4] 56)).alloc (.cells #[.bool false, .slice none 0 0, .slice none 0 0] 56) = W at *
  obtain ⟨hal, hB1, hB2, hB3⟩ := boxes3 w _ _ _ _ W hW0.symm
  clear hW0
  have hW : Below w.heap.size w W.drew := hal.drew
  have p0 := blk_cell hB1 0 (.bool sx) rfl
  have p1 := blk_cell hB1 1 (.slice a1 (dig b64 x.num.natAbs).length c1) rfl
  have p2 := blk_cell hB1 2 (.slice a2 (dig b64 (dn x.den)).length c2) rfl
  have r0 := blk_cell hB2 0 (.bool sy) rfl
  have r1 := blk_cell hB2 1 (.slice a3 (dig b64 y.num.natAbs).length c3) rfl
  have r2 := blk_cell hB2 2 (.slice a4 (dig b64 (dn y.den)).length c4) rfl
  have HB : Hid (RB W (w.heap.size + 2)) := ⟨false, none, 0, 0, none, 0, 0, _, hB3⟩
  have hl3 := blk_lt hB3
  clear hB1 hB2 hB3
  go_region_held3 (fun w' => Below w.heap.size w w' ∧ RB w' (w.heap.size + 2) ∧ w'.cell? ⟨w.heap.size, 0, none⟩ = some (.bool sx) ∧ w'.cell? ⟨w.heap.size, 1, none⟩ = some (.slice a1 (dig b64 x.num.natAbs).length c1) ∧ w'.cell? ⟨w.heap.size, 2, none⟩ = some (.slice a2 (dig b64 (dn x.den)).length c2) ∧ w'.cell? ⟨w.heap.size + 1, 0, none⟩ = some (.bool sy) ∧ w'.cell? ⟨w.heap.size + 1, 1, none⟩ = some (.slice a3 (dig b64 y.num.natAbs).length c3) ∧ w'.cell? ⟨w.heap.size + 1, 2, none⟩ = some (.slice a4 (dig b64 (dn y.den)).length c4) ∧ w'.cell? ⟨w.heap.size + 2, 0, none⟩ = some (cellOf w' ⟨w.heap.size + 2, 0, none⟩) ∧ w'.cell? ⟨w.heap.size + 2, 1, none⟩ = some (cellOf w' ⟨w.heap.size + 2, 1, none⟩) ∧ w'.cell? ⟨w.heap.size + 2, 2, none⟩ = some (cellOf w' ⟨w.heap.size + 2, 2, none⟩) ∧ w'.frozen? ⟨w.heap.size + 2, 0, none⟩ = false ∧ w'.frozen? ⟨w.heap.size + 2, 1, none⟩ = false ∧ w'.frozen? ⟨w.heap.size + 2, 2, none⟩ = false)
    (first | exact hold6 hW p0 p1 p2 r0 r1 r2 HB.out | exact hold6_call (Nat.le_refl _) hbB (by assumption) | exact hold6_call (Nat.le_refl _) hbA (by assumption))
    (first
      | (go_at_call_of 39 (Value.slice a2 (dig b64 (dn x.den)).length c2); (with_reducible refine (under_any x.den _ _ (N2.out.below (And.left (by assumption))) x.den_pos).mono ?_); rintro e wA ⟨vA, rfl, hvA, hbA⟩)
      | (go_at_call_of 39 (Value.slice a4 (dig b64 (dn y.den)).length c4); (with_reducible refine (under_any y.den _ _ (N4.out.below (And.left (by assumption))) y.den_pos).mono ?_); rintro e wB ⟨vB, rfl, hvB, hbB⟩))
  rename_i hS1
  have hD := ext_trans hbA hbB
  have HB1 : Hid (RB wB (w.heap.size + 2)) := RB.keep (a := W.drew) HB.out hD hl3
  have hl31 := HB1.out.lt
  have hXA := Lib.hid (hvA.below hbB)
  have hXB := Lib.hid hvB
  obtain ⟨hWB, -, p0', p1', p2', r0', r1', r2', -⟩ := hS1
  clear p0 p1 p2 r0 r1 r2
  replace p0 := p0'
  replace p1 := p1'
  replace p2 := p2'
  replace r0 := r0'
  replace r1 := r1'
  replace r2 := r2'
  clear p0' p1' p2' r0' r1' r2'
  have hWB2 : Below w.heap.size w wB.drew := hWB.drew
  clear hbA hbB hvA hvB hD HB hW hal hl3
  go_wp2_with fail
  go_region_held3 (fun w' => Below w.heap.size w w' ∧ RB w' (w.heap.size + 2) ∧ w'.cell? ⟨w.heap.size, 0, none⟩ = some (.bool sx) ∧ w'.cell? ⟨w.heap.size, 1, none⟩ = some (.slice a1 (dig b64 x.num.natAbs).length c1) ∧ w'.cell? ⟨w.heap.size, 2, none⟩ = some (.slice a2 (dig b64 (dn x.den)).length c2) ∧ w'.cell? ⟨w.heap.size + 1, 0, none⟩ = some (.bool sy) ∧ w'.cell? ⟨w.heap.size + 1, 1, none⟩ = some (.slice a3 (dig b64 y.num.natAbs).length c3) ∧ w'.cell? ⟨w.heap.size + 1, 2, none⟩ = some (.slice a4 (dig b64 (dn y.den)).length c4) ∧ w'.cell? ⟨w.heap.size + 2, 0, none⟩ = some (cellOf w' ⟨w.heap.size + 2, 0, none⟩) ∧ w'.cell? ⟨w.heap.size + 2, 1, none⟩ = some (cellOf w' ⟨w.heap.size + 2, 1, none⟩) ∧ w'.cell? ⟨w.heap.size + 2, 2, none⟩ = some (cellOf w' ⟨w.heap.size + 2, 2, none⟩) ∧ w'.frozen? ⟨w.heap.size + 2, 0, none⟩ = false ∧ w'.frozen? ⟨w.heap.size + 2, 1, none⟩ = false ∧ w'.frozen? ⟨w.heap.size + 2, 2, none⟩ = false)
    (first | exact hold6 hWB2 p0 p1 p2 r0 r1 r2 HB1.out | exact hold6_call (Nat.le_refl _) hbD (by assumption) | exact hold6_call (Nat.le_refl _) hbC (by assumption))
    (first
      | (go_at_call_of 40 (Value.slice a1 (dig b64 x.num.natAbs).length c1); refine (times_any x.num.natAbs y.den _ _ _ (N1.out.below (And.left (by assumption))) (hXB.out.below (Below.refl _ _).drew) (by have := HLX.out.1; have := HLY.out.2; omega)).mono ?_; rintro e wC ⟨vC, rfl, hvC, hbC⟩)
      | (go_at_call_of 40 (Value.slice a3 (dig b64 y.num.natAbs).length c3); refine (times_any y.num.natAbs x.den _ _ _ (N3.out.below (And.left (by assumption))) ((hXA.out.below (Below.refl _ _).drew).below hbC) (by have := HLX.out.2; have := HLY.out.1; omega)).mono ?_; rintro e wD ⟨vD, rfl, hvD, hbD⟩))
  rename_i hS1
  have hD : Below wB.heap.size wB wD := ext_trans (Below.refl _ _).drew (ext_trans hbC hbD)
  have HB2 : Hid (RB wD (w.heap.size + 2)) := RB.keep HB1.out hD hl31
  have hl32 := HB2.out.lt
  have hB3 := Lib.hid (hvC.below hbD)
  have hD3 := Lib.hid hvD
  have hXA2 := Lib.hid (hXA.out.below hD)
  have hXB2 := Lib.hid (hXB.out.below hD)
  obtain ⟨hWD, -, p0', p1', p2', r0', r1', r2', -⟩ := hS1
  clear p0 p1 p2 r0 r1 r2
  replace p0 := p0'
  replace p1 := p1'
  replace p2 := p2'
  replace r0 := r0'
  replace r1 := r1'
  replace r2 := r2'
  clear p0' p1' p2' r0' r1' r2'
  clear hbC hbD hvC hvD hD HB1 hXA hXB hWB hWB2 hl31
  go_wp2_with fail
  refine (times_any x.den y.den _ _ _ hXA2.out hXB2.out (by have := HLX.out.2; have := HLY.out.2; omega)).mono ?_
  rintro e W2 ⟨vC, rfl, hvC, hbF⟩
  have HC3 := Lib.hid hvC
  have HN1 := Lib.hid (hB3.out.below hbF)
  have HN2 := Lib.hid (hD3.out.below hbF)
  have HB3 : Hid (RB W2 (w.heap.size + 2)) := RB.keep HB2.out hbF hl32
  have e6 := hold6_call (Nat.le_refl _) hbF (hold6 hWD p0 p1 p2 r0 r1 r2 HB2.out)
  obtain ⟨hW2, -, p0', p1', p2', r0', r1', r2', -⟩ := e6
  clear p0 p1 p2 r0 r1 r2 hbF HB2 hB3 hD3 hXA2 hXB2 hvC hWD hl32
  replace p0 := p0'
  replace p1 := p1'
  replace p2 := p2'
  replace r0 := r0'
  replace r1 := r1'
  replace r2 := r2'
  clear p0' p1' p2' r0' r1' r2'
  have HB2 := HB3
  have hl32 := HB2.out.lt
  clear HB3
  generalize x.num.natAbs * y.den = A at *
  generalize y.num.natAbs * x.den = B at *
  generalize x.den * y.den = C at *
  by_cases hs : (sx == sy) = true
  · have Hs := Lib.hid hs
    go_wp2_with fail
    have hWe : Below w.heap.size w W2.drew := hW2.drew
    go_region_held3 (fun w' => Below w.heap.size w w' ∧ RB w' (w.heap.size + 2) ∧ w'.cell? ⟨w.heap.size, 0, none⟩ = some (.bool sx) ∧ w'.cell? ⟨w.heap.size, 1, none⟩ = some (.slice a1 (dig b64 x.num.natAbs).length c1) ∧ w'.cell? ⟨w.heap.size, 2, none⟩ = some (.slice a2 (dig b64 (dn x.den)).length c2) ∧ w'.cell? ⟨w.heap.size + 1, 0, none⟩ = some (.bool sy) ∧ w'.cell? ⟨w.heap.size + 1, 1, none⟩ = some (.slice a3 (dig b64 y.num.natAbs).length c3) ∧ w'.cell? ⟨w.heap.size + 1, 2, none⟩ = some (.slice a4 (dig b64 (dn y.den)).length c4) ∧ w'.cell? ⟨w.heap.size + 2, 0, none⟩ = some (cellOf w' ⟨w.heap.size + 2, 0, none⟩) ∧ w'.cell? ⟨w.heap.size + 2, 1, none⟩ = some (cellOf w' ⟨w.heap.size + 2, 1, none⟩) ∧ w'.cell? ⟨w.heap.size + 2, 2, none⟩ = some (cellOf w' ⟨w.heap.size + 2, 2, none⟩) ∧ w'.frozen? ⟨w.heap.size + 2, 0, none⟩ = false ∧ w'.frozen? ⟨w.heap.size + 2, 1, none⟩ = false ∧ w'.frozen? ⟨w.heap.size + 2, 2, none⟩ = false)
      (first | exact hold6 hWe p0 p1 p2 r0 r1 r2 HB2.out | exact hold6_call (Nat.le_refl _) hbE (by assumption) | exact hold6_call (Nat.le_refl _) hbD (by assumption) | exact hold6_store _ _ _ _ _ _ _ (by omega) (by omega) (by omega) (by assumption) _ rfl)
      (first
        | (go_at_call 42; (refine (plus_any A B _ _ _ (HN1.out.below (Below.refl _ _).drew) (HN2.out.below (Below.refl _ _).drew) (by have := HA.out; omega) (by have := HBB.out; omega)).mono ?_); rintro e wD' ⟨vE, rfl, hvE, hbD⟩)
        | (go_at_call 41; (refine (reduced_any _ (A + B) C _ _ _ hvE (HC3.out.below (ext_trans (show Below W2.heap.size W2 W2.drew from (Below.refl _ _).drew) hbD)) HP.out (by have := HA.out; have := HBB.out; have := HS.out; omega) (by have := HC.out; omega)).mono ?_); rintro e wE ⟨vF, rfl, hvF, hbE⟩; obtain ⟨a5, c5, a6, c6, rfl, n5, n6⟩ := IsRat.opened hvF))
    have hE := ext_trans hbD hbE
    have hRB := RB.keep (a := W2.drew) HB2.out hE hl32
    obtain ⟨g0, g1, g2, f0', f1', f2'⟩ := hRB.cell
    have hx := hWe.trans (hE.mono hWe.size)
    have hBl := hRB.lt
    have He' := He.out sx (A + B) (by have e : sx = sy := (by simpa using Hs.out); rw [← e]; exact sg_add sx A B)
    generalize mkQ sx (A + B) C = q at *
    subst He'
    go_wp2_with fail
    refine bodyPost_ret (v := .agg #[.bool (decide ((x + y).num < 0)), .slice a5 (dig b64 (x + y).num.natAbs).length _, .slice a6 (dig b64 (dn (x + y).den)).length _]) (by simp [results, Try.results19, go_sem, g0, g1, g2]; first | done | exact ⟨rfl, rfl⟩ | rfl) rfl ⟨_, rfl, ?_, below_store3 hx (by omega)⟩
    exact IsRat.stored hRB n5 n6 rfl rfl
  · have hs' : (sx == sy) = false := by simpa using hs
    have Hs := Lib.hid hs'
    clear hs
    go_wp2_with fail
    refine (cmp_any A B _ _ W2 HN1.out HN2.out).mono ?_
    rintro e w' ⟨rfl, nq, rfl⟩
    have hWn : Below w.heap.size w (W2.drewN nq) := below_dn hW2 nq
    have HC4 := Lib.hid (HC3.out.below (below_dn (Below.refl W2.heap.size W2) nq))
    have HN3 := Lib.hid (HN1.out.below (below_dn (Below.refl W2.heap.size W2) nq))
    have HN4 := Lib.hid (HN2.out.below (below_dn (Below.refl W2.heap.size W2) nq))
    have HB4 : Hid (RB (W2.drewN nq) (w.heap.size + 2)) := HB2.out
    have hl34 := HB4.out.lt
    clear HB2 HN1 HN2 HC3 hW2 hl32
    have q0 : (W2.drewN nq).cell? ⟨w.heap.size, 0, none⟩ = _ := p0
    have q1 : (W2.drewN nq).cell? ⟨w.heap.size, 1, none⟩ = _ := p1
    have q2 : (W2.drewN nq).cell? ⟨w.heap.size, 2, none⟩ = _ := p2
    have q3 : (W2.drewN nq).cell? ⟨w.heap.size + 1, 0, none⟩ = _ := r0
    have q4 : (W2.drewN nq).cell? ⟨w.heap.size + 1, 1, none⟩ = _ := r1
    have q5 : (W2.drewN nq).cell? ⟨w.heap.size + 1, 2, none⟩ = _ := r2
    clear p0 p1 p2 r0 r1 r2
    have p0 := q0
    have p1 := q1
    have p2 := q2
    have r0 := q3
    have r1 := q4
    have r2 := q5
    clear q0 q1 q2 q3 q4 q5
    generalize W2.drewN nq = W3 at *
    have HC3 := HC4
    have HN1 := HN3
    have HN2 := HN4
    have HB2 := HB4
    have hl32 := hl34
    have hW2 := hWn
    clear HC4 HN3 HN4 HB4 hl34 hWn
    have hWW : W3 = W3 := rfl
    clear hWW
    by_cases hge : B ≤ A
    · have hc := cmpN_ge hge
      generalize cmpN A B = c at *
      have Hge := Lib.hid hge
      clear hge
      go_wp2_with fail
      have hWe : Below w.heap.size w W3.drew := hW2.drew
      go_region_held3 (fun w' => Below w.heap.size w w' ∧ RB w' (w.heap.size + 2) ∧ w'.cell? ⟨w.heap.size, 0, none⟩ = some (.bool sx) ∧ w'.cell? ⟨w.heap.size, 1, none⟩ = some (.slice a1 (dig b64 x.num.natAbs).length c1) ∧ w'.cell? ⟨w.heap.size, 2, none⟩ = some (.slice a2 (dig b64 (dn x.den)).length c2) ∧ w'.cell? ⟨w.heap.size + 1, 0, none⟩ = some (.bool sy) ∧ w'.cell? ⟨w.heap.size + 1, 1, none⟩ = some (.slice a3 (dig b64 y.num.natAbs).length c3) ∧ w'.cell? ⟨w.heap.size + 1, 2, none⟩ = some (.slice a4 (dig b64 (dn y.den)).length c4) ∧ w'.cell? ⟨w.heap.size + 2, 0, none⟩ = some (cellOf w' ⟨w.heap.size + 2, 0, none⟩) ∧ w'.cell? ⟨w.heap.size + 2, 1, none⟩ = some (cellOf w' ⟨w.heap.size + 2, 1, none⟩) ∧ w'.cell? ⟨w.heap.size + 2, 2, none⟩ = some (cellOf w' ⟨w.heap.size + 2, 2, none⟩) ∧ w'.frozen? ⟨w.heap.size + 2, 0, none⟩ = false ∧ w'.frozen? ⟨w.heap.size + 2, 1, none⟩ = false ∧ w'.frozen? ⟨w.heap.size + 2, 2, none⟩ = false)
        (first | exact hold6 hWe p0 p1 p2 r0 r1 r2 HB2.out | exact hold6_call (Nat.le_refl _) hbE (by assumption) | exact hold6_call (Nat.le_refl _) hbD (by assumption) | exact hold6_store _ _ _ _ _ _ _ (by omega) (by omega) (by omega) (by assumption) _ rfl)
        (first
          | (go_at_call 44; (refine (minus_any A B _ _ _ (HN1.out.below (Below.refl _ _).drew) (HN2.out.below (Below.refl _ _).drew) Hge.out (by have := HA.out; omega)).mono ?_); rintro e wD' ⟨vE, rfl, hvE, hbD⟩)
          | (go_at_call 41; (refine (reduced_any _ (A - B) C _ _ _ hvE (HC3.out.below (ext_trans (show Below W3.heap.size W3 W3.drew from (Below.refl _ _).drew) hbD)) HP.out (by have := HA.out; exact Nat.le_trans (dig_length_mono b64_two (Nat.sub_le _ _)) (by omega)) (by have := HC.out; omega)).mono ?_); rintro e wE ⟨vF, rfl, hvF, hbE⟩; obtain ⟨a5, c5, a6, c6, rfl, n5, n6⟩ := IsRat.opened hvF))
      have hE := ext_trans hbD hbE
      have hRB := RB.keep (a := W3.drew) HB2.out hE hl32
      obtain ⟨g0, g1, g2, f0', f1', f2'⟩ := hRB.cell
      have hx := hWe.trans (hE.mono hWe.size)
      have hBl := hRB.lt
      have He' := He.out sx (A - B) (sg_sub Hs.out Hge.out)
      generalize mkQ sx (A - B) C = q at *
      subst He'
      go_wp2_with fail
      refine bodyPost_ret (v := .agg #[.bool (decide ((x + y).num < 0)), .slice a5 (dig b64 (x + y).num.natAbs).length _, .slice a6 (dig b64 (dn (x + y).den)).length _]) (by simp [results, Try.results19, go_sem, g0, g1, g2]; first | done | exact ⟨rfl, rfl⟩ | rfl) rfl ⟨_, rfl, ?_, below_store3 hx (by omega)⟩
      exact IsRat.stored hRB n5 n6 rfl rfl
    · have hc := cmpN_nge hge
      generalize cmpN A B = c at *
      have Hge : Hid (A ≤ B) := Nat.le_of_lt (Nat.lt_of_not_le hge)
      clear hge
      go_wp2_with fail
      have hWe : Below w.heap.size w W3.drew := hW2.drew
      go_region_held3 (fun w' => Below w.heap.size w w' ∧ RB w' (w.heap.size + 2) ∧ w'.cell? ⟨w.heap.size, 0, none⟩ = some (.bool sx) ∧ w'.cell? ⟨w.heap.size, 1, none⟩ = some (.slice a1 (dig b64 x.num.natAbs).length c1) ∧ w'.cell? ⟨w.heap.size, 2, none⟩ = some (.slice a2 (dig b64 (dn x.den)).length c2) ∧ w'.cell? ⟨w.heap.size + 1, 0, none⟩ = some (.bool sy) ∧ w'.cell? ⟨w.heap.size + 1, 1, none⟩ = some (.slice a3 (dig b64 y.num.natAbs).length c3) ∧ w'.cell? ⟨w.heap.size + 1, 2, none⟩ = some (.slice a4 (dig b64 (dn y.den)).length c4) ∧ w'.cell? ⟨w.heap.size + 2, 0, none⟩ = some (cellOf w' ⟨w.heap.size + 2, 0, none⟩) ∧ w'.cell? ⟨w.heap.size + 2, 1, none⟩ = some (cellOf w' ⟨w.heap.size + 2, 1, none⟩) ∧ w'.cell? ⟨w.heap.size + 2, 2, none⟩ = some (cellOf w' ⟨w.heap.size + 2, 2, none⟩) ∧ w'.frozen? ⟨w.heap.size + 2, 0, none⟩ = false ∧ w'.frozen? ⟨w.heap.size + 2, 1, none⟩ = false ∧ w'.frozen? ⟨w.heap.size + 2, 2, none⟩ = false)
        (first | exact hold6 hWe p0 p1 p2 r0 r1 r2 HB2.out | exact hold6_call (Nat.le_refl _) hbE (by assumption) | exact hold6_call (Nat.le_refl _) hbD (by assumption) | exact hold6_store _ _ _ _ _ _ _ (by omega) (by omega) (by omega) (by assumption) _ rfl)
        (first
          | (go_at_call 44; (refine (minus_any B A _ _ _ (HN2.out.below (Below.refl _ _).drew) (HN1.out.below (Below.refl _ _).drew) Hge.out (by have := HBB.out; omega)).mono ?_); rintro e wD' ⟨vE, rfl, hvE, hbD⟩)
          | (go_at_call 41; (refine (reduced_any _ (B - A) C _ _ _ hvE (HC3.out.below (ext_trans (show Below W3.heap.size W3 W3.drew from (Below.refl _ _).drew) hbD)) HP.out (by have := HBB.out; exact Nat.le_trans (dig_length_mono b64_two (Nat.sub_le _ _)) (by omega)) (by have := HC.out; omega)).mono ?_); rintro e wE ⟨vF, rfl, hvF, hbE⟩; obtain ⟨a5, c5, a6, c6, rfl, n5, n6⟩ := IsRat.opened hvF))
      have hE := ext_trans hbD hbE
      have hRB := RB.keep (a := W3.drew) HB2.out hE hl32
      obtain ⟨g0, g1, g2, f0', f1', f2'⟩ := hRB.cell
      have hx := hWe.trans (hE.mono hWe.size)
      have hBl := hRB.lt
      have He' := He.out sy (B - A) (by rw [Int.add_comm]; exact sg_sub (by have := Hs.out; cases sx <;> cases sy <;> simp_all) Hge.out)
      generalize mkQ sy (B - A) C = q at *
      subst He'
      go_wp2_with fail
      refine bodyPost_ret (v := .agg #[.bool (decide ((x + y).num < 0)), .slice a5 (dig b64 (x + y).num.natAbs).length _, .slice a6 (dig b64 (dn (x + y).den)).length _]) (by simp [results, Try.results19, go_sem, g0, g1, g2]; first | done | exact ⟨rfl, rfl⟩ | rfl) rfl ⟨_, rfl, ?_, below_store3 hx (by omega)⟩
      exact IsRat.stored hRB n5 n6 rfl rfl

end Go.Proofs.Ytmfochplnchgcaa

/- THE WALKS OF ratio's Neg, less, Sub. -/
namespace Go.Proofs.Ytmfochplnchgcaa
open Go.RowKit

set_option maxHeartbeats 2000000 in
theorem negRat_any (x : Rat) (vx : Value) (w : World) (hx : IsRat w vx x) : Calls Try.prog 97 #[vx] w (RetRat (-x) w) := by
  obtain ⟨a1, c1, a2, c2, rfl, n1, n2⟩ := hx.opened
  have N1 := Lib.hid n1
  have N2 := Lib.hid n2
  have He := Lib.hid (neg_lt_num x)
  clear hx n1 n2
  go_enter Try.func97, Try.ntmps97
  go_wp2_with fail
  generalize hneg : decide (x.num < 0) = neg at *
  have hal : Below w.heap.size w ((w.alloc (.cells #[.bool neg, .slice a1 (dig b64 x.num.natAbs).length c1, .slice a2 (dig b64 (dn x.den)).length c2] 56)).alloc (.cells #[.bool false, .slice none 0 0, .slice none 0 0] 56)) :=
    ((Below.refl _ _).alloc (Nat.le_refl _) _).alloc (by simp) _
  have hB1 := (blk_keep (blk_new w #[.bool neg, .slice a1 (dig b64 x.num.natAbs).length c1, .slice a2 (dig b64 (dn x.den)).length c2] 56) ((Below.refl _ _).alloc (Nat.le_refl _) (.cells #[.bool false, .slice none 0 0, .slice none 0 0] 56)) (by simp))
  have hB2 := blk_new (w.alloc (.cells #[.bool neg, .slice a1 (dig b64 x.num.natAbs).length c1, .slice a2 (dig b64 (dn x.den)).length c2] 56)) #[.bool false, .slice none 0 0, .slice none 0 0] 56
  rw [World.size_alloc] at hB2
  generalize ((w.alloc (.cells #[.bool neg, .slice a1 (dig b64 x.num.natAbs).length c1, .slice a2 (dig b64 (dn x.den)).length c2] 56)).alloc (.cells #[.bool false, .slice none 0 0, .slice none 0 0] 56)) = W at *
  have p0 := blk_cell hB1 0 (.bool neg) rfl
  have p1 := blk_cell hB1 1 (.slice a1 (dig b64 x.num.natAbs).length c1) rfl
  have p2 := blk_cell hB1 2 (.slice a2 (dig b64 (dn x.den)).length c2) rfl
  have hl1 := blk_lt hB1
  have hl2 := blk_lt hB2
  have e0 := blk_cell hB2 0 (.bool false) rfl
  have e1 := blk_cell hB2 1 (.slice none 0 0) rfl
  have e2 := blk_cell hB2 2 (.slice none 0 0) rfl
  have f0 := blk_frozen hB2 0
  have f1 := blk_frozen hB2 1
  have f2 := blk_frozen hB2 2
  have HB : Hid (RB W (w.heap.size + 1)) := ⟨false, none, 0, 0, none, 0, 0, _, hB2⟩
  clear hB1 hB2
  have hW : Below w.heap.size w W.drew := hal.drew
  cases neg with
  | true =>
    go_region
    go_wp2_with fail
    refine bodyPost_ret (v := .agg #[.bool false, .slice a1 (dig b64 x.num.natAbs).length _, .slice a2 (dig b64 (dn x.den)).length _]) (by simp [results, Try.results97, go_sem, e0, e1, e2]; first | done | exact ⟨rfl, rfl⟩ | rfl) rfl ⟨_, rfl, ?_, below_store3 hW (by omega)⟩
    exact IsRat.stored (w := W.drew) HB.out (N1.out.below hW) (N2.out.below hW) He.out (natAbs_neg_num x)
  | false =>
    by_cases h0 : x.num.natAbs = 0
    · have t0 : Hid (decide (x.num.natAbs = 0) = true) := decide_eq_true h0
      clear h0
      go_region_held3 (fun w' => Below w.heap.size w w' ∧ RB w' (w.heap.size + 1) ∧ w'.cell? ⟨w.heap.size, 0, none⟩ = some (.bool false) ∧ w'.cell? ⟨w.heap.size, 1, none⟩ = some (.slice a1 (dig b64 x.num.natAbs).length c1) ∧ w'.cell? ⟨w.heap.size, 2, none⟩ = some (.slice a2 (dig b64 (dn x.den)).length c2) ∧
          w'.cell? ⟨w.heap.size + 1, 0, none⟩ = some (cellOf w' ⟨w.heap.size + 1, 0, none⟩) ∧ w'.cell? ⟨w.heap.size + 1, 1, none⟩ = some (cellOf w' ⟨w.heap.size + 1, 1, none⟩) ∧ w'.cell? ⟨w.heap.size + 1, 2, none⟩ = some (cellOf w' ⟨w.heap.size + 1, 2, none⟩) ∧
          w'.frozen? ⟨w.heap.size + 1, 0, none⟩ = false ∧ w'.frozen? ⟨w.heap.size + 1, 1, none⟩ = false ∧ w'.frozen? ⟨w.heap.size + 1, 2, none⟩ = false)
        (first | exact hold3 hW p0 p1 p2 HB.out | exact hold3_call (Nat.le_refl _) hb' (by assumption) | exact hold3_store _ _ _ _ _ _ _ (Nat.le_succ _) (Nat.ne_of_lt (Nat.lt_succ_self _)) (by assumption) _ rfl)
        (first | (go_at_call 74; refine (zero_any _ _ x.num.natAbs _ _ _ _ _).mono ?_; rw [t0.out]; rintro e w' ⟨rfl, hb'⟩))
      have hRB := RB.keep (a := W.drew) HB.out hb' hl2
      obtain ⟨c0, c1, c2, f0', f1', f2'⟩ := hRB.cell
      have hx := hW.trans (hb'.mono hW.size)
      have hBl := hRB.lt
      go_wp2_with fail
      refine bodyPost_ret (v := .agg #[.bool false, .slice a1 (dig b64 x.num.natAbs).length _, .slice a2 (dig b64 (dn x.den)).length _]) (by simp [results, Try.results97, go_sem, c0, c1, c2]; first | done | exact ⟨rfl, rfl⟩ | rfl) rfl ⟨_, rfl, ?_, below_store3 hx (by omega)⟩
      exact IsRat.stored hRB (N1.out.below hx) (N2.out.below hx) (by rw [He.out, t0.out]; rfl) (natAbs_neg_num x)
    · have t0 : Hid (decide (x.num.natAbs = 0) = false) := decide_eq_false h0
      clear h0
      go_region_held3 (fun w' => Below w.heap.size w w' ∧ RB w' (w.heap.size + 1) ∧ w'.cell? ⟨w.heap.size, 0, none⟩ = some (.bool false) ∧ w'.cell? ⟨w.heap.size, 1, none⟩ = some (.slice a1 (dig b64 x.num.natAbs).length c1) ∧ w'.cell? ⟨w.heap.size, 2, none⟩ = some (.slice a2 (dig b64 (dn x.den)).length c2) ∧
          w'.cell? ⟨w.heap.size + 1, 0, none⟩ = some (cellOf w' ⟨w.heap.size + 1, 0, none⟩) ∧ w'.cell? ⟨w.heap.size + 1, 1, none⟩ = some (cellOf w' ⟨w.heap.size + 1, 1, none⟩) ∧ w'.cell? ⟨w.heap.size + 1, 2, none⟩ = some (cellOf w' ⟨w.heap.size + 1, 2, none⟩) ∧
          w'.frozen? ⟨w.heap.size + 1, 0, none⟩ = false ∧ w'.frozen? ⟨w.heap.size + 1, 1, none⟩ = false ∧ w'.frozen? ⟨w.heap.size + 1, 2, none⟩ = false)
        (first | exact hold3 hW p0 p1 p2 HB.out | exact hold3_call (Nat.le_refl _) hb' (by assumption) | exact hold3_store _ _ _ _ _ _ _ (Nat.le_succ _) (Nat.ne_of_lt (Nat.lt_succ_self _)) (by assumption) _ rfl)
        (first | (go_at_call 74; refine (zero_any _ _ x.num.natAbs _ _ _ _ _).mono ?_; rw [t0.out]; rintro e w' ⟨rfl, hb'⟩))
      have hRB := RB.keep (a := W.drew) HB.out hb' hl2
      obtain ⟨c0, c1, c2, f0', f1', f2'⟩ := hRB.cell
      have hx := hW.trans (hb'.mono hW.size)
      have hBl := hRB.lt
      go_wp2_with fail
      refine bodyPost_ret (v := .agg #[.bool true, .slice a1 (dig b64 x.num.natAbs).length _, .slice a2 (dig b64 (dn x.den)).length _]) (by simp [results, Try.results97, go_sem, c0, c1, c2]; first | done | exact ⟨rfl, rfl⟩ | rfl) rfl ⟨_, rfl, ?_, below_store3 hx (by omega)⟩
      exact IsRat.stored hRB (N1.out.below hx) (N2.out.below hx) (by rw [He.out, t0.out]; rfl) (natAbs_neg_num x)

set_option maxRecDepth 100000 in
theorem method_neg (b : Bool) (x y : Option Addr) (i j k l : Nat) (w : World) : (method 262 56 (.agg #[.bool b, .slice x i j, .slice y k l]) "Neg").run Try.prog w = .ok (97, .agg #[.bool b, .slice x i j, .slice y k l]) w := by kernel_rfl
set_option maxRecDepth 100000 in
theorem method_add (b : Bool) (x y : Option Addr) (i j k l : Nat) (w : World) : (method 262 56 (.agg #[.bool b, .slice x i j, .slice y k l]) "Add").run Try.prog w = .ok (19, .agg #[.bool b, .slice x i j, .slice y k l]) w := by kernel_rfl

set_option maxRecDepth 100000 in
set_option maxHeartbeats 4000000 in
theorem lessRat_any (x y : Rat) (vx vy : Value) (w : World) (hx : IsRat w vx x) (hy : IsRat w vy y) (hlx : szR x 68719476736) (hly : szR y 68719476736) : Calls Try.prog 45 #[vx, vy] w (RetRat (x - y) w) := by
  have hy0 := hy
  obtain ⟨a1, c1, a2, c2, rfl, n1, n2⟩ := hx.opened
  obtain ⟨a3, c3, a4, c4, rfl, n3, n4⟩ := hy.opened
  have HX := Lib.hid hx
  have HY := Lib.hid hy
  have HLX := Lib.hid hlx
  have hln : szR (-y) 68719476736 := ⟨by rw [natAbs_neg_num]; exact hly.1, hly.2⟩
  have HLY := Lib.hid hln
  have He : Hid (x + -y = x - y) := (Rat.sub_eq_add_neg x y).symm
  clear hx hy n1 n2 n3 n4 hlx hly hln hy0
  have hmn := method_neg
  have hma := method_add
  go_enter Try.func45, Try.ntmps45
  go_wp2_with fail
  generalize hsx : decide (x.num < 0) = sx at *
  generalize hsy : decide (y.num < 0) = sy at *
  clear hsx hsy
  generalize hW0 : ((w.alloc (.cells #[.bool sx, .slice a1 (dig b64 x.num.natAbs).length c1, .slice a2 (dig b64 (dn x.den)).length c2] 56)).alloc (.cells #[.bool sy, .slice a3 (dig b64 y.num.natAbs).length c3, .slice a4 (dig b64 (dn y.den)).length c4] 56)).alloc (.cells #[.bool false, .slice none 0 0, .slice none 0 0] 56) = W at *
  obtain ⟨hal, hB1, hB2, hB3⟩ := boxes3 w _ _ _ _ W hW0.symm
  clear hW0
  have hW : Below w.heap.size w W.drew := hal.drew
  have p0 := blk_cell hB1 0 (.bool sx) rfl
  have p1 := blk_cell hB1 1 (.slice a1 (dig b64 x.num.natAbs).length c1) rfl
  have p2 := blk_cell hB1 2 (.slice a2 (dig b64 (dn x.den)).length c2) rfl
  have r0 := blk_cell hB2 0 (.bool sy) rfl
  have r1 := blk_cell hB2 1 (.slice a3 (dig b64 y.num.natAbs).length c3) rfl
  have r2 := blk_cell hB2 2 (.slice a4 (dig b64 (dn y.den)).length c4) rfl
  have HB : Hid (RB W (w.heap.size + 2)) := ⟨false, none, 0, 0, none, 0, 0, _, hB3⟩
  have hl3 := blk_lt hB3
  clear hB1 hB2 hB3
  go_region_held3 (fun w' => Below w.heap.size w w' ∧ RB w' (w.heap.size + 2) ∧ w'.cell? ⟨w.heap.size, 0, none⟩ = some (.bool sx) ∧ w'.cell? ⟨w.heap.size, 1, none⟩ = some (.slice a1 (dig b64 x.num.natAbs).length c1) ∧ w'.cell? ⟨w.heap.size, 2, none⟩ = some (.slice a2 (dig b64 (dn x.den)).length c2) ∧ w'.cell? ⟨w.heap.size + 1, 0, none⟩ = some (.bool sy) ∧ w'.cell? ⟨w.heap.size + 1, 1, none⟩ = some (.slice a3 (dig b64 y.num.natAbs).length c3) ∧ w'.cell? ⟨w.heap.size + 1, 2, none⟩ = some (.slice a4 (dig b64 (dn y.den)).length c4) ∧ w'.cell? ⟨w.heap.size + 2, 0, none⟩ = some (cellOf w' ⟨w.heap.size + 2, 0, none⟩) ∧ w'.cell? ⟨w.heap.size + 2, 1, none⟩ = some (cellOf w' ⟨w.heap.size + 2, 1, none⟩) ∧ w'.cell? ⟨w.heap.size + 2, 2, none⟩ = some (cellOf w' ⟨w.heap.size + 2, 2, none⟩) ∧ w'.frozen? ⟨w.heap.size + 2, 0, none⟩ = false ∧ w'.frozen? ⟨w.heap.size + 2, 1, none⟩ = false ∧ w'.frozen? ⟨w.heap.size + 2, 2, none⟩ = false)
    (first | exact hold6 hW p0 p1 p2 r0 r1 r2 HB.out | exact hold6_call (Nat.le_refl _) hbE (by assumption) | exact hold6_call (Nat.le_refl _) hbD (by assumption) | exact hold6_store _ _ _ _ _ _ _ (by omega) (by omega) (by omega) (by assumption) _ rfl)
    (first
      | (go_at_call 97; refine (negRat_any y _ _ (HY.out.below (And.left (by assumption)))).mono ?_; rintro e wD ⟨vD, rfl, hvD, hbD⟩)
      | (go_at_call 19; refine (addRat_any x (-y) _ _ _ (HX.out.below (And.left (by assumption))) hvD HLX.out HLY.out).mono ?_; rw [He.out]; rintro e wE ⟨vE, rfl, hvE, hbE⟩; obtain ⟨a5, c5, a6, c6, rfl, n5, n6⟩ := IsRat.opened hvE))
  have hE := ext_trans hbD hbE
  have hRB := RB.keep (a := W.drew) HB.out hE hl3
  obtain ⟨g0, g1, g2, f0', f1', f2'⟩ := hRB.cell
  have hx := hW.trans (hE.mono hW.size)
  have hBl := hRB.lt
  go_wp2_with fail
  refine bodyPost_ret (v := .agg #[.bool (decide ((x - y).num < 0)), .slice a5 (dig b64 (x - y).num.natAbs).length _, .slice a6 (dig b64 (dn (x - y).den)).length _]) (by simp [results, Try.results45, go_sem, g0, g1, g2]; first | done | exact ⟨rfl, rfl⟩ | rfl) rfl ⟨_, rfl, ?_, below_store3 hx (by omega)⟩
  exact IsRat.stored hRB n5 n6 rfl rfl

set_option maxRecDepth 100000 in
set_option maxHeartbeats 2000000 in
theorem subRat_any (x y : Rat) (vx vy : Value) (w : World) (hx : IsRat w vx x) (hy : IsRat w vy y) (hlx : szR x 68719476736) (hly : szR y 68719476736) : Calls Try.prog 21 #[vx, vy] w (RetRat (x - y) w) := by
  obtain ⟨a1, c1, a2, c2, rfl, n1, n2⟩ := hx.opened
  obtain ⟨a3, c3, a4, c4, rfl, n3, n4⟩ := hy.opened
  have HX := Lib.hid hx
  have HY := Lib.hid hy
  have HLX := Lib.hid hlx
  have HLY := Lib.hid hly
  clear hx hy n1 n2 n3 n4 hlx hly
  go_enter Try.func21, Try.ntmps21
  go_wp2_with fail
  generalize hW0 : ((w.alloc (.cells #[.bool (decide (x.num < 0)), .slice a1 (dig b64 x.num.natAbs).length c1, .slice a2 (dig b64 (dn x.den)).length c2] 56)).alloc (.cells #[.bool (decide (y.num < 0)), .slice a3 (dig b64 y.num.natAbs).length c3, .slice a4 (dig b64 (dn y.den)).length c4] 56)).alloc (.cells #[.bool false, .slice none 0 0, .slice none 0 0] 56) = W at *
  obtain ⟨hal, hB1, hB2, hB3⟩ := boxes3 w _ _ _ _ W hW0.symm
  clear hW0
  have HB : Hid (RB W (w.heap.size + 2)) := ⟨false, none, 0, 0, none, 0, 0, _, hB3⟩
  have hl3 := blk_lt hB3
  clear hB1 hB2 hB3
  refine (lessRat_any x y _ _ _ (HX.out.below hal) (HY.out.below hal) HLX.out HLY.out).mono ?_
  rintro e w3 ⟨v, rfl, hv, hb⟩
  have hRB := HB.out.keep hb hl3
  obtain ⟨a5, c5, a6, c6, rfl, n5, n6⟩ := IsRat.opened hv
  have hx := ext_trans hal hb
  obtain ⟨g0, g1, g2, f0', f1', f2'⟩ := hRB.cell
  have hBl := hRB.lt
  generalize x - y = q at *
  clear hv hb hal
  go_wp2_with fail
  refine bodyPost_ret (v := .agg #[.bool (decide (q.num < 0)), .slice a5 (dig b64 q.num.natAbs).length _, .slice a6 (dig b64 (dn q.den)).length _]) (by simp [results, Try.results21, go_sem, g0, g1, g2]; first | done | exact ⟨rfl, rfl⟩ | rfl) rfl ⟨_, rfl, ?_, below_store3 hx (by omega)⟩
  exact IsRat.stored hRB n5 n6 rfl rfl

end Go.Proofs.Ytmfochplnchgcaa

/- THE WALKS OF ratio's Mul, by, Div. -/
namespace Go.Proofs.Ytmfochplnchgcaa
open Go.RowKit

set_option maxRecDepth 100000 in
set_option maxHeartbeats 4000000 in
theorem mulRat_any (x y : Rat) (vx vy : Value) (w : World) (hx : IsRat w vx x) (hy : IsRat w vy y) (hlx : szR x 68719476736) (hly : szR y 68719476736) : Calls Try.prog 22 #[vx, vy] w (RetRat (x * y) w) := by
  obtain ⟨a1, c1, a2, c2, rfl, n1, n2⟩ := hx.opened
  obtain ⟨a3, c3, a4, c4, rfl, n3, n4⟩ := hy.opened
  have N1 := Lib.hid n1
  have N2 := Lib.hid n2
  have N3 := Lib.hid n3
  have N4 := Lib.hid n4
  have He := Lib.hid (mkQ_mul x y)
  have HLX := Lib.hid hlx
  have HLY := Lib.hid hly
  clear hx hy n1 n2 n3 n4 hlx hly
  go_enter Try.func22, Try.ntmps22
  go_wp2_with fail
  generalize hsx : decide (x.num < 0) = sx at *
  generalize hsy : decide (y.num < 0) = sy at *
  clear hsx hsy
  generalize hW0 : ((w.alloc (.cells #[.bool sx, .slice a1 (dig b64 x.num.natAbs).length c1, .slice a2 (dig b64 (dn x.den)).length c2] 56)).alloc (.cells #[.bool sy, .slice a3 (dig b64 y.num.natAbs).length c3, .slice a4 (dig b64 (dn y.den)).length c4] 56)).alloc (.cells #[.bool false, .slice none 0 0, .slice none 0 0] 56) = W at *
  obtain ⟨hal, hB1, hB2, hB3⟩ := boxes3 w _ _ _ _ W hW0.symm
  clear hW0
  have hW : Below w.heap.size w W.drew := hal.drew
  have p0 := blk_cell hB1 0 (.bool sx) rfl
  have p1 := blk_cell hB1 1 (.slice a1 (dig b64 x.num.natAbs).length c1) rfl
  have p2 := blk_cell hB1 2 (.slice a2 (dig b64 (dn x.den)).length c2) rfl
  have r0 := blk_cell hB2 0 (.bool sy) rfl
  have r1 := blk_cell hB2 1 (.slice a3 (dig b64 y.num.natAbs).length c3) rfl
  have r2 := blk_cell hB2 2 (.slice a4 (dig b64 (dn y.den)).length c4) rfl
  have HB : Hid (RB W (w.heap.size + 2)) := ⟨false, none, 0, 0, none, 0, 0, _, hB3⟩
  have hl3 := blk_lt hB3
  clear hB1 hB2 hB3
  go_region_held3 (fun w' => Below w.heap.size w w' ∧ RB w' (w.heap.size + 2) ∧ w'.cell? ⟨w.heap.size, 0, none⟩ = some (.bool sx) ∧ w'.cell? ⟨w.heap.size, 1, none⟩ = some (.slice a1 (dig b64 x.num.natAbs).length c1) ∧ w'.cell? ⟨w.heap.size, 2, none⟩ = some (.slice a2 (dig b64 (dn x.den)).length c2) ∧ w'.cell? ⟨w.heap.size + 1, 0, none⟩ = some (.bool sy) ∧ w'.cell? ⟨w.heap.size + 1, 1, none⟩ = some (.slice a3 (dig b64 y.num.natAbs).length c3) ∧ w'.cell? ⟨w.heap.size + 1, 2, none⟩ = some (.slice a4 (dig b64 (dn y.den)).length c4) ∧ w'.cell? ⟨w.heap.size + 2, 0, none⟩ = some (cellOf w' ⟨w.heap.size + 2, 0, none⟩) ∧ w'.cell? ⟨w.heap.size + 2, 1, none⟩ = some (cellOf w' ⟨w.heap.size + 2, 1, none⟩) ∧ w'.cell? ⟨w.heap.size + 2, 2, none⟩ = some (cellOf w' ⟨w.heap.size + 2, 2, none⟩) ∧ w'.frozen? ⟨w.heap.size + 2, 0, none⟩ = false ∧ w'.frozen? ⟨w.heap.size + 2, 1, none⟩ = false ∧ w'.frozen? ⟨w.heap.size + 2, 2, none⟩ = false)
    (first | exact hold6 hW p0 p1 p2 r0 r1 r2 HB.out | exact hold6_call (Nat.le_refl _) hbE (by assumption) | exact hold6_call (Nat.le_refl _) hbD (by assumption) | exact hold6_call (Nat.le_refl _) hbC (by assumption) | exact hold6_call (Nat.le_refl _) hbB (by assumption) | exact hold6_call (Nat.le_refl _) hbA (by assumption) | exact hold6_store _ _ _ _ _ _ _ (by omega) (by omega) (by omega) (by assumption) _ rfl)
    (first
      | (go_at_call_of 40 (Value.slice a1 (dig b64 x.num.natAbs).length c1); refine (times_any x.num.natAbs y.num.natAbs _ _ _ (N1.out.below (And.left (by assumption))) (N3.out.below (And.left (by assumption))) (by have := HLX.out.1; have := HLY.out.1; omega)).mono ?_; rintro e wA ⟨vA, rfl, hvA, hbA⟩)
      | (go_at_call_of 39 (Value.slice a2 (dig b64 (dn x.den)).length c2); (with_reducible refine (under_any x.den _ _ (N2.out.below (And.left (by assumption))) x.den_pos).mono ?_); rintro e wB ⟨vB, rfl, hvB, hbB⟩)
      | (go_at_call_of 39 (Value.slice a4 (dig b64 (dn y.den)).length c4); (with_reducible refine (under_any y.den _ _ (N4.out.below (And.left (by assumption))) y.den_pos).mono ?_); rintro e wC ⟨vC, rfl, hvC, hbC⟩)
      | (go_at_call 40; refine (times_any x.den y.den _ _ _ (hvB.below hbC) hvC (by have := HLX.out.2; have := HLY.out.2; omega)).mono ?_; rintro e wD ⟨vD, rfl, hvD, hbD⟩)
      | (go_at_call 41; refine (reduced_any _ (x.num.natAbs * y.num.natAbs) (x.den * y.den) _ _ _ (hvA.below (ext_trans hbB (ext_trans hbC hbD))) hvD (Nat.mul_pos x.den_pos y.den_pos) (by have := dig_length_mul b64_two x.num.natAbs y.num.natAbs; have := HLX.out.1; have := HLY.out.1; omega) (by have := dig_length_mul b64_two x.den y.den; have := HLX.out.2; have := HLY.out.2; omega)).mono ?_; rintro e wE ⟨vE, rfl, hvE, hbE⟩; obtain ⟨a5, c5, a6, c6, rfl, n5, n6⟩ := IsRat.opened hvE))
  have hE := ext_trans (ext_trans (ext_trans (ext_trans hbA hbB) hbC) hbD) hbE
  have hRB := RB.keep (a := W.drew) HB.out hE hl3
  obtain ⟨g0, g1, g2, f0', f1', f2'⟩ := hRB.cell
  have hx := hW.trans (hE.mono hW.size)
  have hBl := hRB.lt
  have He' := He.out
  generalize mkQ (!sx == sy) (x.num.natAbs * y.num.natAbs) (x.den * y.den) = q at *
  subst He'
  go_wp2_with fail
  refine bodyPost_ret (v := .agg #[.bool (decide ((x * y).num < 0)), .slice a5 (dig b64 (x * y).num.natAbs).length _, .slice a6 (dig b64 (dn (x * y).den)).length _]) (by simp [results, Try.results22, go_sem, g0, g1, g2]; first | done | exact ⟨rfl, rfl⟩ | rfl) rfl ⟨_, rfl, ?_, below_store3 hx (by omega)⟩
  exact IsRat.stored hRB n5 n6 rfl rfl

theorem mkQ_div (x y : Rat) (hy : y.num.natAbs ≠ 0) : mkQ (!(decide (x.num < 0) == decide (y.num < 0))) (x.num.natAbs * y.den) (x.den * y.num.natAbs) = x / y := by
  have hxd := x.den_pos
  have hyd := y.den_pos
  have h := new_plain (x.num * y.den) (x.den * y.num) (by
    refine Int.mul_ne_zero ?_ ?_ <;> omega)
  have e1 : (x.num * (y.den : Int)).natAbs = x.num.natAbs * y.den := by rw [Int.natAbs_mul]; rfl
  have e2 : ((x.den : Int) * y.num).natAbs = x.den * y.num.natAbs := by rw [Int.natAbs_mul]; rfl
  have e3 : decide (x.num * (y.den : Int) < 0) = decide (x.num < 0) := by
    rw [decide_eq_decide]
    constructor
    · intro h
      rcases Int.lt_or_le x.num 0 with h1 | h1
      · exact h1
      · have := Int.mul_nonneg h1 (show (0:Int) ≤ y.den by omega); omega
    · intro h; exact Int.mul_neg_of_neg_of_pos h (by omega)
  have e4 : decide ((x.den : Int) * y.num < 0) = decide (y.num < 0) := by
    rw [decide_eq_decide]
    constructor
    · intro h
      rcases Int.lt_or_le y.num 0 with h1 | h1
      · exact h1
      · have := Int.mul_nonneg (show (0:Int) ≤ x.den by omega) h1; omega
    · intro h; exact Int.mul_neg_of_pos_of_neg (by omega) h
  rw [e1, e2, e3, e4] at h
  rw [show (!(decide (x.num < 0) == decide (y.num < 0))) = (decide (x.num < 0) != decide (y.num < 0)) from rfl, h]
  have hx : x = Rat.divInt x.num x.den := (Rat.num_divInt_den x).symm
  have hy2 : y = Rat.divInt y.num y.den := (Rat.num_divInt_den y).symm
  conv => rhs; rw [hx, hy2]
  rw [← Rat.divInt_eq_div, Rat.div_def, Rat.inv_divInt, Rat.divInt_mul_divInt]

end Go.Proofs.Ytmfochplnchgcaa

/- RANGES: what a range reads as, boxes of fractions and ranges; the walks of ratio's and cure's functions on ranges; printed by wip/tools/gen_cn.py. -/
namespace Go.Proofs.Ytmfochplnchgcaa
open Go.RowKit

structure R3 where
  b : Bool
  a : Option Addr
  n : Nat
  c : Nat
  d : Option Addr
  m : Nat
  e : Nat
abbrev R3.arr (x : R3) : Array Value := #[.bool x.b, .slice x.a x.n x.c, .slice x.d x.m x.e]
abbrev R3.val (x : R3) : Value := .agg #[.bool x.b, .slice x.a x.n x.c, .slice x.d x.m x.e]
abbrev arr6 (x y : R3) : Array Value := #[.bool x.b, .slice x.a x.n x.c, .slice x.d x.m x.e, .bool y.b, .slice y.a y.n y.c, .slice y.d y.m y.e]
abbrev rngV (x y : R3) : Value := .agg #[.bool x.b, .slice x.a x.n x.c, .slice x.d x.m x.e, .bool y.b, .slice y.a y.n y.c, .slice y.d y.m y.e]
def r30 : R3 := ⟨false, none, 0, 0, none, 0, 0⟩
theorem IsRat.open3 {w : World} {v : Value} {q : Rat} (h : IsRat w v q) : ∃ x : R3, v = x.val := by
  obtain ⟨a1, c1, a2, c2, rfl, _, _⟩ := h.opened
  exact ⟨⟨_, _, _, _, _, _, _⟩, rfl⟩
/-- The value v reads as the range from lo to hi. -/
def IsRng (w : World) (v : Value) (lo hi : Rat) : Prop := ∃ x y : R3, v = rngV x y ∧ IsRat w x.val lo ∧ IsRat w y.val hi
theorem IsRng.below {w w' : World} {v : Value} {lo hi : Rat} (h : IsRng w v lo hi) (hb : Below w.heap.size w w') : IsRng w' v lo hi := by
  obtain ⟨x, y, rfl, h1, h2⟩ := h
  exact ⟨x, y, rfl, h1.below hb, h2.below hb⟩
def RetRng (lo hi : Rat) (w : World) (e : Ending) (w' : World) : Prop := ∃ v, e = .returned v ∧ IsRng w' v lo hi ∧ Below w.heap.size w w'
def RetRngE (lo hi : Rat) (err : Int) (w : World) (e : Ending) (w' : World) : Prop := ∃ v, e = .returned (.tuple #[v, .int .i64 err]) ∧ IsRng w' v lo hi ∧ Below w.heap.size w w'
theorem bt {W a b : World} (h : Below W.heap.size W a) (hb : Below a.heap.size a b) : Below W.heap.size W b := h.trans (hb.mono h.size)
theorem IsRat.setj {w : World} {v : Value} {q : Rat} {B T : Nat} {cs : Array Value} (h : IsRat w v q) (hB : w.heap[B]? = some (.cells cs T (0, 0))) (hn : noInt cs) (j : Nat) (u : Value) : IsRat (w.setCell ⟨B, j, none⟩ u) v q := by
  obtain ⟨vn, vd, rfl, h1, h2⟩ := h
  exact ⟨vn, vd, rfl, IsRow.set_other h1 hB hn j u, IsRow.set_other h2 hB hn j u⟩
theorem ni3 (b1 : Bool) (a1 : Option Addr) (n1 c1 : Nat) (d1 : Option Addr) (m1 e1 : Nat) : noInt #[.bool b1, .slice a1 n1 c1, .slice d1 m1 e1] := by
  intro i k x
  match i with
  | 0 => simp
  | 1 => simp
  | 2 => simp
  | i + 3 => simp
theorem set3r {w : World} {B T : Nat} {p x : R3} (h : w.heap[B]? = some (.cells #[.bool p.b, .slice p.a p.n p.c, .slice p.d p.m p.e] T (0, 0))) : ((((w.setCell ⟨B, 0, none⟩ (.bool x.b)).setCell ⟨B, 1, none⟩ (.slice x.a x.n x.c)).setCell ⟨B, 2, none⟩ (.slice x.d x.m x.e))).heap[B]? = some (.cells #[.bool x.b, .slice x.a x.n x.c, .slice x.d x.m x.e] T (0, 0)) := by
  have h0 : (w.setCell ⟨B, 0, none⟩ (.bool x.b)).heap[B]? = some (.cells #[.bool x.b, .slice p.a p.n p.c, .slice p.d p.m p.e] T (0, 0)) := blk_set h 0 _
  have h1 : ((w.setCell ⟨B, 0, none⟩ (.bool x.b)).setCell ⟨B, 1, none⟩ (.slice x.a x.n x.c)).heap[B]? = some (.cells #[.bool x.b, .slice x.a x.n x.c, .slice p.d p.m p.e] T (0, 0)) := blk_set h0 1 _
  have h2 : (((w.setCell ⟨B, 0, none⟩ (.bool x.b)).setCell ⟨B, 1, none⟩ (.slice x.a x.n x.c)).setCell ⟨B, 2, none⟩ (.slice x.d x.m x.e)).heap[B]? = some (.cells #[.bool x.b, .slice x.a x.n x.c, .slice x.d x.m x.e] T (0, 0)) := blk_set h1 2 _
  exact h2
theorem IsRat.set3r {w : World} {v : Value} {r : Rat} {B T : Nat} {p x : R3} (i : IsRat w v r) (h : w.heap[B]? = some (.cells #[.bool p.b, .slice p.a p.n p.c, .slice p.d p.m p.e] T (0, 0))) : IsRat ((((w.setCell ⟨B, 0, none⟩ (.bool x.b)).setCell ⟨B, 1, none⟩ (.slice x.a x.n x.c)).setCell ⟨B, 2, none⟩ (.slice x.d x.m x.e))) v r := by
  have h0 : (w.setCell ⟨B, 0, none⟩ (.bool x.b)).heap[B]? = some (.cells #[.bool x.b, .slice p.a p.n p.c, .slice p.d p.m p.e] T (0, 0)) := blk_set h 0 _
  have h1 : ((w.setCell ⟨B, 0, none⟩ (.bool x.b)).setCell ⟨B, 1, none⟩ (.slice x.a x.n x.c)).heap[B]? = some (.cells #[.bool x.b, .slice x.a x.n x.c, .slice p.d p.m p.e] T (0, 0)) := blk_set h0 1 _
  have h2 : (((w.setCell ⟨B, 0, none⟩ (.bool x.b)).setCell ⟨B, 1, none⟩ (.slice x.a x.n x.c)).setCell ⟨B, 2, none⟩ (.slice x.d x.m x.e)).heap[B]? = some (.cells #[.bool x.b, .slice x.a x.n x.c, .slice x.d x.m x.e] T (0, 0)) := blk_set h1 2 _
  have i0 := i.setj h (by exact ni3 _ _ _ _ _ _ _) 0 (.bool x.b)
  have i1 := i0.setj h0 (by exact ni3 _ _ _ _ _ _ _) 1 (.slice x.a x.n x.c)
  have i2 := i1.setj h1 (by exact ni3 _ _ _ _ _ _ _) 2 (.slice x.d x.m x.e)
  exact i2
theorem below3r {n : Nat} {w0 w : World} {B : Nat} {x : R3} (h : Below n w0 w) (hB : n ≤ B) : Below n w0 ((((w.setCell ⟨B, 0, none⟩ (.bool x.b)).setCell ⟨B, 1, none⟩ (.slice x.a x.n x.c)).setCell ⟨B, 2, none⟩ (.slice x.d x.m x.e))) :=
  ((h.setCell (p := ⟨B, 0, none⟩) hB _).setCell (p := ⟨B, 1, none⟩) hB _).setCell (p := ⟨B, 2, none⟩) hB _
theorem fac3 {w : World} {B T : Nat} {x : R3} (h : w.heap[B]? = some (.cells #[.bool x.b, .slice x.a x.n x.c, .slice x.d x.m x.e] T (0, 0))) : w.cell? ⟨B, 0, none⟩ = some (.bool x.b) ∧ w.cell? ⟨B, 1, none⟩ = some (.slice x.a x.n x.c) ∧ w.cell? ⟨B, 2, none⟩ = some (.slice x.d x.m x.e) ∧ w.frozen? ⟨B, 0, none⟩ = false ∧ w.frozen? ⟨B, 1, none⟩ = false ∧ w.frozen? ⟨B, 2, none⟩ = false :=
  ⟨blk_cell h 0 _ rfl, blk_cell h 1 _ rfl, blk_cell h 2 _ rfl, blk_frozen h 0, blk_frozen h 1, blk_frozen h 2⟩
theorem ni6 (b1 : Bool) (a1 : Option Addr) (n1 c1 : Nat) (d1 : Option Addr) (m1 e1 : Nat) (b2 : Bool) (a2 : Option Addr) (n2 c2 : Nat) (d2 : Option Addr) (m2 e2 : Nat) : noInt #[.bool b1, .slice a1 n1 c1, .slice d1 m1 e1, .bool b2, .slice a2 n2 c2, .slice d2 m2 e2] := by
  intro i k x
  match i with
  | 0 => simp
  | 1 => simp
  | 2 => simp
  | 3 => simp
  | 4 => simp
  | 5 => simp
  | i + 6 => simp
theorem set6r {w : World} {B T : Nat} {p q x y : R3} (h : w.heap[B]? = some (.cells #[.bool p.b, .slice p.a p.n p.c, .slice p.d p.m p.e, .bool q.b, .slice q.a q.n q.c, .slice q.d q.m q.e] T (0, 0))) : (((((((w.setCell ⟨B, 0, none⟩ (.bool x.b)).setCell ⟨B, 1, none⟩ (.slice x.a x.n x.c)).setCell ⟨B, 2, none⟩ (.slice x.d x.m x.e)).setCell ⟨B, 3, none⟩ (.bool y.b)).setCell ⟨B, 4, none⟩ (.slice y.a y.n y.c)).setCell ⟨B, 5, none⟩ (.slice y.d y.m y.e))).heap[B]? = some (.cells #[.bool x.b, .slice x.a x.n x.c, .slice x.d x.m x.e, .bool y.b, .slice y.a y.n y.c, .slice y.d y.m y.e] T (0, 0)) := by
  have h0 : (w.setCell ⟨B, 0, none⟩ (.bool x.b)).heap[B]? = some (.cells #[.bool x.b, .slice p.a p.n p.c, .slice p.d p.m p.e, .bool q.b, .slice q.a q.n q.c, .slice q.d q.m q.e] T (0, 0)) := blk_set h 0 _
  have h1 : ((w.setCell ⟨B, 0, none⟩ (.bool x.b)).setCell ⟨B, 1, none⟩ (.slice x.a x.n x.c)).heap[B]? = some (.cells #[.bool x.b, .slice x.a x.n x.c, .slice p.d p.m p.e, .bool q.b, .slice q.a q.n q.c, .slice q.d q.m q.e] T (0, 0)) := blk_set h0 1 _
  have h2 : (((w.setCell ⟨B, 0, none⟩ (.bool x.b)).setCell ⟨B, 1, none⟩ (.slice x.a x.n x.c)).setCell ⟨B, 2, none⟩ (.slice x.d x.m x.e)).heap[B]? = some (.cells #[.bool x.b, .slice x.a x.n x.c, .slice x.d x.m x.e, .bool q.b, .slice q.a q.n q.c, .slice q.d q.m q.e] T (0, 0)) := blk_set h1 2 _
  have h3 : ((((w.setCell ⟨B, 0, none⟩ (.bool x.b)).setCell ⟨B, 1, none⟩ (.slice x.a x.n x.c)).setCell ⟨B, 2, none⟩ (.slice x.d x.m x.e)).setCell ⟨B, 3, none⟩ (.bool y.b)).heap[B]? = some (.cells #[.bool x.b, .slice x.a x.n x.c, .slice x.d x.m x.e, .bool y.b, .slice q.a q.n q.c, .slice q.d q.m q.e] T (0, 0)) := blk_set h2 3 _
  have h4 : (((((w.setCell ⟨B, 0, none⟩ (.bool x.b)).setCell ⟨B, 1, none⟩ (.slice x.a x.n x.c)).setCell ⟨B, 2, none⟩ (.slice x.d x.m x.e)).setCell ⟨B, 3, none⟩ (.bool y.b)).setCell ⟨B, 4, none⟩ (.slice y.a y.n y.c)).heap[B]? = some (.cells #[.bool x.b, .slice x.a x.n x.c, .slice x.d x.m x.e, .bool y.b, .slice y.a y.n y.c, .slice q.d q.m q.e] T (0, 0)) := blk_set h3 4 _
  have h5 : ((((((w.setCell ⟨B, 0, none⟩ (.bool x.b)).setCell ⟨B, 1, none⟩ (.slice x.a x.n x.c)).setCell ⟨B, 2, none⟩ (.slice x.d x.m x.e)).setCell ⟨B, 3, none⟩ (.bool y.b)).setCell ⟨B, 4, none⟩ (.slice y.a y.n y.c)).setCell ⟨B, 5, none⟩ (.slice y.d y.m y.e)).heap[B]? = some (.cells #[.bool x.b, .slice x.a x.n x.c, .slice x.d x.m x.e, .bool y.b, .slice y.a y.n y.c, .slice y.d y.m y.e] T (0, 0)) := blk_set h4 5 _
  exact h5
theorem IsRat.set6r {w : World} {v : Value} {r : Rat} {B T : Nat} {p q x y : R3} (i : IsRat w v r) (h : w.heap[B]? = some (.cells #[.bool p.b, .slice p.a p.n p.c, .slice p.d p.m p.e, .bool q.b, .slice q.a q.n q.c, .slice q.d q.m q.e] T (0, 0))) : IsRat (((((((w.setCell ⟨B, 0, none⟩ (.bool x.b)).setCell ⟨B, 1, none⟩ (.slice x.a x.n x.c)).setCell ⟨B, 2, none⟩ (.slice x.d x.m x.e)).setCell ⟨B, 3, none⟩ (.bool y.b)).setCell ⟨B, 4, none⟩ (.slice y.a y.n y.c)).setCell ⟨B, 5, none⟩ (.slice y.d y.m y.e))) v r := by
  have h0 : (w.setCell ⟨B, 0, none⟩ (.bool x.b)).heap[B]? = some (.cells #[.bool x.b, .slice p.a p.n p.c, .slice p.d p.m p.e, .bool q.b, .slice q.a q.n q.c, .slice q.d q.m q.e] T (0, 0)) := blk_set h 0 _
  have h1 : ((w.setCell ⟨B, 0, none⟩ (.bool x.b)).setCell ⟨B, 1, none⟩ (.slice x.a x.n x.c)).heap[B]? = some (.cells #[.bool x.b, .slice x.a x.n x.c, .slice p.d p.m p.e, .bool q.b, .slice q.a q.n q.c, .slice q.d q.m q.e] T (0, 0)) := blk_set h0 1 _
  have h2 : (((w.setCell ⟨B, 0, none⟩ (.bool x.b)).setCell ⟨B, 1, none⟩ (.slice x.a x.n x.c)).setCell ⟨B, 2, none⟩ (.slice x.d x.m x.e)).heap[B]? = some (.cells #[.bool x.b, .slice x.a x.n x.c, .slice x.d x.m x.e, .bool q.b, .slice q.a q.n q.c, .slice q.d q.m q.e] T (0, 0)) := blk_set h1 2 _
  have h3 : ((((w.setCell ⟨B, 0, none⟩ (.bool x.b)).setCell ⟨B, 1, none⟩ (.slice x.a x.n x.c)).setCell ⟨B, 2, none⟩ (.slice x.d x.m x.e)).setCell ⟨B, 3, none⟩ (.bool y.b)).heap[B]? = some (.cells #[.bool x.b, .slice x.a x.n x.c, .slice x.d x.m x.e, .bool y.b, .slice q.a q.n q.c, .slice q.d q.m q.e] T (0, 0)) := blk_set h2 3 _
  have h4 : (((((w.setCell ⟨B, 0, none⟩ (.bool x.b)).setCell ⟨B, 1, none⟩ (.slice x.a x.n x.c)).setCell ⟨B, 2, none⟩ (.slice x.d x.m x.e)).setCell ⟨B, 3, none⟩ (.bool y.b)).setCell ⟨B, 4, none⟩ (.slice y.a y.n y.c)).heap[B]? = some (.cells #[.bool x.b, .slice x.a x.n x.c, .slice x.d x.m x.e, .bool y.b, .slice y.a y.n y.c, .slice q.d q.m q.e] T (0, 0)) := blk_set h3 4 _
  have h5 : ((((((w.setCell ⟨B, 0, none⟩ (.bool x.b)).setCell ⟨B, 1, none⟩ (.slice x.a x.n x.c)).setCell ⟨B, 2, none⟩ (.slice x.d x.m x.e)).setCell ⟨B, 3, none⟩ (.bool y.b)).setCell ⟨B, 4, none⟩ (.slice y.a y.n y.c)).setCell ⟨B, 5, none⟩ (.slice y.d y.m y.e)).heap[B]? = some (.cells #[.bool x.b, .slice x.a x.n x.c, .slice x.d x.m x.e, .bool y.b, .slice y.a y.n y.c, .slice y.d y.m y.e] T (0, 0)) := blk_set h4 5 _
  have i0 := i.setj h (by exact ni6 _ _ _ _ _ _ _ _ _ _ _ _ _ _) 0 (.bool x.b)
  have i1 := i0.setj h0 (by exact ni6 _ _ _ _ _ _ _ _ _ _ _ _ _ _) 1 (.slice x.a x.n x.c)
  have i2 := i1.setj h1 (by exact ni6 _ _ _ _ _ _ _ _ _ _ _ _ _ _) 2 (.slice x.d x.m x.e)
  have i3 := i2.setj h2 (by exact ni6 _ _ _ _ _ _ _ _ _ _ _ _ _ _) 3 (.bool y.b)
  have i4 := i3.setj h3 (by exact ni6 _ _ _ _ _ _ _ _ _ _ _ _ _ _) 4 (.slice y.a y.n y.c)
  have i5 := i4.setj h4 (by exact ni6 _ _ _ _ _ _ _ _ _ _ _ _ _ _) 5 (.slice y.d y.m y.e)
  exact i5
theorem below6r {n : Nat} {w0 w : World} {B : Nat} {x y : R3} (h : Below n w0 w) (hB : n ≤ B) : Below n w0 (((((((w.setCell ⟨B, 0, none⟩ (.bool x.b)).setCell ⟨B, 1, none⟩ (.slice x.a x.n x.c)).setCell ⟨B, 2, none⟩ (.slice x.d x.m x.e)).setCell ⟨B, 3, none⟩ (.bool y.b)).setCell ⟨B, 4, none⟩ (.slice y.a y.n y.c)).setCell ⟨B, 5, none⟩ (.slice y.d y.m y.e))) :=
  (((((h.setCell (p := ⟨B, 0, none⟩) hB _).setCell (p := ⟨B, 1, none⟩) hB _).setCell (p := ⟨B, 2, none⟩) hB _).setCell (p := ⟨B, 3, none⟩) hB _).setCell (p := ⟨B, 4, none⟩) hB _).setCell (p := ⟨B, 5, none⟩) hB _
theorem fac6 {w : World} {B T : Nat} {x y : R3} (h : w.heap[B]? = some (.cells #[.bool x.b, .slice x.a x.n x.c, .slice x.d x.m x.e, .bool y.b, .slice y.a y.n y.c, .slice y.d y.m y.e] T (0, 0))) : w.cell? ⟨B, 0, none⟩ = some (.bool x.b) ∧ w.cell? ⟨B, 1, none⟩ = some (.slice x.a x.n x.c) ∧ w.cell? ⟨B, 2, none⟩ = some (.slice x.d x.m x.e) ∧ w.cell? ⟨B, 3, none⟩ = some (.bool y.b) ∧ w.cell? ⟨B, 4, none⟩ = some (.slice y.a y.n y.c) ∧ w.cell? ⟨B, 5, none⟩ = some (.slice y.d y.m y.e) ∧ w.frozen? ⟨B, 0, none⟩ = false ∧ w.frozen? ⟨B, 1, none⟩ = false ∧ w.frozen? ⟨B, 2, none⟩ = false ∧ w.frozen? ⟨B, 3, none⟩ = false ∧ w.frozen? ⟨B, 4, none⟩ = false ∧ w.frozen? ⟨B, 5, none⟩ = false :=
  ⟨blk_cell h 0 _ rfl, blk_cell h 1 _ rfl, blk_cell h 2 _ rfl, blk_cell h 3 _ rfl, blk_cell h 4 _ rfl, blk_cell h 5 _ rfl, blk_frozen h 0, blk_frozen h 1, blk_frozen h 2, blk_frozen h 3, blk_frozen h 4, blk_frozen h 5⟩
set_option maxRecDepth 100000 in
set_option maxHeartbeats 1000000 in
theorem rlo_any (lo hi : Rat) (v : Value) (w : World) (h : IsRng w v lo hi) : Calls Try.prog 25 #[v] w (RetRat lo w) := by
  obtain ⟨x, y, rfl, h1, h2⟩ := h
  have H1 := Lib.hid h1
  clear h1
  clear h2
  go_enter Try.func25, Try.ntmps25
  go_wp2_with fail
  refine bodyPost_ret (v := x.val) (by simp [results, Try.results25, go_sem]) rfl ⟨_, rfl, H1.out.below (below2 _ _ _), below2 _ _ _⟩
set_option maxRecDepth 100000 in
set_option maxHeartbeats 1000000 in
theorem rhi_any (lo hi : Rat) (v : Value) (w : World) (h : IsRng w v lo hi) : Calls Try.prog 20 #[v] w (RetRat hi w) := by
  obtain ⟨x, y, rfl, h1, h2⟩ := h
  have H1 := Lib.hid h2
  clear h2
  clear h1
  go_enter Try.func20, Try.ntmps20
  go_wp2_with fail
  refine bodyPost_ret (v := y.val) (by simp [results, Try.results20, go_sem]) rfl ⟨_, rfl, H1.out.below (below2 _ _ _), below2 _ _ _⟩
set_option maxRecDepth 100000 in
set_option maxHeartbeats 1000000 in
theorem only_any (q : Rat) (v : Value) (w : World) (h : IsRat w v q) : Calls Try.prog 17 #[v] w (RetRng q q w) := by
  obtain ⟨x, rfl⟩ := h.open3
  have H1 := Lib.hid h
  clear h
  go_enter Try.func17, Try.ntmps17
  go_wp2_with fail
  refine bodyPost_ret (v := rngV x x) (by simp [results, Try.results17, go_sem]) rfl ⟨_, rfl, ⟨x, x, rfl, H1.out.below (below2 _ _ _), H1.out.below (below2 _ _ _)⟩, below2 _ _ _⟩
set_option maxRecDepth 100000 in
set_option maxHeartbeats 1000000 in
theorem one_any (w : World) : Calls Try.prog 70 #[] w (RetRat 1 w) := by
  go_enter Try.func70, Try.ntmps70
  go_wp2_with fail
  refine (int_any 1 _ (by omega) (by omega)).mono ?_
  rintro e w1 ⟨v, rfl, hv, hb⟩
  have E : Hid (w1.heap[w.heap.size]? = some (.cells r30.arr 56 (0, 0))) := blk_keep (blk_new w _ _) hb (by rw [World.size_alloc]; omega)
  have HB := Lib.hid (bt (below1 w _) hb)
  have hv' : IsRat w1 v 1 := hv
  obtain ⟨x, rfl⟩ := hv'.open3
  have HV := Lib.hid hv'
  clear hv hv' hb
  obtain ⟨g0, g1, g2, f0, f1, f2⟩ := fac3 (x := r30) E.out
  go_wp2_with fail
  obtain ⟨h0, h1, h2, _, _, _⟩ := fac3 (x := x) (set3r (x := x) E.out)
  refine bodyPost_ret (v := x.val) (by simp [results, Try.results70, go_sem, h0, h1, h2]) rfl ⟨_, rfl, IsRat.set3r HV.out E.out, below3r HB.out (by omega)⟩
theorem boxesF (w : World) (x y : R3) (cs : Array Value) (T : Nat) (W : World) (hW : W = ((w.alloc (.cells x.arr 56)).alloc (.cells y.arr 56)).alloc (.cells cs T)) :
    Below w.heap.size w W ∧ W.heap[w.heap.size]? = some (.cells x.arr 56 (0, 0)) ∧ W.heap[w.heap.size + 1]? = some (.cells y.arr 56 (0, 0)) ∧ W.heap[w.heap.size + 1 + 1]? = some (.cells cs T (0, 0)) ∧ W.heap.size = w.heap.size + 3 := by
  subst hW
  have e1 : (w.alloc (.cells x.arr 56)).heap.size = w.heap.size + 1 := World.size_alloc ..
  have e2 : ((w.alloc (.cells x.arr 56)).alloc (.cells y.arr 56)).heap.size = w.heap.size + 1 + 1 := by rw [World.size_alloc, e1]
  have a1 := blk_new w x.arr 56
  have a2 := blk_new (w.alloc (.cells x.arr 56)) y.arr 56
  have a3 := blk_new ((w.alloc (.cells x.arr 56)).alloc (.cells y.arr 56)) cs T
  rw [e1] at a2
  rw [e2] at a3
  have a1' := (heap_alloc_old _ (.cells y.arr 56) (blk_lt a1)).trans a1
  exact ⟨ba (below2 _ _ _), (heap_alloc_old _ _ (blk_lt a1')).trans a1', (heap_alloc_old _ _ (blk_lt a2)).trans a2, a3, by rw [World.size_alloc, e2]⟩
set_option maxRecDepth 100000 in
set_option maxHeartbeats 1000000 in
theorem make_any (lo hi : Rat) (vx vy : Value) (w : World) (hx : IsRat w vx lo) (hy : IsRat w vy hi) (hlx : szR lo 274877906944) (hly : szR hi 274877906944) (hc : cmpR lo hi ≤ 0) :
    Calls Try.prog 84 #[vx, vy] w (RetRngE lo hi 0 w) := by
  obtain ⟨x, rfl⟩ := hx.open3
  obtain ⟨y, rfl⟩ := hy.open3
  have HX := Lib.hid hx
  have HY := Lib.hid hy
  have HLX := Lib.hid hlx
  have HLY := Lib.hid hly
  clear hx hy hlx hly
  have hc' : decide (cmpR lo hi > 0) = false := decide_eq_false (by omega)
  clear hc
  go_enter Try.func84, Try.ntmps84
  go_wp2_with fail
  generalize hW0 : ((w.alloc (.cells x.arr 56)).alloc (.cells y.arr 56)).alloc (.cells _ _) = W at *
  obtain ⟨hal, hB1, hB2, hB3, hWs⟩ := boxesF w _ _ _ _ W hW0.symm
  have HAL := Lib.hid hal
  have HB1 := Lib.hid hB1
  have HB2 := Lib.hid hB2
  have HB3 := Lib.hid hB3
  clear hW0 hal hB1 hB2 hB3 hWs
  refine (cmpRat_any lo hi _ _ _ (HX.out.below HAL.out) (HY.out.below HAL.out) HLX.out HLY.out).mono ?_
  rintro e w1 ⟨rfl, hb⟩
  have D1 := Lib.hid (blk_keep HB1.out hb (blk_lt HB1.out))
  have D2 := Lib.hid (blk_keep HB2.out hb (blk_lt HB2.out))
  have E : Hid (w1.heap[w.heap.size + 1 + 1]? = some (.cells (arr6 r30 r30) 58 (0, 0))) := blk_keep HB3.out hb (blk_lt HB3.out)
  have HB := Lib.hid (bt HAL.out hb)
  have HX1 := Lib.hid (HX.out.below HB.out)
  have HY1 := Lib.hid (HY.out.below HB.out)
  obtain ⟨k0, k1, k2, _, _, _⟩ := fac3 (x := x) D1.out
  obtain ⟨l0, l1, l2, _, _, _⟩ := fac3 (x := y) D2.out
  generalize cmpR lo hi = c at *
  clear hb
  obtain ⟨g0, g1, g2, g3, g4, g5, f0, f1, f2, f3, f4, f5⟩ := fac6 (x := r30) (y := r30) E.out
  go_wp2_with fail
  obtain ⟨h0, h1, h2, h3, h4, h5, _, _, _, _, _, _⟩ := fac6 (x := x) (y := y) (set6r (x := x) (y := y) E.out)
  refine bodyPost_ret (v := (.tuple #[rngV x y, .int .i64 0])) (by simp [results, Try.results84, go_sem, h0, h1, h2, h3, h4, h5]) rfl ⟨_, rfl, ⟨x, y, rfl, IsRat.set6r HX1.out E.out, IsRat.set6r HY1.out E.out⟩, below6r HB.out (by omega)⟩
set_option maxRecDepth 100000 in
set_option maxHeartbeats 1000000 in
theorem span_any (lo hi : Rat) (vx vy : Value) (w : World) (hx : IsRat w vx lo) (hy : IsRat w vy hi) (hlx : szR lo 274877906944) (hly : szR hi 274877906944) (hc : cmpR lo hi ≤ 0) :
    Calls Try.prog 72 #[vx, vy] w (RetRng lo hi w) := by
  obtain ⟨x, rfl⟩ := hx.open3
  obtain ⟨y, rfl⟩ := hy.open3
  have HX := Lib.hid hx
  have HY := Lib.hid hy
  have HLX := Lib.hid hlx
  have HLY := Lib.hid hly
  have HC := Lib.hid hc
  clear hx hy hlx hly hc
  go_enter Try.func72, Try.ntmps72
  go_wp2_with fail
  generalize hW0 : ((w.alloc (.cells x.arr 56)).alloc (.cells y.arr 56)).alloc (.cells _ _) = W at *
  obtain ⟨hal, hB1, hB2, hB3, hWs⟩ := boxesF w _ _ _ _ W hW0.symm
  have HAL := Lib.hid hal
  have HB1 := Lib.hid hB1
  have HB2 := Lib.hid hB2
  have HB3 := Lib.hid hB3
  clear hW0 hal hB1 hB2 hB3 hWs
  refine (make_any lo hi _ _ _ (HX.out.below HAL.out) (HY.out.below HAL.out) HLX.out HLY.out HC.out).mono ?_
  rintro e w1 ⟨v, rfl, ⟨x', y', rfl, hv1, hv2⟩, hb⟩
  have D1 := Lib.hid (blk_keep HB1.out hb (blk_lt HB1.out))
  have D2 := Lib.hid (blk_keep HB2.out hb (blk_lt HB2.out))
  have E : Hid (w1.heap[w.heap.size + 1 + 1]? = some (.cells (arr6 r30 r30) 58 (0, 0))) := blk_keep HB3.out hb (blk_lt HB3.out)
  have HB := Lib.hid (bt HAL.out hb)
  have E4 := Lib.hid ((heap_alloc_old _ (.cells (arr6 x' y') 58) (blk_lt E.out)).trans E.out)
  have HV1 := Lib.hid (hv1.below (below1 _ (.cells (arr6 x' y') 58)))
  have HV2 := Lib.hid (hv2.below (below1 _ (.cells (arr6 x' y') 58)))
  clear hb hv1 hv2
  obtain ⟨g0, g1, g2, g3, g4, g5, f0, f1, f2, f3, f4, f5⟩ := fac6 (x := r30) (y := r30) E4.out
  go_wp2_with fail
  obtain ⟨h0, h1, h2, h3, h4, h5, _, _, _, _, _, _⟩ := fac6 (x := x') (y := y') (set6r (x := x') (y := y') E4.out)
  refine bodyPost_ret (v := (rngV x' y')) (by simp [results, Try.results72, go_sem, h0, h1, h2, h3, h4, h5]) rfl ⟨_, rfl, ⟨x', y', rfl, IsRat.set6r HV1.out E4.out, IsRat.set6r HV2.out E4.out⟩, below6r (ba HB.out) (by omega)⟩
end Go.Proofs.Ytmfochplnchgcaa
