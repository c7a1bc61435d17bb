/- Part f of the lemmas and walks. -/
import Derived.Laws.StructEq
import Derived.Test.YtdjdnfjgklaneaaGa
import Derived.Test.YtdjdnfjgklaneaaGb
import Derived.Test.YtdjdnfjgklaneaaGc
import Derived.Test.YtdjdnfjgklaneaaGd
import Derived.Test.YtdjdnfjgklaneaaGe

/- HOW MORE ARGUMENTS OF A ROW ARE OPENED: slices of pairs of integers. -/
namespace Go.Proofs.Ytdjdnfjgklaneaa
open Go.ChangeShapes Go.WideShapes Go.ChangeAt Go.RowKit

section
variable {H : Type} {enc : TypeId × Value → H} {w : World}
set_option maxRecDepth 100000 in
theorem law_pair {t : TypeId} {f0 f1 : Field} (hu : Try.prog.underlying t = some (.struct #[f0, f1])) (ho : f0.offset = 0 ∧ f0.type = 3 ∧ f1.offset = 1 ∧ f1.type = 3) (hc : Try.prog.cellsOf t = 2)
    (n : Nat) (cs : List Value) (y : DataW H × List MemPlace) (h : DataW.trod enc Try.prog w 0 (fun _ => true) true n t cs = some y) : ∃ a b, cs = [.int .i64 a, .int .i64 b] ∧ i64R a ∧ i64R b := by
  obtain ⟨o0, t0, o1, t1⟩ := ho
  obtain ⟨xs, m, _, _, hcl, hxl, hf⟩ := DataW.trod_struct hu h
  rw [hc] at hcl
  have f0' := hf 0 f0 rfl
  have f1' := hf 1 f1 rfl
  rw [o0, t0] at f0'
  rw [o1, t1] at f1'
  match cs, hcl, xs, hxl with
  | [c0, c1], _, [x0, x1], _ =>
    simp only [cells_int, List.drop_zero, List.take_succ_cons, List.take_zero, List.drop_succ_cons] at f0' f1'
    obtain ⟨a, e0, _, wa⟩ := DataW.trod_int Try.underlying3 f0'
    obtain ⟨b, e1, _, wb⟩ := DataW.trod_int Try.underlying3 f1'
    simp at e0 e1
    exact ⟨a, b, by rw [e0, e1], i64R_of wa, i64R_of wb⟩
set_option maxRecDepth 100000 in
/-- An argument of pairs. -/
theorem open_pairs {r : Reach} {b0 : Nat} {t s : TypeId} {f0 f1 : Field} (hs : Try.prog.underlying s = some (.slice t)) (hu : Try.prog.underlying t = some (.struct #[f0, f1])) (ho : f0.offset = 0 ∧ f0.type = 3 ∧ f1.offset = 1 ∧ f1.type = 3) (hc : Try.prog.cellsOf t = 2)
    {v : Value} {d : DataW H} {p : List MemPlace} (hv : Value.okWide Try.prog w r b0 s v) (h : DataW.Trod enc Try.prog w 0 (fun _ => true) true s v d p) :
    ∃ ps, PairsOf w v ps ∧ ∀ i, i < ps.length → i64R (ps.getD i (0, 0)).1 ∧ i64R (ps.getD i (0, 0)).2 := by
  obtain ⟨ao, len, cap, rfl, hl, hm, hE⟩ := open_rows hs hc (by omega) (fun cs => ∃ a b, cs = [.int .i64 a, .int .i64 b] ∧ i64R a ∧ i64R b) (law_pair hu ho hc) hv h
  rcases Nat.eq_zero_or_pos len with h0 | hp
  · subst h0
    exact ⟨[], ⟨ao, cap, rfl, fun h => absurd h (by simp)⟩, fun i hi => absurd hi (by simp)⟩
  · obtain ⟨b, off, rfl, hb, hi⟩ := hE hp
    obtain ⟨ps, hlen, hps⟩ := choose_list len (0, 0) (fun i (x : Int × Int) => PairAt w b (off + i * 2) x ∧ i64R x.1 ∧ i64R x.2) (fun i hlt => by
      obtain ⟨cs, _, ⟨x, y, rfl, hx, hy⟩, hc⟩ := hi i hlt
      exact ⟨(x, y), ⟨hc 0 (by omega), hc 1 (by omega)⟩, hx, hy⟩)
    subst hlen
    exact ⟨ps, ⟨_, cap, rfl, fun _ => ⟨b, off, rfl, hb, fun i hi => (hps i hi).1⟩⟩, fun i hi => (hps i hi).2⟩
end
end Go.Proofs.Ytdjdnfjgklaneaa

/- THE WALKS OF law06.jobs, THE REFERENCE's CheckJobs AND Bound. -/
namespace Go.Proofs.Ytdjdnfjgklaneaa
open Go.RowKit

/-- Pairs as cells. -/
def pairCells : List (Int × Int) → List Value
  | [] => []
  | r :: l => .int .i64 r.1 :: .int .i64 r.2 :: pairCells l
theorem pairCells_append (a b : List (Int × Int)) : pairCells (a ++ b) = pairCells a ++ pairCells b := by
  induction a with
  | nil => rfl
  | cons r a ih => simp [pairCells, ih]
theorem pairCells_take (ls : List (Int × Int)) (i : Nat) (hi : i < ls.length) : pairCells (ls.take (i + 1)) = pairCells (ls.take i) ++ [.int .i64 (ls.getD i (0, 0)).1, .int .i64 (ls.getD i (0, 0)).2] := by
  rw [List.take_add_one, pairCells_append]
  simp [hi, pairCells]
theorem pairCells_get (ls : List (Int × Int)) : ∀ i, i < ls.length → (pairCells ls)[i * 2]? = some (.int .i64 (ls.getD i (0, 0)).1) ∧ (pairCells ls)[i * 2 + 1]? = some (.int .i64 (ls.getD i (0, 0)).2) := by
  induction ls with
  | nil => intro i hi; simp at hi
  | cons r l ih =>
    intro i hi
    cases i with
    | zero => simp [pairCells]
    | succ i =>
      have := ih i (by simpa using hi)
      simpa [pairCells, Nat.succ_mul] using this
/-- A row that the call owns reads as pairs. -/
theorem PairsOf.ofRow {w : World} {base : Nat} {e : TypeId} {v : Value} {ls : List (Int × Int)} (h : LRow w base e 2 v ls.length (pairCells ls)) : PairsOf w v ls := by
  rcases Nat.eq_zero_or_pos ls.length with h0 | hp
  · rcases h.1.2 with ⟨rfl, _⟩ | ⟨g, cap, cur, rfl, _⟩
    · exact ⟨none, 0, by rw [h0], fun h => absurd h (by omega)⟩
    · exact ⟨_, _, rfl, fun h => absurd h (by omega)⟩
  · obtain ⟨g, cap, rfl⟩ := ownsRow_some h.1 hp
    have hc : ∀ j u, (pairCells ls)[j]? = some u → w.cell? ((⟨g, 0, none⟩ : Addr).add j) = some u := h.1.cells (g := g) rfl
    have hlt : g < w.heap.size := (h.lt rfl).1
    refine ⟨_, _, rfl, fun _ => ⟨g, 0, rfl, hlt, fun i hi => ?_⟩⟩
    obtain ⟨h0, h1⟩ := pairCells_get ls i hi
    have ea : ∀ j, (⟨g, 0, none⟩ : Addr).add j = ⟨g, 0 + j, none⟩ := fun j => by unfold Addr.add; split <;> simp_all
    refine ⟨?_, ?_⟩
    · rw [← ea]; exact hc _ _ h0
    · rw [show 0 + i * 2 + 1 = 0 + (i * 2 + 1) by omega, ← ea]; exact hc _ _ h1
theorem zd2 : ∀ u ∈ (Value.agg #[.int .i64 0, .int .i64 0]).cells.toList, noDig u := by
  intro u hu
  simp [Value.cells] at hu
  rw [hu]
  exact noDig_i64 _
theorem nd2 (a b : Int) : ∀ u ∈ [Value.int .i64 a, Value.int .i64 b], noDig u := by
  intro u hu
  simp at hu
  rcases hu with rfl | rfl <;> exact noDig_i64 _
theorem one2 (a b : Int) : ∀ u ∈ [Value.int .i64 a, Value.int .i64 b], u.oneCell' = true := by simp [Value.oneCell']
theorem info_qjob : (Try.prog.info? 143).map (fun i => (i.zero, i.size, i.bytes)) = some (some (.agg #[.int .i64 0, .int .i64 0]), 2, 16) := by kernel_rfl

def RetPairs (l : List (Int × Int)) (w : World) (e : Ending) (w' : World) : Prop := ∃ v, e = .returned v ∧ PairsOf w' v l ∧ Below w.heap.size w w'

set_option maxHeartbeats 2000000 in
theorem jobs_any (js : List (Int × Int)) (v : Value) (w : World) (h : PairsOf w v js) (hl : js.length ≤ 1000000) : Calls Try.prog 26 #[v] w (RetPairs js w) := by
  obtain ⟨ao, cap, rfl, hE⟩ := h
  have HE := Lib.hid hE
  clear hE
  obtain ⟨i0, hi0, hz0, hz1, hz2⟩ := info_parts info_qjob
  have hzd := zd2
  go_enter Try.func26, Try.ntmps26
  go_wp2_with fail
  go_loopw [3, 8] (fun mv iv wr => ∃ (i : Nat), i ≤ js.length ∧ iv = .int .i64 i ∧ LRow wr w.heap.size 143 2 mv i (pairCells (js.take i)) ∧ Below w.heap.size w wr)
    (fun _ iv _ => js.length - (intOf iv).toNat)
  case atStart => exact ⟨0, Nat.zero_le _, rfl, LRow.nil _ _ _ _, Below.refl _ _⟩
  case round =>
    obtain ⟨i, hi, rfl, hL, hbel⟩ := hrel
    by_cases hlt : i < js.length
    · obtain ⟨b, off, rfl, hbl, hLL⟩ := HE.out (by omega)
      obtain ⟨g0, g1⟩ := (hLL i hlt).below hbel hbl
      have hlt' : (i : Int) < js.length := by omega
      have hge' : (0 : Int) ≤ i := by omega
      have hbl2 : b < wr.heap.size := Nat.lt_of_lt_of_le hbl hbel.size
      have Htk := Lib.hid (pairCells_take js i hlt)
      clear hLL
      generalize (js.getD i (0, 0)).1 = r at *
      generalize (js.getD i (0, 0)).2 = m at *
      have hx1 := (Below.refl wr.heap.size wr).alloc (Nat.le_refl _) (.cells #[.int .i64 r, .int .i64 m] 106)
      have hx2 := hx1.alloc hx1.size (.cells #[.int .i64 r, .int .i64 m] 143)
      have hcn := cell_new2 (wr.alloc (.cells #[.int .i64 r, .int .i64 m] 106)) (.int .i64 r) (.int .i64 m) 143
      rw [World.size_alloc] at hcn
      have HCN := Lib.hid hcn
      have HL2 := Lib.hid (hL.below hx2)
      clear hcn hL hx1
      go_wp2_with (at_builtin; refine wpList_append_lrow _ rfl (.tmp 12) (.tmp 14) 71 rfl w.heap.size 143 i0 _ 2 16 Try.underlying71 hi0 hz0 hz1 hz2 rfl (by decide) hzd _ _ _ rfl HL2.out ⟨wr.heap.size + 1, 0, none⟩ 1 1 [.int .i64 r, .int .i64 m] rfl rfl HCN.out (one2 _ _) (nd2 _ _) (by omega) (by unfold maxLen; omega) (by omega) (by simp; have := hbel.size; omega) ?_)
      intro g cap' w3 hL3 hgr hat
      have hx3 : Below w.heap.size w w3 := (hbel.trans (hx2.mono hbel.size)).grown hgr (by simp; have := hbel.size; omega) (ownBlock_base HL2.out.1)
      go_wp2_with fail
      exact ⟨⟨i + 1, by omega, by go_num, by rw [Htk.out]; exact hL3, hx3⟩, meas_up hlt⟩
    · obtain rfl : i = js.length := by omega
      rw [List.take_length] at hL
      have HP := Lib.hid (PairsOf.ofRow hL)
      clear hL
      go_wp2_with fail
      go_ret
      exact ⟨_, rfl, HP.out, hbel⟩

set_option maxHeartbeats 2000000 in
theorem qcheckJobs_any (js : List (Int × Int)) (ovens : Int) (vj : Value) (w : World) (hj : PairsOf w vj js) : Calls Try.prog 59 #[vj, .int .i64 ovens] w (RetInt (jobsErr js ovens) w) := by
  obtain ⟨ao, cap, rfl, hE⟩ := hj
  have HE := Lib.hid hE
  clear hE
  by_cases h1 : 64 < js.length
  · have t1 : decide ((js.length : Int) > 64) = true := by simp; omega
    have Hr : Hid (jobsErr js ovens = 4) := by show _ = _; unfold jobsErr; rw [if_pos h1]
    clear h1
    go_enter Try.func59, Try.ntmps59
    go_wp2_with fail
    go_ret
    exact ⟨by rw [Hr.out]; rfl, Below.refl _ _⟩
  · have t1 : decide ((js.length : Int) > 64) = false := by simp; omega
    by_cases h2 : ovens < 1
    · have t2 : decide (ovens < 1) = true := decide_eq_true h2
      have Hr : Hid (jobsErr js ovens = 1) := by show _ = _; unfold jobsErr; rw [if_neg h1, if_pos (.inl h2)]
      clear h1 h2
      go_enter Try.func59, Try.ntmps59
      go_wp2_with fail
      go_ret
      exact ⟨by rw [Hr.out]; rfl, Below.refl _ _⟩
    · have t2 : decide (ovens < 1) = false := decide_eq_false h2
      by_cases h3 : 8 < ovens
      · have t3 : decide (ovens > 8) = true := decide_eq_true h3
        have Hr : Hid (jobsErr js ovens = 1) := by show _ = _; unfold jobsErr; rw [if_neg h1, if_pos (.inr h3)]
        clear h1 h2 h3
        go_enter Try.func59, Try.ntmps59
        go_wp2_with fail
        go_ret
        exact ⟨by rw [Hr.out]; rfl, Below.refl _ _⟩
      · have t3 : decide (ovens > 8) = false := decide_eq_false h3
        have Hr : Hid (jobsErr js ovens = firstErr (jobErr js) js.length) := by show _ = _; unfold jobsErr; rw [if_neg h1, if_neg (by omega)]
        have hlen : js.length ≤ 64 := by omega
        clear h1 h2 h3
        go_enter Try.func59, Try.ntmps59
        go_wp2_with fail
        go_loopw [5] (fun iv wr => ∃ (i : Nat), i ≤ js.length ∧ iv = .int .i64 i ∧ Hid (firstErr (jobErr js) i = 0) ∧ Below w.heap.size w wr)
          (fun iv _ => js.length - (intOf iv).toNat)
        case atStart => exact ⟨0, Nat.zero_le _, rfl, rfl, Below.refl _ _⟩
        case round =>
          obtain ⟨i, hi, rfl, hF, hbel⟩ := hrel
          by_cases hlt : i < js.length
          · obtain ⟨b, off, rfl, hbl, hEE⟩ := HE.out (by omega)
            obtain ⟨g0, g1⟩ := (hEE i hlt).below hbel hbl
            have hst := Lib.hid (firstErr_step hF.out)
            have hstay : Hid (jobErr js i ≠ 0 → jobsErr js ovens = jobErr js i) := fun h => by
              rw [Hr.out, ← hst.out]
              exact firstErr_stay (by rw [hst.out]; exact h) hlt
            have hlt' : (i : Int) < js.length := by omega
            have hge' : (0 : Int) ≤ i := by omega
            have hbl2 : b < wr.heap.size := Nat.lt_of_lt_of_le hbl hbel.size
            have Hent : Hid (jobErr js i = if (js.getD i (0, 0)).1 < 0 ∨ 1000000 < (js.getD i (0, 0)).1 ∨ (js.getD i (0, 0)).2 < 0 ∨ 1000000 < (js.getD i (0, 0)).2 then 1 else 0) := rfl
            generalize (js.getD i (0, 0)).1 = r at *
            generalize (js.getD i (0, 0)).2 = m at *
            have hal := hbel.alloc hbel.size (.cells #[.int .i64 r, .int .i64 m] 143)
            clear hEE
            have bad : (r < 0 ∨ 1000000 < r ∨ m < 0 ∨ 1000000 < m) → Hid (jobsErr js ovens = 1) := fun hb => by
              have h : jobErr js i = 1 := by rw [Hent.out, if_pos hb]
              show jobsErr js ovens = 1
              rw [hstay.out (by rw [h]; decide), h]
            by_cases c1 : r < 0
            · have t4 : decide (r < 0) = true := decide_eq_true c1
              have Hv := bad (.inl c1)
              clear c1 bad
              go_wp2_with fail
              go_ret
              exact ⟨by rw [Hv.out]; rfl, hal⟩
            · have t4 : decide (r < 0) = false := decide_eq_false c1
              by_cases c2 : 1000000 < r
              · have t5 : decide (r > 1000000) = true := decide_eq_true c2
                have Hv := bad (.inr (.inl c2))
                clear c1 c2 bad
                go_wp2_with fail
                go_ret
                exact ⟨by rw [Hv.out]; rfl, hal⟩
              · have t5 : decide (r > 1000000) = false := decide_eq_false c2
                by_cases c3 : m < 0
                · have t6 : decide (m < 0) = true := decide_eq_true c3
                  have Hv := bad (.inr (.inr (.inl c3)))
                  clear c1 c2 c3 bad
                  go_wp2_with fail
                  go_ret
                  exact ⟨by rw [Hv.out]; rfl, hal⟩
                · have t6 : decide (m < 0) = false := decide_eq_false c3
                  by_cases c4 : 1000000 < m
                  · have t7 : decide (m > 1000000) = true := decide_eq_true c4
                    have Hv := bad (.inr (.inr (.inr c4)))
                    clear c1 c2 c3 c4 bad
                    go_wp2_with fail
                    go_ret
                    exact ⟨by rw [Hv.out]; rfl, hal⟩
                  · have t7 : decide (m > 1000000) = false := decide_eq_false c4
                    have Hv : Hid (firstErr (jobErr js) (i + 1) = 0) := by
                      show _ = _
                      rw [hst.out, Hent.out, if_neg (by omega)]
                    clear c1 c2 c3 c4 bad
                    go_wp2_with fail
                    exact ⟨⟨i + 1, by omega, by go_num, Hv.out, hal⟩, meas_up hlt⟩
          · obtain rfl : i = js.length := by omega
            have Hf : Hid (jobsErr js ovens = 0) := by show jobsErr js ovens = 0; rw [Hr.out, hF.out]
            clear hF
            go_wp2_with fail
            go_ret
            exact ⟨by rw [Hf.out]; rfl, hbel⟩

end Go.Proofs.Ytdjdnfjgklaneaa

/- THE WALK OF THE REFERENCE's Bound. -/
namespace Go.Proofs.Ytdjdnfjgklaneaa
open Go.RowKit

def sgl (s : Option Nat) : Int := match s with | none => -1 | some i => (i : Int)
theorem sgl_range (js : List (Int × Int)) (ovens : Int) (k : Nat) : -1 ≤ sgl (topTo js ovens k).2 ∧ sgl (topTo js ovens k).2 ≤ k := by
  induction k with
  | zero => simp [topTo, sgl]
  | succ k ih =>
    unfold topTo
    split
    · simp only [sgl]; omega
    · omega

theorem topTo_some {js : List (Int × Int)} {ovens : Int} (h : GoodJobs js ovens) (k i : Nat) (hk : k ≤ js.length) (hs : (topTo js ovens k).2 = some i) : 0 ≤ (topTo js ovens k).1 := by
  induction k with
  | zero => cases hs
  | succ k ih =>
    have := topTo_range h k (by omega)
    unfold topTo at hs ⊢
    split
    · dsimp only; omega
    · rename_i hn
      rw [if_neg hn] at hs
      exact ih (by omega) hs

set_option maxRecDepth 100000 in
set_option maxHeartbeats 8000000 in
theorem qbound_any (js : List (Int × Int)) (ovens : Int) (vj : Value) (w : World) (hj : PairsOf w vj js) :
    Calls Try.prog 28 #[vj, .int .i64 ovens] w (RetBound (boundN js ovens) (boundL js ovens) (jobsErr js ovens) w) := by
  have HJ := Lib.hid hj
  obtain ⟨ao, cap, rfl, hE⟩ := hj
  have HE := Lib.hid hE
  clear hE
  by_cases h0 : jobsErr js ovens = 0
  · have t0 : (jobsErr js ovens != 0) = false := by simp [h0]
    have HG := Lib.hid (jobs_ok h0)
    have Hn : Hid (boundN js ovens = max (topTo js ovens js.length).1 0) := by show _ = _; unfold boundN; rw [if_pos h0]
    have Hl : Hid (boundL js ovens = shownBy js ovens (topTo js ovens js.length).2) := by show _ = _; unfold boundL; rw [if_pos h0]
    have hlen := HG.out.len
    have H0 := Lib.hid h0
    clear h0
    go_enter Try.func28, Try.ntmps28
    go_wp2_with fail
    refine (qcheckJobs_any js ovens _ _ HJ.out).mono ?_
    rintro e w1 ⟨rfl, hb1⟩
    generalize jobsErr js ovens = je at *
    go_wp2_with fail
    go_loopw [8, 9, 10] (fun bv rv iv wr => ∃ (i : Nat), i ≤ js.length ∧ iv = .int .i64 i ∧ bv = .int .i64 (bestTo js ovens i).1 ∧ rv = .int .i64 (bestTo js ovens i).2 ∧ Below w.heap.size w wr)
      (fun _ _ iv _ => js.length - (intOf iv).toNat)
    case atStart => exact ⟨0, Nat.zero_le _, rfl, rfl, rfl, hb1⟩
    case round =>
      clear hb1
      obtain ⟨i, hi, rfl, rfl, rfl, hbel⟩ := hrel
      by_cases hlt : i < js.length
      · obtain ⟨b, off, rfl, hbl, hEE⟩ := HE.out (by omega)
        obtain ⟨g0, g1⟩ := (hEE i hlt).below hbel hbl
        have hlt' : (i : Int) < js.length := by omega
        have hge' : (0 : Int) ≤ i := by omega
        have hjob := HG.out.job i hlt
        have hbr := bestTo_range HG.out i hi
        have Hb1 : Hid (bestTo js ovens (i + 1) = if (bestTo js ovens i).1 < timeFrom js ovens (js.getD i (0, 0)).1 ∨ (timeFrom js ovens (js.getD i (0, 0)).1 = (bestTo js ovens i).1 ∧ (js.getD i (0, 0)).1 < (bestTo js ovens i).2) then (timeFrom js ovens (js.getD i (0, 0)).1, (js.getD i (0, 0)).1) else bestTo js ovens i) := rfl
        have HEE := Lib.hid hEE
        clear hEE
        generalize (js.getD i (0, 0)).1 = r at *
        generalize (js.getD i (0, 0)).2 = m at *
        generalize hbb : bestTo js ovens i = bb at *
        have Hbb := Lib.hid hbb
        clear hbb
        obtain ⟨bn, br⟩ := bb
        dsimp only at hbr
        go_wp2_with fail
        go_loop [12, 13] (fun sv kv => ∃ (k : Nat), k ≤ js.length ∧ kv = .int .i64 k ∧ sv = .int .i64 (sumFrom js r k)) (fun _ kv => js.length - (intOf kv).toNat)
        case atStart => exact ⟨0, Nat.zero_le _, rfl, rfl⟩
        case round =>
          obtain ⟨k, hk, rfl, rfl⟩ := hrel
          by_cases hkl : k < js.length
          · obtain ⟨k0, k1⟩ := (HEE.out k hkl).below hbel hbl
            have hkl' : (k : Int) < js.length := by omega
            have hkg' : (0 : Int) ≤ k := by omega
            have hjk := HG.out.job k hkl
            have hsum := sumFrom_range HG.out r k hk
            have Hs1 : Hid (sumFrom js r (k + 1) = if r ≤ (js.getD k (0, 0)).1 then sumFrom js r k + (js.getD k (0, 0)).2 else sumFrom js r k) := rfl
            generalize (js.getD k (0, 0)).1 = rk at *
            generalize (js.getD k (0, 0)).2 = mk at *
            by_cases hc : r ≤ rk
            · have tc : decide (rk ≥ r) = true := decide_eq_true hc
              have hS1 := Hs1.out
              rw [if_pos hc] at hS1
              have HS1 := Lib.hid hS1
              clear hS1 Hs1 hc
              generalize sumFrom js r k = S at *
              go_wp2_with fail
              exact ⟨⟨k + 1, by omega, by go_num, by rw [HS1.out]⟩, meas_up hkl⟩
            · have tc : decide (rk ≥ r) = false := decide_eq_false hc
              have hS1 := Hs1.out
              rw [if_neg hc] at hS1
              have HS1 := Lib.hid hS1
              clear hS1 Hs1 hc
              generalize sumFrom js r k = S at *
              go_wp2_with fail
              exact ⟨⟨k + 1, by omega, by go_num, by rw [HS1.out]⟩, meas_up hkl⟩
          · obtain rfl : k = js.length := by omega
            have hsum := sumFrom_range HG.out r js.length (Nat.le_refl _)
            have ho1 := HG.out.o1
            have ho8 := HG.out.o8
            have Ht : Hid (r + (sumFrom js r js.length + ovens - 1) / ovens = timeFrom js ovens r) := rfl
            generalize sumFrom js r js.length = S at *
            have hw1 : IntKind.i64.wrap (S + ovens) = S + ovens := IntWalk.i64_in _ (by omega)
            have hw2 : IntKind.i64.wrap (S + ovens - 1) = S + ovens - 1 := IntWalk.i64_in _ (by omega)
            have hne : ovens ≠ 0 := by omega
            have hq0 := Int.ediv_nonneg (show 0 ≤ S + ovens - 1 by omega) (show 0 ≤ ovens by omega)
            have hq1 := Int.ediv_le_self ovens (show 0 ≤ S + ovens - 1 by omega)
            have hw3 : IntKind.i64.wrap (r + (S + ovens - 1) / ovens) = r + (S + ovens - 1) / ovens := IntWalk.i64_in _ (by omega)
            have hw4 : wrap64 (r + (S + ovens - 1) / ovens) = r + (S + ovens - 1) / ovens := (IntWalk.i64_left _).symm.trans hw3
            have htf := timeFrom_range HG.out hjob.1 hjob.2.1
            rw [← Ht.out] at htf Hb1
            clear hq0 hq1
            by_cases c1 : bn < r + (S + ovens - 1) / ovens
            · have t1 : decide (r + (S + ovens - 1) / ovens > bn) = true := decide_eq_true c1
              have hB := Hb1.out
              rw [if_pos (.inl c1)] at hB
              have HB := Lib.hid hB
              clear hB Hb1 c1
              go_wp2_with fail
              exact ⟨⟨i + 1, by omega, by go_num, by rw [HB.out], by rw [HB.out], hbel⟩, meas_up hlt⟩
            · have t1 : decide (r + (S + ovens - 1) / ovens > bn) = false := decide_eq_false c1
              by_cases c2 : r + (S + ovens - 1) / ovens = bn
              · have t2 : (r + (S + ovens - 1) / ovens == bn) = true := beq_iff_eq.2 c2
                by_cases c3 : r < br
                · have t3 : decide (r < br) = true := decide_eq_true c3
                  have hB := Hb1.out
                  rw [if_pos (.inr ⟨c2, c3⟩)] at hB
                  have HB := Lib.hid hB
                  clear hB Hb1 c1 c2 c3
                  go_wp2_with fail
                  exact ⟨⟨i + 1, by omega, by go_num, by rw [HB.out], by rw [HB.out], hbel⟩, meas_up hlt⟩
                · have t3 : decide (r < br) = false := decide_eq_false c3
                  have hB := Hb1.out
                  rw [if_neg (fun h => h.elim c1 (fun h => c3 h.2))] at hB
                  have HB := Lib.hid hB
                  clear hB Hb1 c1 c2 c3
                  go_wp2_with fail
                  exact ⟨⟨i + 1, by omega, by go_num, by rw [HB.out], by rw [HB.out], hbel⟩, meas_up hlt⟩
              · have t2 : (r + (S + ovens - 1) / ovens == bn) = false := beq_eq_false_iff_ne.2 c2
                have hB := Hb1.out
                rw [if_neg (fun h => h.elim c1 (fun h => c2 h.1))] at hB
                have HB := Lib.hid hB
                clear hB Hb1 c1 c2
                go_wp2_with fail
                exact ⟨⟨i + 1, by omega, by go_num, by rw [HB.out], by rw [HB.out], hbel⟩, meas_up hlt⟩
      · obtain rfl : i = js.length := by omega
        have HX := Lib.hid hbel
        have hT0 : (bestTo js ovens js.length).1 = (topTo js ovens 0).1 := rfl
        rw [hT0]
        clear hT0
        have hm1 : (-1 : Int) = sgl (topTo js ovens 0).2 := rfl
        have Hm1 := Lib.hid hm1
        clear hm1
        go_wp2_with fail
        rw [Hm1.out]
        go_loopw [8, 15, 16] (fun bv sv iv wr => ∃ (i : Nat), i ≤ js.length ∧ iv = .int .i64 i ∧ bv = .int .i64 (topTo js ovens i).1 ∧ sv = .int .i64 (sgl (topTo js ovens i).2) ∧ Below w.heap.size w wr)
          (fun _ _ iv _ => js.length - (intOf iv).toNat)
        case atStart => exact ⟨0, Nat.zero_le _, rfl, rfl, rfl, hbel⟩
        case round =>
          clear HX Hm1 hbel hi hlt
          obtain ⟨i, hi, rfl, rfl, rfl, hbel⟩ := hrel
          by_cases hlt : i < js.length
          · obtain ⟨b, off, rfl, hbl, hEE⟩ := HE.out (by omega)
            obtain ⟨g0, g1⟩ := (hEE i hlt).below hbel hbl
            have hlt' : (i : Int) < js.length := by omega
            have hge' : (0 : Int) ≤ i := by omega
            have hjob := HG.out.job i hlt
            have htr := topTo_range HG.out i hi
            have Hb1 : Hid (topTo js ovens (i + 1) = if (topTo js ovens i).1 < (js.getD i (0, 0)).1 + (js.getD i (0, 0)).2 then ((js.getD i (0, 0)).1 + (js.getD i (0, 0)).2, some i) else topTo js ovens i) := rfl
            clear hEE
            generalize (js.getD i (0, 0)).1 = r at *
            generalize (js.getD i (0, 0)).2 = m at *
            have hws : IntKind.i64.wrap (r + m) = r + m := IntWalk.i64_in _ (by omega)
            by_cases c1 : (topTo js ovens i).1 < r + m
            · have t1 : decide (r + m > (topTo js ovens i).1) = true := decide_eq_true c1
              have hB := Hb1.out
              rw [if_pos c1] at hB
              have HB := Lib.hid hB
              clear hB Hb1 c1
              go_wp2_with fail
              go_region
              go_wp2_with fail
              exact ⟨⟨i + 1, by omega, by go_num, by rw [HB.out], by rw [HB.out]; rfl, hbel.drew⟩, meas_up hlt⟩
            · have t1 : decide (r + m > (topTo js ovens i).1) = false := decide_eq_false c1
              have hB := Hb1.out
              rw [if_neg c1] at hB
              have HB := Lib.hid hB
              clear hB Hb1 c1
              go_wp2_with fail
              go_region
              go_wp2_with fail
              exact ⟨⟨i + 1, by omega, by go_num, by rw [HB.out], by rw [HB.out], hbel.drew⟩, meas_up hlt⟩
          · obtain rfl : i = js.length := by omega
            have htr := topTo_range HG.out js.length (Nat.le_refl _)
            have hbr := bestTo_range HG.out js.length (Nat.le_refl _)
            have Hsh : Hid ((topTo js ovens js.length).2 = none → (topTo js ovens js.length).1 = (bestTo js ovens js.length).1) := by
              show _ → _
              have key : ∀ k, (topTo js ovens k).2 = none → (topTo js ovens k).1 = (bestTo js ovens js.length).1 := by
                intro k
                induction k with
                | zero => intro _; rfl
                | succ k ih =>
                  unfold topTo
                  split
                  · intro h; cases h
                  · exact ih
              exact key _
            generalize htp : topTo js ovens js.length = tp at *
            obtain ⟨tn, ts⟩ := tp
            have Htp := Lib.hid htp
            clear htp
            dsimp only at htr
            cases ts with
            | some i0 =>
              have hi0 : (i0 : Int) ≤ js.length := by
                have := sgl_range js ovens js.length
                rw [Htp.out] at this
                exact this.2
              have hmx := topTo_some HG.out js.length i0 (Nat.le_refl _) (by rw [Htp.out])
              rw [Htp.out] at hmx
              have Hmx : Hid (max tn 0 = tn) := by show max tn 0 = tn; dsimp only at hmx; omega
              have Hn2 : Hid (boundN js ovens = tn) := by show _ = _; rw [Hn.out]; exact Hmx.out
              have Hl2 : Hid (boundL js ovens = [i0]) := by show _ = _; rw [Hl.out]; rfl
              clear hmx
              have t1 : decide ((0 : Int) ≤ (i0 : Int)) = true := by simp
              have t2 : decide ((i0 : Int) ≥ 0) = true := by simp
              have hs0 : sgl (some i0) = (i0 : Int) := rfl
              dsimp only
              rw [hs0]
              have hI : IsRow .i64 (wr.alloc (.cells #[.int .i64 (i0 : Int)] 3)) (.slice (some ⟨wr.heap.size, 0, none⟩) 1 1) [i0] :=
                .inr ⟨by simp, wr.heap.size, 0, 1, rfl, by simp, by unfold maxLen; omega, by simp, fun j hj => by
                  obtain rfl : j = 0 := by simp at hj; omega
                  simp⟩
              clear hs0
              go_wp2_with fail
              go_ret3
              exact ⟨_, by rw [Hn2.out, H0.out]; rfl, by rw [Hl2.out]; exact hI, hbel.alloc hbel.size _⟩
            | none =>
              have hs0 : sgl none = -1 := rfl
              dsimp only
              rw [hs0]
              clear hs0
              obtain ⟨i1, hi1, hz0, hz1, hz2⟩ := info_parts info_int
              have hzd : ∀ u ∈ (Value.int .i64 0).cells.toList, noDig u := by
                intro u hu
                simp [Value.cells] at hu
                rw [hu]
                exact noDig_i64 0
              have Hpr : Hid (shownBy js ovens none = idxFrom js (bestTo js ovens js.length).2 js.length) := by
                show proofTo js ovens js.length = _
                unfold proofTo
                split
                · rename_i h0
                  have : js = [] := List.eq_nil_of_length_eq_zero h0
                  subst this
                  rfl
                · rfl
              generalize hbb : bestTo js ovens js.length = bb at *
              obtain ⟨bn, br⟩ := bb
              dsimp only at hbr Hpr ⊢
              have Hn2 : Hid (boundN js ovens = max tn 0) := by show _ = _; rw [Hn.out]
              have Hl2 : Hid (boundL js ovens = idxFrom js br js.length) := by show _ = _; rw [Hl.out, ← Hpr.out]
              go_wp2_with fail
              go_loopw [18, 19] (fun ov iv wr => ∃ (i : Nat), i ≤ js.length ∧ iv = .int .i64 i ∧ LRow wr w.heap.size 3 1 ov (idxFrom js br i).length (idxCells (idxFrom js br i)) ∧ Below w.heap.size w wr)
                (fun _ iv _ => js.length - (intOf iv).toNat)
              case atStart => exact ⟨0, Nat.zero_le _, rfl, LRow.nil _ _ _ _, hbel⟩
              case round =>
                clear hbel hi hlt
                obtain ⟨i, hi, rfl, hL, hbel⟩ := hrel
                by_cases hlt : i < js.length
                · obtain ⟨b, off, rfl, hbl, hEE⟩ := HE.out (by omega)
                  obtain ⟨g0, g1⟩ := (hEE i hlt).below hbel hbl
                  have hlt' : (i : Int) < js.length := by omega
                  have hge' : (0 : Int) ≤ i := by omega
                  have hil := idxFrom_length js br i
                  have Hi1 : Hid (idxFrom js br (i + 1) = if br ≤ (js.getD i (0, 0)).1 then idxFrom js br i ++ [i] else idxFrom js br i) := rfl
                  clear hEE
                  generalize (js.getD i (0, 0)).1 = rd at *
                  generalize (js.getD i (0, 0)).2 = m at *
                  by_cases hc : br ≤ rd
                  · have tc : decide (rd ≥ br) = true := decide_eq_true hc
                    have hI1 := Hi1.out
                    rw [if_pos hc] at hI1
                    have HI1 := Lib.hid hI1
                    have hx2 := (Below.refl wr.heap.size wr).alloc (Nat.le_refl _) (.cells #[.int .i64 (i : Int)] 3)
                    have HL2 := Lib.hid (hL.below hx2)
                    clear hI1 Hi1 hc hL
                    go_wp2_with (at_builtin; refine wpList_append_lrow _ rfl (.tmp 120) (.tmp 122) 73 rfl w.heap.size 3 i1 (.int .i64 0) 1 8 Try.underlying73 hi1 hz0 hz1 hz2 rfl (by decide) hzd _ _ _ rfl HL2.out ⟨wr.heap.size, 0, none⟩ 1 1 [.int .i64 (i : Int)] rfl rfl (cell_one_new _ _ _) (by simp [Value.oneCell']) (by intro u hu; simp at hu; rw [hu]; exact noDig_i64 _) (by omega) (by unfold maxLen; omega) (by omega) (by simp; have := hbel.size; omega) ?_)
                    intro g cap' w3 hL3 hgr hat
                    have hx3 : Below w.heap.size w w3 := (hbel.trans (hx2.mono hbel.size)).grown hgr (by simp; have := hbel.size; omega) (ownBlock_base HL2.out.1)
                    go_wp2_with fail
                    exact ⟨⟨i + 1, by omega, by go_num, by rw [HI1.out]; simpa [idxCells] using hL3, hx3⟩, meas_up hlt⟩
                  · have tc : decide (rd ≥ br) = false := decide_eq_false hc
                    have hI1 := Hi1.out
                    rw [if_neg hc] at hI1
                    have HI1 := Lib.hid hI1
                    clear hI1 Hi1 hc
                    go_wp2_with fail
                    exact ⟨⟨i + 1, by omega, by go_num, by rw [HI1.out]; exact hL, hbel⟩, meas_up hlt⟩
                · obtain rfl : i = js.length := by omega
                  have HL := Lib.hid hL.isRow
                  clear hL
                  go_wp2_with fail
                  go_ret3
                  exact ⟨_, by rw [Hn2.out, H0.out]; rfl, by rw [Hl2.out]; exact HL.out, hbel⟩
  · have t0 : (jobsErr js ovens != 0) = true := by simp [h0]
    have Hn : Hid (boundN js ovens = 0) := by show _ = _; unfold boundN; rw [if_neg h0]
    have Hl : Hid (boundL js ovens = []) := by show _ = _; unfold boundL; rw [if_neg h0]
    clear h0
    go_enter Try.func28, Try.ntmps28
    go_wp2_with fail
    refine (qcheckJobs_any js ovens _ _ HJ.out).mono ?_
    rintro e w1 ⟨rfl, hb1⟩
    generalize jobsErr js ovens = je at *
    go_wp2_with fail
    go_ret3
    exact ⟨.slice none 0 0, by rw [Hn.out]; rfl, by rw [Hl.out]; exact IsRow.nil _ _, hb1⟩

end Go.Proofs.Ytdjdnfjgklaneaa

/- THE WALK OF store.Greedy. -/
namespace Go.Proofs.Ytdjdnfjgklaneaa
open Go.RowKit

/-- The oven that is free first, of the first k. -/
def bestIx (fr : List Nat) : Nat → Nat
  | 0 => 0
  | k + 1 => if fr.getD k 0 < fr.getD (bestIx fr k) 0 then k else bestIx fr k
theorem bestIx_lt (fr : List Nat) (k : Nat) (hk : 0 < k) : bestIx fr k < k := by
  induction k with
  | zero => omega
  | succ k ih =>
    unfold bestIx
    split
    · omega
    · rcases Nat.eq_zero_or_pos k with h | h
      · subst h; simp [bestIx]
      · have := ih h; omega
theorem bestIx_le (fr : List Nat) (k n : Nat) (hk : k ≤ n) (hn : 0 < n) : bestIx fr k < n := by
  rcases Nat.eq_zero_or_pos k with h | h
  · subst h; simpa [bestIx] using hn
  · have := bestIx_lt fr k h; omega
/-- When the ovens are free behind the first i jobs. -/
def freeTo (js : List (Int × Int)) (n : Nat) : Nat → List Nat
  | 0 => List.replicate n 0
  | i + 1 => (freeTo js n i).set (bestIx (freeTo js n i) n) (max ((freeTo js n i).getD (bestIx (freeTo js n i) n) 0) (js.getD i (0, 0)).1.toNat + (js.getD i (0, 0)).2.toNat)
/-- The plan for the first i jobs. -/
def planTo (js : List (Int × Int)) (n : Nat) : Nat → List (Int × Int)
  | 0 => []
  | i + 1 => planTo js n i ++ [(((bestIx (freeTo js n i) n : Nat) : Int), ((max ((freeTo js n i).getD (bestIx (freeTo js n i) n) 0) (js.getD i (0, 0)).1.toNat : Nat) : Int))]
theorem planTo_length (js : List (Int × Int)) (n : Nat) (i : Nat) : (planTo js n i).length = i := by
  induction i with
  | zero => rfl
  | succ i ih => simp [planTo, ih]
theorem freeTo_length (js : List (Int × Int)) (n : Nat) (i : Nat) : (freeTo js n i).length = n := by
  induction i with
  | zero => simp [freeTo]
  | succ i ih => simp [freeTo, ih]
theorem freeTo_le {js : List (Int × Int)} {ovens : Int} (h : GoodJobs js ovens) (n : Nat) (i : Nat) (hi : i ≤ js.length) (k : Nat) : (freeTo js n i).getD k 0 ≤ 2000000 * i := by
  induction i generalizing k with
  | zero =>
    simp only [freeTo, List.getD, List.getElem?_replicate]
    split <;> simp
  | succ i ih =>
    have hj := h.job i (by omega)
    have h1 := ih (by omega) (bestIx (freeTo js n i) n)
    have h2 := ih (by omega) k
    unfold freeTo
    have e : ∀ (l : List Nat) (b x k : Nat), (l.set b x).getD k 0 ≤ max x (l.getD k 0) := by
      intro l b x k
      simp only [List.getD, List.getElem?_set]
      split
      · split
        · simp; omega
        · simp
      · omega
    have := e (freeTo js n i) (bestIx (freeTo js n i) n) (max ((freeTo js n i).getD (bestIx (freeTo js n i) n) 0) (js.getD i (0, 0)).1.toNat + (js.getD i (0, 0)).2.toNat) k
    omega
def greedyL (js : List (Int × Int)) (ovens : Int) : List (Int × Int) := if jobsErr js ovens = 0 then planTo js ovens.toNat js.length else []

/-- What Greedy hands back. -/
def RetPlan (l : List (Int × Int)) (err : Int) (w : World) (e : Ending) (w' : World) : Prop :=
  ∃ v, e = .returned (.tuple #[v, .int .i64 err]) ∧ PairsOf w' v l ∧ Below w.heap.size w w'
theorem PairsOf.nil (w : World) : PairsOf w (.slice none 0 0) [] := ⟨none, 0, rfl, fun h => absurd h (by simp)⟩

theorem info_slot : (Try.prog.info? 79).map (fun i => (i.zero, i.size, i.bytes)) = some (some (.agg #[.int .i64 0, .int .i64 0]), 2, 16) := by kernel_rfl

/-- A row of another type is not the block of the free times. -/
theorem LRow.not_own {w : World} {base : Nat} {e : TypeId} {s : Nat} {v : Value} {n : Nat} {xs : List Value} (h : LRow w base e s v n xs) {g : Nat} {t : TypeId} {ds : List Nat} (k : Own w g .i64 t ds) (hne : e ≠ t) : some g ≠ v.ownBlock := by
  intro e1
  obtain ⟨tl, hk⟩ := k
  rcases h.1.2 with ⟨rfl, _⟩ | ⟨g1, c1, cur1, rfl, _, hh1, _⟩
  · simp [Value.ownBlock] at e1
  · simp [Value.ownBlock] at e1
    subst e1
    rw [hk] at hh1
    simp at hh1
    exact hne hh1.2.symm

set_option maxRecDepth 100000 in
set_option maxHeartbeats 8000000 in
theorem greedy_any (js : List (Int × Int)) (ovens : Int) (vj : Value) (w : World) (hj : PairsOf w vj js) :
    Calls Try.prog 24 #[vj, .int .i64 ovens] w (RetPlan (greedyL js ovens) (jobsErr js ovens) w) := by
  have HJ := Lib.hid hj
  obtain ⟨ao, cap, rfl, hE⟩ := hj
  have HE := Lib.hid hE
  clear hE
  by_cases h0 : jobsErr js ovens = 0
  · have t0 : (jobsErr js ovens != 0) = false := by simp [h0]
    have HG := Lib.hid (jobs_ok h0)
    have Hl0 : Hid (greedyL js ovens = planTo js ovens.toNat js.length) := by show _ = _; unfold greedyL; rw [if_pos h0]
    have hlen := HG.out.len
    have ho1 := HG.out.o1
    have ho8 := HG.out.o8
    have H0 := Lib.hid h0
    clear h0
    obtain ⟨n, rfl⟩ : ∃ n : Nat, ovens = n := ⟨ovens.toNat, by omega⟩
    have Hl : Hid (greedyL js n = planTo js n js.length) := by show _ = _; rw [Hl0.out, Int.toNat_natCast]
    have hn1 : 0 < n := by omega
    have hn8 : n ≤ 8 := by omega
    obtain ⟨iI, hiI, hzI0, hzI1, hzI2⟩ := info_parts info_int
    obtain ⟨i0, hi0, hz0, hz1, hz2⟩ := info_parts info_slot
    have hzd := zd2
    clear Hl0 ho1 ho8
    go_enter Try.func24, Try.ntmps24
    go_wp2_with fail
    refine (checkJobs_any js n _ _ HJ.out).mono ?_
    rintro e w1 ⟨rfl, hb1⟩
    generalize jobsErr js n = je at *
    go_wp2_with (at_make; refine wpList_make_full _ rfl _ _ 73 rfl w1.heap.size 3 iI (.int .i64 0) 1 Try.underlying73 hiI hzI0 hzI1 _ _ _ _ n rfl rfl (by omega) (by omega) (by rw [hzI2]; omega) (by unfold maxLen; omega) (by omega) ?_)
    intro w2 hown2 hgr2
    have ho2 := Own.of_made hown2
    have hx2 : Below w.heap.size w w2 := hb1.grown hgr2 hb1.size (by simp)
    have hgl : w.heap.size ≤ w1.heap.size := hb1.size
    clear hown2 hgr2 hb1
    generalize w1.heap.size = g at *
    go_wp2_with fail
    go_loopw [8, 25] (fun ov iv wr => ∃ (i : Nat), i ≤ js.length ∧ iv = .int .i64 i ∧ LRow wr w.heap.size 79 2 ov i (pairCells (planTo js n i)) ∧ Own wr g .i64 3 (freeTo js n i) ∧ Below w.heap.size w wr)
      (fun _ iv _ => js.length - (intOf iv).toNat)
    case atStart => exact ⟨0, Nat.zero_le _, rfl, LRow.nil _ _ _ _, ho2, hx2⟩
    case round =>
      clear ho2 hx2
      obtain ⟨i, hi, rfl, hL, hO, hbel⟩ := hrel
      by_cases hlt : i < js.length
      · obtain ⟨b, off, rfl, hbl, hEE⟩ := HE.out (by omega)
        obtain ⟨g0, g1⟩ := (hEE i hlt).below hbel hbl
        have hlt' : (i : Int) < js.length := by omega
        have hge' : (0 : Int) ≤ i := by omega
        have hbl2 : b < wr.heap.size := Nat.lt_of_lt_of_le hbl hbel.size
        have hjob := HG.out.job i hlt
        have hfl := freeTo_length js n i
        have hle := freeTo_le HG.out n i hi (bestIx (freeTo js n i) n)
        have Hf1 : Hid (freeTo js n (i + 1) = (freeTo js n i).set (bestIx (freeTo js n i) n) (max ((freeTo js n i).getD (bestIx (freeTo js n i) n) 0) (js.getD i (0, 0)).1.toNat + (js.getD i (0, 0)).2.toNat)) := rfl
        have Hp1 : Hid (planTo js n (i + 1) = planTo js n i ++ [(((bestIx (freeTo js n i) n : Nat) : Int), ((max ((freeTo js n i).getD (bestIx (freeTo js n i) n) 0) (js.getD i (0, 0)).1.toNat : Nat) : Int))]) := rfl
        clear hEE
        generalize (js.getD i (0, 0)).1 = r at *
        generalize (js.getD i (0, 0)).2 = m at *
        obtain ⟨rn, rfl⟩ : ∃ rn : Nat, r = rn := ⟨r.toNat, by omega⟩
        obtain ⟨mn, rfl⟩ : ∃ mn : Nat, m = mn := ⟨m.toNat, by omega⟩
        simp only [Int.toNat_natCast] at Hf1 Hp1
        have hplen := planTo_length js n i
        generalize planTo js n i = pl at *
        generalize freeTo js n i = fr at *
        have hN := blk_new wr #[.int .i64 (rn : Int), .int .i64 (mn : Int)] 106
        have hal := (Below.refl wr.heap.size wr).alloc (Nat.le_refl _) (.cells #[.int .i64 (rn : Int), .int .i64 (mn : Int)] 106)
        have hO1 : Own (wr.alloc (.cells #[.int .i64 (rn : Int), .int .i64 (mn : Int)] 106)) g .i64 3 fr := hO.alloc _
        have hgw := hO.lt
        have HFL := Lib.hid hfl
        clear hfl
        go_wp2_with fail
        go_loop [11, 31] (fun bv kv => ∃ (k : Nat), k ≤ n ∧ kv = .int .i64 k ∧ bv = .int .i64 ((bestIx fr k : Nat) : Int)) (fun _ kv => n - (intOf kv).toNat)
        case atStart => exact ⟨0, Nat.zero_le _, rfl, rfl⟩
        case round =>
          obtain ⟨k, hk, rfl, rfl⟩ := hrel
          by_cases hkl : k < n
          · have hkl' : (k : Int) < n := by omega
            have hkg' : (0 : Int) ≤ k := by omega
            have hb0 := bestIx_le fr k n hk hn1
            have hb0' : ((bestIx fr k : Nat) : Int) < n := by omega
            have d1 := hO1.cell k (by rw [HFL.out]; exact hkl)
            have d2 := hO1.cell (bestIx fr k) (by rw [HFL.out]; exact hb0)
            have Hb1 : Hid (bestIx fr (k + 1) = if fr.getD k 0 < fr.getD (bestIx fr k) 0 then k else bestIx fr k) := rfl
            generalize bestIx fr k = b0 at *
            generalize fr.getD k 0 = x at *
            generalize fr.getD b0 0 = y at *
            by_cases hc : x < y
            · have tc : decide (x < y) = true := decide_eq_true hc
              have hB := Hb1.out
              rw [if_pos hc] at hB
              have HB := Lib.hid hB
              clear hB Hb1 hc
              go_wp2_with fail
              exact ⟨⟨k + 1, by omega, by go_num, by rw [HB.out]⟩, meas_up hkl⟩
            · have tc : decide (x < y) = false := decide_eq_false hc
              have hB := Hb1.out
              rw [if_neg hc] at hB
              have HB := Lib.hid hB
              clear hB Hb1 hc
              go_wp2_with fail
              exact ⟨⟨k + 1, by omega, by go_num, by rw [HB.out]⟩, meas_up hkl⟩
          · obtain rfl : k = n := by omega
            have hb0 := bestIx_le fr k k hk hn1
            have hb0' : ((bestIx fr k : Nat) : Int) < k := by omega
            have d2 := hO1.cell (bestIx fr k) (by rw [HFL.out]; exact hb0)
            have s0 := blk_cell hN 0 (.int .i64 (rn : Int)) rfl
            have s1 := blk_cell hN 1 (.int .i64 (mn : Int)) rfl
            generalize bestIx fr k = b0 at *
            generalize hy : fr.getD b0 0 = y at *
            have hmx : max (y : Int) (rn : Int) = ((max y rn : Nat) : Int) := by omega
            have Hmx : Hid (max y rn ≤ 2000000 * i + 1000000) := by show _ ≤ _; omega
            go_wp2_with fail
            go_region
            have hNd : (wr.alloc (.cells #[.int .i64 (rn : Int), .int .i64 (mn : Int)] 106)).drew.heap[wr.heap.size]? = some (.cells #[.int .i64 (rn : Int), .int .i64 (mn : Int)] 106 (0, 0)) := hN
            have hald := hal.drew
            have hLd := hL.below hald
            have hOd : Own (wr.alloc (.cells #[.int .i64 (rn : Int), .int .i64 (mn : Int)] 106)).drew g .i64 3 fr := hO1
            have hsz : (wr.alloc (.cells #[.int .i64 (rn : Int), .int .i64 (mn : Int)] 106)).drew.heap.size = wr.heap.size + 1 := World.size_alloc _ _
            have HLlt := Lib.hid (fun q (hq : u8.ownBlock = some q) => (hL.lt hq).1)
            clear hN hal hL hO hO1 s0 s1 d2
            generalize (wr.alloc (.cells #[.int .i64 (rn : Int), .int .i64 (mn : Int)] 106)).drew = W3 at *
            have hx4 := (Below.refl W3.heap.size W3).alloc (Nat.le_refl _) (.cells #[.int .i64 (b0 : Int), .int .i64 ((max y rn : Nat) : Int)] 79)
            have HL4 := Lib.hid (hLd.below hx4)
            have hO4 := hOd.alloc (.cells #[.int .i64 (b0 : Int), .int .i64 ((max y rn : Nat) : Int)] 79)
            have hN4 := blk_keep hNd hx4 (blk_lt hNd)
            have HSZ := Lib.hid hsz
            have hbW : w.heap.size ≤ W3.heap.size := by have := hbel.size; omega
            clear hsz
            go_wp2_with (at_builtin; refine wpList_append_lrow _ rfl (.tmp 51) (.tmp 55) 65 rfl w.heap.size 79 i0 _ 2 16 Try.underlying65 hi0 hz0 hz1 hz2 rfl (by decide) hzd _ _ _ rfl HL4.out ⟨W3.heap.size, 0, none⟩ 1 1 [.int .i64 (b0 : Int), .int .i64 ((max y rn : Nat) : Int)] rfl rfl (cell_new2 _ _ _ _) (one2 _ _) (nd2 _ _) (by omega) (by unfold maxLen; omega) (by omega) (by simp; omega) ?_)
            intro gs caps w5 hL5 hgr hat
            have hneg : some g ≠ u8.ownBlock := HL4.out.not_own hO4 (by decide)
            have hO5 := hO4.grown hgr hneg
            have hN5 : w5.heap[wr.heap.size]? = some (.cells #[.int .i64 (rn : Int), .int .i64 (mn : Int)] 106 (0, 0)) := by
              rw [hgr.block _ (blk_lt hN4) (fun e => Nat.lt_irrefl _ (HLlt.out _ e.symm))]
              exact hN4
            have q1 := blk_cell hN5 1 (.int .i64 (mn : Int)) rfl
            have c5 := hO5.cell b0 (by rw [HFL.out]; exact hb0)
            have f5 := hO5.frozen b0
            have hx5 : Below w.heap.size w w5 := (hbel.trans ((hald.trans (hx4.mono (by rw [HSZ.out]; omega))).mono hbel.size)).grown hgr (by simp; omega) (ownBlock_base HL4.out.1)
            have hws : IntKind.i64.wrap (((max y rn : Nat) : Int) + (mn : Int)) = ((max y rn + mn : Nat) : Int) := by rw [Int.natCast_add]; exact IntWalk.i64_in _ (by have := Hmx.out; omega)
            have HL5 := Lib.hid hL5
            have HO5 := Lib.hid hO5
            have HF1 := Lib.hid Hf1.out
            clear hO4 hN4 hN5 hgr hx4 hLd hOd hNd hL5 hO5
            go_wp2_with fail
            rw [← Int.natCast_add]
            have hne2 : some g ≠ (Value.slice (some ⟨gs, 0, none⟩) (i + 1) caps).ownBlock := HL5.out.not_own HO5.out (by decide)
            exact ⟨⟨i + 1, by omega, by go_num, by
              rw [Hp1.out, pairCells_append]
              exact HL5.out.keep (fun g' hg' => heap_setCell_other _ _ _ _ (fun e => hne2 (by rw [hg', e]))), by
              rw [Hf1.out]
              exact HO5.out.store b0 _, hx5.setCell (p := ⟨g, b0, none⟩) hgl _⟩, meas_up hlt⟩
      · obtain rfl : i = js.length := by omega
        have HP := Lib.hid (PairsOf.ofRow (by rw [planTo_length]; exact hL))
        clear hL hO
        go_wp2_with fail
        go_ret2
        exact ⟨_, by rw [H0.out]; rfl, by rw [Hl.out]; exact HP.out, hbel⟩
  · have t0 : (jobsErr js ovens != 0) = true := by simp [h0]
    have Hl : Hid (greedyL js ovens = []) := by show _ = _; unfold greedyL; rw [if_neg h0]
    clear h0
    go_enter Try.func24, Try.ntmps24
    go_wp2_with fail
    refine (checkJobs_any js ovens _ _ HJ.out).mono ?_
    rintro e w1 ⟨rfl, hb1⟩
    generalize jobsErr js ovens = je at *
    go_wp2_with fail
    go_ret2
    exact ⟨.slice none 0 0, rfl, by rw [Hl.out]; exact PairsOf.nil _, hb1⟩

end Go.Proofs.Ytdjdnfjgklaneaa

/- THE WALK OF THE REFERENCE's Greedy. -/
namespace Go.Proofs.Ytdjdnfjgklaneaa
open Go.RowKit

theorem info_qslot : (Try.prog.info? 78).map (fun i => (i.zero, i.size, i.bytes)) = some (some (.agg #[.int .i64 0, .int .i64 0]), 2, 16) := by kernel_rfl

set_option maxRecDepth 100000 in
set_option maxHeartbeats 8000000 in
theorem qgreedy_any (js : List (Int × Int)) (ovens : Int) (vj : Value) (w : World) (hj : PairsOf w vj js) :
    Calls Try.prog 25 #[vj, .int .i64 ovens] w (RetPlan (greedyL js ovens) (jobsErr js ovens) w) := by
  have HJ := Lib.hid hj
  obtain ⟨ao, cap, rfl, hE⟩ := hj
  have HE := Lib.hid hE
  clear hE
  by_cases h0 : jobsErr js ovens = 0
  · have t0 : (jobsErr js ovens != 0) = false := by simp [h0]
    have HG := Lib.hid (jobs_ok h0)
    have Hl0 : Hid (greedyL js ovens = planTo js ovens.toNat js.length) := by show _ = _; unfold greedyL; rw [if_pos h0]
    have hlen := HG.out.len
    have ho1 := HG.out.o1
    have ho8 := HG.out.o8
    have H0 := Lib.hid h0
    clear h0
    obtain ⟨n, rfl⟩ : ∃ n : Nat, ovens = n := ⟨ovens.toNat, by omega⟩
    have Hl : Hid (greedyL js n = planTo js n js.length) := by show _ = _; rw [Hl0.out, Int.toNat_natCast]
    have hn1 : 0 < n := by omega
    have hn8 : n ≤ 8 := by omega
    obtain ⟨iI, hiI, hzI0, hzI1, hzI2⟩ := info_parts info_int
    obtain ⟨i0, hi0, hz0, hz1, hz2⟩ := info_parts info_qslot
    have hzd := zd2
    clear Hl0 ho1 ho8
    go_enter Try.func25, Try.ntmps25
    go_wp2_with fail
    refine (qcheckJobs_any js n _ _ HJ.out).mono ?_
    rintro e w1 ⟨rfl, hb1⟩
    generalize jobsErr js n = je at *
    go_wp2_with (at_make; refine wpList_make_full _ rfl _ _ 73 rfl w1.heap.size 3 iI (.int .i64 0) 1 Try.underlying73 hiI hzI0 hzI1 _ _ _ _ n rfl rfl (by omega) (by omega) (by rw [hzI2]; omega) (by unfold maxLen; omega) (by omega) ?_)
    intro w2 hown2 hgr2
    have ho2 := Own.of_made hown2
    have hx2 : Below w.heap.size w w2 := hb1.grown hgr2 hb1.size (by simp)
    have hgl : w.heap.size ≤ w1.heap.size := hb1.size
    clear hown2 hgr2 hb1
    generalize w1.heap.size = g at *
    go_wp2_with fail
    go_loopw [8, 9] (fun ov iv wr => ∃ (i : Nat), i ≤ js.length ∧ iv = .int .i64 i ∧ LRow wr w.heap.size 78 2 ov i (pairCells (planTo js n i)) ∧ Own wr g .i64 3 (freeTo js n i) ∧ Below w.heap.size w wr)
      (fun _ iv _ => js.length - (intOf iv).toNat)
    case atStart => exact ⟨0, Nat.zero_le _, rfl, LRow.nil _ _ _ _, ho2, hx2⟩
    case round =>
      clear ho2 hx2
      obtain ⟨i, hi, rfl, hL, hO, hbel⟩ := hrel
      generalize wr = wo at *
      by_cases hlt : i < js.length
      · obtain ⟨b, off, rfl, hbl, hEE⟩ := HE.out (by omega)
        obtain ⟨g0, g1⟩ := (hEE i hlt).below hbel hbl
        have hlt' : (i : Int) < js.length := by omega
        have hge' : (0 : Int) ≤ i := by omega
        have hbl2 : b < wo.heap.size := Nat.lt_of_lt_of_le hbl hbel.size
        have hjob := HG.out.job i hlt
        have hfl := freeTo_length js n i
        have hle := freeTo_le HG.out n i hi (bestIx (freeTo js n i) n)
        have Hf1 : Hid (freeTo js n (i + 1) = (freeTo js n i).set (bestIx (freeTo js n i) n) (max ((freeTo js n i).getD (bestIx (freeTo js n i) n) 0) (js.getD i (0, 0)).1.toNat + (js.getD i (0, 0)).2.toNat)) := rfl
        have Hp1 : Hid (planTo js n (i + 1) = planTo js n i ++ [(((bestIx (freeTo js n i) n : Nat) : Int), ((max ((freeTo js n i).getD (bestIx (freeTo js n i) n) 0) (js.getD i (0, 0)).1.toNat : Nat) : Int))]) := rfl
        clear hEE
        generalize (js.getD i (0, 0)).1 = r at *
        generalize (js.getD i (0, 0)).2 = m at *
        obtain ⟨rn, rfl⟩ : ∃ rn : Nat, r = rn := ⟨r.toNat, by omega⟩
        obtain ⟨mn, rfl⟩ : ∃ mn : Nat, m = mn := ⟨m.toNat, by omega⟩
        simp only [Int.toNat_natCast] at Hf1 Hp1
        have hplen := planTo_length js n i
        generalize planTo js n i = pl at *
        generalize freeTo js n i = fr at *
        have hgw := hO.lt
        have HFL := Lib.hid hfl
        clear hfl
        go_wp2_with fail
        go_loopw [10, 11] (fun bv kv wq => ∃ (k : Nat), k ≤ n ∧ kv = .int .i64 k ∧ bv = .int .i64 ((bestIx fr k : Nat) : Int) ∧ Below wo.heap.size wo wq) (fun _ kv _ => n - (intOf kv).toNat)
        case atStart => exact ⟨0, Nat.zero_le _, rfl, rfl, Below.refl _ _⟩
        case round =>
          obtain ⟨k, hk, rfl, rfl, hxq⟩ := hrel
          have hOq := hO.below hxq hgw
          by_cases hkl : k < n
          · have hkl' : (k : Int) < n := by omega
            have hkg' : (0 : Int) ≤ k := by omega
            have hb0 := bestIx_le fr k n hk hn1
            have hb0' : ((bestIx fr k : Nat) : Int) < n := by omega
            have d1 := hOq.cell k (by rw [HFL.out]; exact hkl)
            have d2 := hOq.cell (bestIx fr k) (by rw [HFL.out]; exact hb0)
            have Hb1 : Hid (bestIx fr (k + 1) = if fr.getD k 0 < fr.getD (bestIx fr k) 0 then k else bestIx fr k) := rfl
            generalize bestIx fr k = b0 at *
            generalize fr.getD k 0 = x at *
            generalize fr.getD b0 0 = y at *
            by_cases hc : x < y
            · have tc : decide (x < y) = true := decide_eq_true hc
              have hB := Hb1.out
              rw [if_pos hc] at hB
              have HB := Lib.hid hB
              clear hB Hb1 hc
              go_wp2_with fail
              go_region
              go_wp2_with fail
              exact ⟨⟨k + 1, by omega, by go_num, by rw [HB.out], hxq.drew⟩, meas_up hkl⟩
            · have tc : decide (x < y) = false := decide_eq_false hc
              have hB := Hb1.out
              rw [if_neg hc] at hB
              have HB := Lib.hid hB
              clear hB Hb1 hc
              go_wp2_with fail
              go_region
              go_wp2_with fail
              exact ⟨⟨k + 1, by omega, by go_num, by rw [HB.out], hxq.drew⟩, meas_up hkl⟩
          · obtain rfl : k = n := by omega
            have hb0 := bestIx_le fr k k hk hn1
            have hb0' : ((bestIx fr k : Nat) : Int) < k := by omega
            have d2 := hOq.cell (bestIx fr k) (by rw [HFL.out]; exact hb0)
            have e0 := (hxq.cell (p := ⟨b, off + i * 2, none⟩) hbl2).trans g0
            have e1 := (hxq.cell (p := ⟨b, off + i * 2 + 1, none⟩) hbl2).trans g1
            generalize bestIx fr k = b0 at *
            generalize hy : fr.getD b0 0 = y at *
            have hmx : max (y : Int) (rn : Int) = ((max y rn : Nat) : Int) := by omega
            have Hmx : Hid (max y rn ≤ 2000000 * i + 1000000) := by show _ ≤ _; omega
            have hLd := hL.below hxq
            have HLlt := Lib.hid (fun q (hq : u8.ownBlock = some q) => (hL.lt hq).1)
            clear g0 g1 hL hO
            go_wp2_with fail
            go_region
            have e1d : wr.drew.cell? ⟨b, off + i * 2 + 1, none⟩ = some (.int .i64 (mn : Int)) := e1
            have hLd2 : LRow wr.drew w.heap.size 78 2 u8 i (pairCells pl) := hLd.below (Below.refl _ _).drew
            have hOd : Own wr.drew g .i64 3 fr := hOq
            have hxd := hxq.drew
            clear e0 e1 d2 hOq hLd hxq
            generalize wr.drew = W3 at *
            have hbW := hxd.size
            have hx4 := (Below.refl W3.heap.size W3).alloc (Nat.le_refl _) (.cells #[.int .i64 (b0 : Int), .int .i64 ((max y rn : Nat) : Int)] 78)
            have HL4 := Lib.hid (hLd2.below hx4)
            have hO4 := hOd.alloc (.cells #[.int .i64 (b0 : Int), .int .i64 ((max y rn : Nat) : Int)] 78)
            have hbW2 := hbel.size
            go_wp2_with (at_builtin; refine wpList_append_lrow _ rfl (.tmp 52) (.tmp 56) 68 rfl w.heap.size 78 i0 _ 2 16 Try.underlying68 hi0 hz0 hz1 hz2 rfl (by decide) hzd _ _ _ rfl HL4.out ⟨W3.heap.size, 0, none⟩ 1 1 [.int .i64 (b0 : Int), .int .i64 ((max y rn : Nat) : Int)] rfl rfl (cell_new2 _ _ _ _) (one2 _ _) (nd2 _ _) (by omega) (by unfold maxLen; omega) (by omega) (by simp; omega) ?_)
            intro gs caps w5 hL5 hgr hat
            have hneg : some g ≠ u8.ownBlock := HL4.out.not_own hO4 (by decide)
            have hO5 := hO4.grown hgr hneg
            have hbu : some b ≠ u8.ownBlock := fun e => by have := (HL4.out.lt e.symm).2; omega
            have q1 : w5.cell? ⟨b, off + i * 2 + 1, none⟩ = some (.int .i64 (mn : Int)) := by
              rw [World.cell?_of_block (a := ⟨b, off + i * 2 + 1, none⟩) (hgr.block b (by simp; omega) hbu)]
              exact (hx4.cell (p := ⟨b, _, none⟩) (by show b < _; omega)).trans e1d
            have c5 := hO5.cell b0 (by rw [HFL.out]; exact hb0)
            have f5 := hO5.frozen b0
            have hx5 : Below w.heap.size w w5 := (hbel.trans ((hxd.trans (hx4.mono (by omega))).mono hbel.size)).grown hgr (by simp; omega) (ownBlock_base HL4.out.1)
            have hws : IntKind.i64.wrap (((max y rn : Nat) : Int) + (mn : Int)) = ((max y rn + mn : Nat) : Int) := by rw [Int.natCast_add]; exact IntWalk.i64_in _ (by have := Hmx.out; omega)
            have HL5 := Lib.hid hL5
            have HO5 := Lib.hid hO5
            have hbl5 : b < w5.heap.size := Nat.lt_of_lt_of_le hbl hx5.size
            clear hO4 hgr hx4 hLd2 hOd hL5 hO5 e1d
            go_wp2_with fail
            rw [← Int.natCast_add]
            have hne2 : some g ≠ (Value.slice (some ⟨gs, 0, none⟩) (i + 1) caps).ownBlock := HL5.out.not_own HO5.out (by decide)
            exact ⟨⟨i + 1, by omega, by go_num, by
              rw [Hp1.out, pairCells_append]
              exact HL5.out.keep (fun g' hg' => heap_setCell_other _ _ _ _ (fun e => hne2 (by rw [hg', e]))), by
              rw [Hf1.out]
              exact HO5.out.store b0 _, hx5.setCell (p := ⟨g, b0, none⟩) hgl _⟩, meas_up hlt⟩
      · obtain rfl : i = js.length := by omega
        have HP := Lib.hid (PairsOf.ofRow (by rw [planTo_length]; exact hL))
        clear hL hO
        go_wp2_with fail
        go_ret2
        exact ⟨_, by rw [H0.out]; rfl, by rw [Hl.out]; exact HP.out, hbel⟩
  · have t0 : (jobsErr js ovens != 0) = true := by simp [h0]
    have Hl : Hid (greedyL js ovens = []) := by show _ = _; unfold greedyL; rw [if_neg h0]
    clear h0
    go_enter Try.func25, Try.ntmps25
    go_wp2_with fail
    refine (qcheckJobs_any js ovens _ _ HJ.out).mono ?_
    rintro e w1 ⟨rfl, hb1⟩
    generalize jobsErr js ovens = je at *
    go_wp2_with fail
    go_ret2
    exact ⟨.slice none 0 0, rfl, by rw [Hl.out]; exact PairsOf.nil _, hb1⟩

end Go.Proofs.Ytdjdnfjgklaneaa

/- THE WALK OF law06.StoreOvens. -/
namespace Go.Proofs.Ytdjdnfjgklaneaa
open Go.RowKit

theorem slot_fields : (Try.prog.fieldsOf 78).toList = [{ name := "Oven", type := 3, offset := 0, embedded := false, tag := "", pkgPath := "", byteOffset := 0 }, { name := "Start", type := 3, offset := 1, embedded := false, tag := "", pkgPath := "", byteOffset := 8 }] := by kernel_rfl
set_option maxRecDepth 100000 in
theorem neq_slot (a b : Int) (w : World) : (binOp .neq 78 (.agg #[.int .i64 a, .int .i64 b]) (.agg #[.int .i64 a, .int .i64 b])).run Try.prog w = .ok (.bool false) w := by
  rw [run_neq_struct, run_equalIn_struct w 9999 78 _ _ (by kernel_rfl) (by kernel_rfl), slot_fields]
  have h1 : ∀ w, (part 3 #[Value.int .i64 a, .int .i64 b] 0).run Try.prog w = .ok (.int .i64 a) w := fun w => by kernel_rfl
  have h2 : ∀ w, (part 3 #[Value.int .i64 a, .int .i64 b] 1).run Try.prog w = .ok (.int .i64 b) w := fun w => by kernel_rfl
  have h3 : ∀ (x : Int) w, (Op.equalIn 9999 3 (.int .i64 x) (.int .i64 x)).run Try.prog w = .ok true w := fun x w => by rw [run_equalIn_int w 9998 3 .i64 .i64 x x Try.underlying3]; simp
  have n0 : ("Oven" ≠ "_") := by decide
  have n1 : ("Start" ≠ "_") := by decide
  unfold Op.eqFields
  rw [if_pos n0]
  simp only [Sem.run_bind, h1, h3, Result.andThen_ok, Sem.run_ite]
  unfold Op.eqFields
  rw [if_pos n1]
  simp only [Sem.run_bind, h2, h3, Result.andThen_ok, Sem.run_ite]
  unfold Op.eqFields
  simp

theorem greedyL_length (js : List (Int × Int)) (ovens : Int) : (greedyL js ovens).length ≤ 64 := by
  unfold greedyL
  split
  · rename_i h
    rw [planTo_length]
    exact (jobs_ok h).len
  · simp
theorem boundL_length (js : List (Int × Int)) (ovens : Int) : (boundL js ovens).length ≤ 64 := by
  unfold boundL
  split
  · rename_i h
    have := (jobs_ok h).len
    unfold shownBy
    split
    · unfold proofTo
      split
      · simp
      · have := idxFrom_length js (bestTo js ovens js.length).2 js.length
        omega
    · simp
  · simp

set_option maxRecDepth 100000 in
set_option maxHeartbeats 8000000 in
theorem storeOvens_any (js : List (Int × Int)) (ovens : Int) (vj : Value) (w : World) (hj : PairsOf w vj js) :
    Calls Try.prog 6 #[vj, .int .i64 ovens] w (RetBool true w) := by
  have HJ := Lib.hid hj
  obtain ⟨ao, cap, rfl, _⟩ := hj
  by_cases c1 : 70 < js.length
  · have t1 : decide ((js.length : Int) > 70) = true := by simp; omega
    clear c1
    go_enter Try.func6, Try.ntmps6
    go_wp2_with fail
    refine (awake_any _).mono ?_
    rintro e w1 ⟨rfl, hb1⟩
    go_wp2_with fail
    go_ret
    exact ⟨rfl, hb1⟩
  · have t1 : decide ((js.length : Int) > 70) = false := by simp; omega
    have hlen : js.length ≤ 70 := by omega
    have hgl := greedyL_length js ovens
    have hbl := boundL_length js ovens
    clear c1
    go_enter Try.func6, Try.ntmps6
    go_wp2_with fail
    refine (greedy_any js ovens _ _ HJ.out).mono ?_
    rintro e w1 ⟨va, rfl, hva, hb1⟩
    have HA := Lib.hid hva
    obtain ⟨aoa, capa, rfl, _⟩ := hva
    have hx1 := hb1
    go_wp2_with fail
    refine (jobs_any js _ _ (HJ.out.below hx1) (by omega)).mono ?_
    rintro e w2 ⟨vb, rfl, hvb, hb2⟩
    have HB := Lib.hid hvb
    obtain ⟨aob, capb, rfl, _⟩ := hvb
    have hx2 := below_join hx1 hb2
    go_wp2_with fail
    refine (qgreedy_any js ovens _ _ HB.out).mono ?_
    rintro e w3 ⟨vc, rfl, hvc, hb3⟩
    have HC := Lib.hid hvc
    obtain ⟨aoc, capc, rfl, _⟩ := hvc
    have hx3 := below_join hx2 hb3
    go_wp2_with fail
    refine (bound_any js ovens _ _ (HJ.out.below hx3)).mono ?_
    rintro e w4 ⟨vd, rfl, hvd, hb4⟩
    have HD := Lib.hid hvd
    obtain ⟨aod, capd, rfl, _⟩ := hvd.opened
    clear hvd
    have hx4 := below_join hx3 hb4
    go_wp2_with fail
    refine (jobs_any js _ _ (HJ.out.below hx4) (by omega)).mono ?_
    rintro e w5 ⟨ve, rfl, hve, hb5⟩
    have HE := Lib.hid hve
    obtain ⟨aoe, cape, rfl, _⟩ := hve
    have hx5 := below_join hx4 hb5
    go_wp2_with fail
    refine (qbound_any js ovens _ _ HE.out).mono ?_
    rintro e w6 ⟨vf, rfl, hvf, hb6⟩
    have HF := Lib.hid hvf
    obtain ⟨aof, capf, rfl, _⟩ := hvf.opened
    clear hvf
    have hx6 := below_join hx5 hb6
    have HA6 := Lib.hid (HA.out.below (below_join hb2 (below_join hb3 (below_join hb4 (below_join hb5 hb6)))))
    have HC6 := Lib.hid (HC.out.below (below_join hb4 (below_join hb5 hb6)))
    have HD6 := Lib.hid (HD.out.below (below_join hb5 hb6))
    clear hb1 hb2 hb3 hb4 hb5 hb6 hx1 hx2 hx3 hx4 hx5 HA HB HC HD HE
    generalize jobsErr js ovens = E at *
    generalize boundN js ovens = B at *
    generalize greedyL js ovens = gl at *
    generalize boundL js ovens = bl at *
    have e1 : (E != E) = false := by simp
    have e2 : (B != B) = false := by simp
    have e3 : ((gl.length : Int) != (gl.length : Int)) = false := by simp
    have e4 : ((bl.length : Int) != (bl.length : Int)) = false := by simp
    go_wp2_with fail
    go_loopw [78] (fun iv wr => ∃ (i : Nat), i ≤ gl.length ∧ iv = .int .i64 i ∧ Below w6.heap.size w6 wr) (fun iv _ => gl.length - (intOf iv).toNat)
    case atStart => exact ⟨0, Nat.zero_le _, rfl, Below.refl _ _⟩
    case round =>
      obtain ⟨i, hi, rfl, hbel⟩ := hrel
      by_cases hlt : i < gl.length
      · obtain ⟨aa, capa', hva, hA⟩ := HA6.out
        obtain ⟨ac, capc', hvc, hC⟩ := HC6.out
        simp only [Value.slice.injEq, true_and] at hva hvc
        obtain ⟨rfl, rfl⟩ := hva
        obtain ⟨rfl, rfl⟩ := hvc
        obtain ⟨ba, offa, rfl, hbla, hAA⟩ := hA (by omega)
        obtain ⟨bc, offc, rfl, hblc, hCC⟩ := hC (by omega)
        obtain ⟨a0, a1⟩ := (hAA i hlt).below hbel hbla
        obtain ⟨c0, c1⟩ := (hCC i hlt).below hbel hblc
        have hlt' : (i : Int) < gl.length := by omega
        have hge' : (0 : Int) ≤ i := by omega
        generalize (gl.getD i (0, 0)).1 = x at *
        generalize (gl.getD i (0, 0)).2 = y at *
        have hq := neq_slot x y
        clear hA hC hAA hCC
        go_wp2_with fail
        go_region
        go_wp2_with fail
        exact ⟨⟨i + 1, by omega, by go_num, hbel.drew⟩, meas_up hlt⟩
      · obtain rfl : i = gl.length := by omega
        have hxx := below_join hx6 hbel
        have HD7 := Lib.hid (HD6.out.below hbel)
        have HF7 := Lib.hid (HF.out.below hbel)
        clear hbel
        generalize wr = wo at *
        go_wp2_with fail
        go_loopw [93] (fun iv wr => ∃ (i : Nat), i ≤ bl.length ∧ iv = .int .i64 i ∧ Below wo.heap.size wo wr) (fun iv _ => bl.length - (intOf iv).toNat)
        case atStart => exact ⟨0, Nat.zero_le _, rfl, Below.refl _ _⟩
        case round =>
          obtain ⟨i, hi, rfl, hbel⟩ := hrel
          by_cases hlt : i < bl.length
          · obtain ⟨aa, capa', hva, hA⟩ := HD7.out.opened
            obtain ⟨ac, capc', hvc, hC⟩ := HF7.out.opened
            simp only [Value.slice.injEq, true_and] at hva hvc
            obtain ⟨rfl, rfl⟩ := hva
            obtain ⟨rfl, rfl⟩ := hvc
            obtain ⟨ba, offa, rfl, hbla, hAA⟩ := hA (by omega)
            obtain ⟨bc, offc, rfl, hblc, hCC⟩ := hC (by omega)
            have a0 := (hbel.cell (p := ⟨ba, offa + i, none⟩) hbla).trans (hAA i hlt)
            have c0 := (hbel.cell (p := ⟨bc, offc + i, none⟩) hblc).trans (hCC i hlt)
            have hlt' : (i : Int) < bl.length := by omega
            have hge' : (0 : Int) ≤ i := by omega
            generalize bl.getD i 0 = x at *
            have hq : ((x : Int) != (x : Int)) = false := by simp
            clear hA hC hAA hCC
            go_wp2_with fail
            go_region
            go_wp2_with fail
            exact ⟨⟨i + 1, by omega, by go_num, hbel.drew⟩, meas_up hlt⟩
          · obtain rfl : i = bl.length := by omega
            have hxy := below_join hxx hbel
            go_wp2_with fail
            refine (awake_any _).mono ?_
            rintro e w7 ⟨rfl, hb7⟩
            go_wp2_with fail
            go_ret
            exact ⟨rfl, below_join hxy hb7⟩

end Go.Proofs.Ytdjdnfjgklaneaa
