/- Part f of the lemmas and walks. -/
import Derived.Test.YthdgeindjphklaaGreatPe

namespace Go.Proofs.YthdgeindjphklaaGreat
open Go.RowKit

/-- The frame a0 with other values in the slots ds. -/
def fillT (t : Array Value) (ds : List Nat) (f : Nat → Value) : Array Value := ds.foldl (fun t d => t.setIfInBounds d (f d)) t
def fillA (a : Act) (ds : List Nat) (f : Nat → Value) : Act := { a with tmps := fillT a.tmps ds f }
theorem fillT_get (f : Nat → Value) (j : Nat) : ∀ (ds : List Nat) (t : Array Value), (fillT t ds f)[j]? = if j ∈ ds ∧ j < t.size then some (f j) else t[j]?
  | [], t => by simp [fillT]
  | d :: ds, t => by
    have ih := fillT_get f j ds (t.setIfInBounds d (f d))
    show (fillT (t.setIfInBounds d (f d)) ds f)[j]? = _
    rw [ih, Array.size_setIfInBounds]
    by_cases h1 : j ∈ ds ∧ j < t.size
    · rw [if_pos h1, if_pos ⟨List.mem_cons_of_mem _ h1.1, h1.2⟩]
    · rw [if_neg h1, Array.getElem?_setIfInBounds]
      by_cases h2 : d = j
      · subst h2
        rw [if_pos rfl]
        by_cases h3 : d < t.size
        · rw [if_pos h3, if_pos ⟨List.mem_cons_self, h3⟩]
        · rw [if_neg h3, if_neg (fun h => h3 h.2), Array.getElem?_eq_none (by omega)]
      · rw [if_neg h2, if_neg (fun h => h1 ⟨by rcases List.mem_cons.1 h.1 with h | h; exact absurd h.symm h2; exact h, h.2⟩)]
theorem fillT_size (f : Nat → Value) : ∀ (ds : List Nat) (t : Array Value), (fillT t ds f).size = t.size
  | [], t => rfl
  | d :: ds, t => by
    show (fillT (t.setIfInBounds d (f d)) ds f).size = _
    rw [fillT_size, Array.size_setIfInBounds]
theorem fillA_put {a : Act} {ds : List Nat} {f : Nat → Value} {d : Nat} {v : Value} (hd : d ∈ ds) : (fillA a ds f).put (some d) v = fillA a ds (fun e => if e = d then v else f e) := by
  have e : (fillT a.tmps ds f).setIfInBounds d v = fillT a.tmps ds (fun e => if e = d then v else f e) := by
    apply Array.ext_getElem?
    intro j
    rw [Array.getElem?_setIfInBounds, fillT_get, fillT_get, fillT_size]
    by_cases h : d = j
    · subst h
      rw [if_pos rfl]
      by_cases h3 : d < a.tmps.size
      · rw [if_pos h3, if_pos ⟨hd, h3⟩]; simp
      · rw [if_neg h3, if_neg (fun h => h3 h.2), Array.getElem?_eq_none (by omega)]
    · rw [if_neg h]
      have h' : ¬ j = d := fun e => h e.symm
      simp [h']
  unfold fillA
  show ({ a with tmps := fillT a.tmps ds f } : Act).put (some d) v = _
  unfold Act.put
  simp [e]
theorem fillA_id (a : Act) (ds : List Nat) : fillA a ds (fun d => a.tmps.getD d undef) = a := by
  unfold fillA
  have e : fillT a.tmps ds (fun d => a.tmps.getD d undef) = a.tmps := by
    apply Array.ext_getElem?
    intro j
    rw [fillT_get]
    split
    · rename_i h
      rw [Array.getElem?_eq_getElem h.2, Array.getD_eq_getD_getElem?, Array.getElem?_eq_getElem h.2]
      rfl
    · rfl
  rw [e]
def AllM (p : Nat → Prop) : List Nat → Prop
  | [] => True
  | i :: l => p i ∧ AllM p l
theorem AllM.at {p : Nat → Prop} {i : Nat} : ∀ {l : List Nat}, AllM p l → i ∈ l → p i
  | j :: l, h, hi => by
    rcases List.mem_cons.1 hi with rfl | hi
    · exact h.1
    · exact h.2.at hi
/-- What is asked of the operations M: each has its own slot, waits for operations of M (or done ones) ahead of it; whatever else is not done waits for all of M. -/
def modOk (ops : Array Oper) (l0 lM : Array Bool) (M N E : List Nat) (dst : Nat → Nat) (preds : Nat → List Nat) (ds : List Nat) : Bool :=
  l0.size == ops.size && lM.size == ops.size &&
  (List.range ops.size).all (fun i => lM.getD i true == (l0.getD i true || M.contains i)) &&
  M.all (fun i => l0.getD i true == false && (match ops[i]? with
    | some o => o.dst == some (dst i) && ds.contains (dst i) && (preds i).all (fun j => M.contains j && o.after.any (fun e => Region.binds .any e && e.on == j)) &&
        o.after.all (fun e => !Region.binds .any e || l0.getD e.on false || (M.contains e.on && Nat.blt e.on i))
    | none => false)) &&
  (List.range ops.size).all (fun i => l0.getD i true || M.contains i || (match ops[i]? with
    | some o => M.all (fun j => o.after.any (fun e => Region.binds .any e && e.on == j) || M.any (fun l => Nat.blt j l && (match ops[l]? with
        | some o' => o'.after.any (fun e => Region.binds .any e && e.on == j)
        | none => false)) || (E.contains j && (match ops[j]? with
        | some oj => oj.after.all (fun e => !Region.binds .any e || l0.getD e.on false || o.after.any (fun e' => Region.binds .any e' && e'.on == e.on))
        | none => false)))
    | none => false)) &&
  M.all (fun i => M.all (fun j => i == j || dst i != dst j)) && M.all (fun i => N.contains i || E.contains i) && Region.noSelect ops &&
  E.all (fun i => M.contains i && (match ops[i]? with
    | some oi => (List.range ops.size).all (fun j => j == i || oi.after.any (fun e => Region.binds .any e && e.on == j) || (match ops[j]? with
      | some oj => oj.after.any (fun e => Region.binds .any e && e.on == i) || oi.apart ops oj
      | none => true))
    | none => false))
section
variable {P : Program} {ops : Array Oper} {Q : Exit → Act → World → Prop}
/-- One operation of M, behind those for which it waits. -/
def StepM (P : Program) (ops : Array Oper) (Q : Exit → Act → World → Prop) (a0 : Act) (ds : List Nat) (W0 : World) (PV : Nat → Value → World → Prop) (dst : Nat → Nat) (preds : Nat → List Nat) (al : List Nat) (i : Nat) : Prop :=
  ∀ o, ops[i]? = some o → ∀ f w, Below W0.heap.size W0 w → (∀ j, j ∈ preds i → PV j (f (dst j)) w) →
    ∀ K' : Act → World → Prop, Shut (∀ a' w'' v, a' = (fillA a0 ds f).put o.dst v → PV i v w'' → (i ∈ al → v = .pointer (some ⟨w.heap.size, 0, none⟩)) → Below w.heap.size w w'' → K' a' w'') →
      if Region.wanted o (yielded ops (fillA a0 ds f).tmps) = true then Oper.wp P o (fillA a0 ds f) w K' Q else K' ((fillA a0 ds f).put o.dst undef) w
theorem StepM.of {a0 : Act} {ds : List Nat} {W0 : World} {PV : Nat → Value → World → Prop} {dst : Nat → Nat} {preds : Nat → List Nat} {al : List Nat} {i : Nat} {o : Oper} (ho : ops[i]? = some o)
    (h : ∀ f w, Below W0.heap.size W0 w → (∀ j, j ∈ preds i → PV j (f (dst j)) w) →
      ∀ K' : Act → World → Prop, Shut (∀ a' w'' v, a' = (fillA a0 ds f).put o.dst v → PV i v w'' → (i ∈ al → v = .pointer (some ⟨w.heap.size, 0, none⟩)) → Below w.heap.size w w'' → K' a' w'') →
      if Region.wanted o (yielded ops (fillA a0 ds f).tmps) = true then Oper.wp P o (fillA a0 ds f) w K' Q else K' ((fillA a0 ds f).put o.dst undef) w) : StepM P ops Q a0 ds W0 PV dst preds al i :=
  fun o' ho' => by rw [ho] at ho'; cases ho'; exact h
/-- An operation that only computes, behind those for which it waits. -/
def EagerM (P : Program) (ops : Array Oper) (a0 : Act) (ds : List Nat) (W0 : World) (PV : Nat → Value → World → Prop) (dst : Nat → Nat) (preds : Nat → List Nat) (i : Nat) : Prop :=
  ∀ o, ops[i]? = some o → ∀ f w, Below W0.heap.size W0 w → (∀ j, j ∈ preds i → PV j (f (dst j)) w) →
    ∃ v, PV i v w ∧ Region.wanted o (yielded ops (fillA a0 ds f).tmps) = true ∧ ∀ u, (execOp (fillA a0 ds f).eval o).run P u = .ok (.value v) u
theorem EagerM.of {a0 : Act} {ds : List Nat} {W0 : World} {PV : Nat → Value → World → Prop} {dst : Nat → Nat} {preds : Nat → List Nat} {i : Nat} {o : Oper} (ho : ops[i]? = some o)
    (h : ∀ f w, Below W0.heap.size W0 w → (∀ j, j ∈ preds i → PV j (f (dst j)) w) →
      ∃ v, PV i v w ∧ Region.wanted o (yielded ops (fillA a0 ds f).tmps) = true ∧ ∀ u, (execOp (fillA a0 ds f).eval o).run P u = .ok (.value v) u) : EagerM P ops a0 ds W0 PV dst preds i :=
  fun o' ho' => by rw [ho] at ho'; cases ho'; exact h
theorem wpAnyH_mod {S : World → Prop} {a0 : Act} {ds : List Nat} {l0 lM : Array Bool} {M N E : List Nat} {F : Nat} {W0 : World} {PV : Nat → Value → World → Prop} {dst : Nat → Nat} {preds : Nat → List Nat} {al : List Nat}
    (hchk : modOk ops l0 lM M N E dst preds ds = true) (hQ : ∀ c a (d : Nat) v w, Q (.panic c) (Act.put a (some d) v) w → Q (.panic c) a w)
    (hst : ∀ i v w w', Below w.heap.size w w' → PV i v w → PV i v w')
    (hal : ∀ i v w, i ∈ al → PV i v w → ∃ B, v = .pointer (some ⟨B, 0, none⟩) ∧ B < w.heap.size)
    (hS : ∀ w, Below W0.heap.size W0 w → S w)
    (hstep : AllM (StepM P ops Q a0 ds W0 PV dst preds al) N) (heag : AllM (EagerM P ops a0 ds W0 PV dst preds) E) (hEal : ∀ i, i ∈ E → i ∉ al)
    (hend : ∀ f w, Below W0.heap.size W0 w → (∀ i, i ∈ M → PV i (f (dst i)) w) → (∀ i j, i ∈ M → j ∈ M → i ∈ al → j ∈ al → i ≠ j → f (dst i) ≠ f (dst j)) → wpAnyH P .any ops Q S F lM (fillA a0 ds f) w) :
    ∀ (n : Nat) (U : List Nat) (listed : Array Bool) (f : Nat → Value) (w : World), U.length = n → listed.size = ops.size →
      (∀ i, i ∉ M → listed.getD i true = l0.getD i true) → (∀ i, i ∈ M → (listed.getD i true = false ↔ i ∈ U)) → (∀ i, i ∈ U → i ∈ M) → U.Nodup → Below W0.heap.size W0 w →
      (∀ i, i ∈ M → i ∉ U → PV i (f (dst i)) w) → (∀ i j, i ∈ M → j ∈ M → i ∉ U → j ∉ U → i ∈ al → j ∈ al → i ≠ j → f (dst i) ≠ f (dst j)) →
      (∀ i, i ∈ M → i ∉ U → ∀ o, ops[i]? = some o → ∀ e, e ∈ o.after → Region.binds .any e = true → e.on ∈ U → False) →
      wpAnyH P .any ops Q S (F + n) listed (fillA a0 ds f) w := by
  unfold modOk at hchk
  simp only [Bool.and_eq_true, beq_iff_eq, List.all_eq_true, List.mem_range] at hchk
  obtain ⟨⟨⟨⟨⟨⟨⟨⟨k1, k2⟩, k3⟩, k4⟩, k5⟩, k6⟩, k7⟩, k8⟩, k9⟩ := hchk
  intro n
  induction n with
  | zero =>
    intro U listed f w hU hsz hout hin hsub hnd hb hp hdist hdc
    obtain rfl : U = [] := List.eq_nil_of_length_eq_zero hU
    have e : listed = lM := by
      apply Array.ext (by omega)
      intro i h1 h2
      have hi : i < ops.size := by omega
      have g1 : listed.getD i true = listed[i] := by simp [Array.getD_eq_getD_getElem?, h1]
      have g2 : lM.getD i true = lM[i] := by simp [Array.getD_eq_getD_getElem?, h2]
      rw [← g1, ← g2, k3 i hi]
      by_cases hm : i ∈ M
      · have := hin i hm
        have h3 : M.contains i = true := by simpa using hm
        rw [h3, Bool.or_true]
        cases h4 : listed.getD i true with
        | true => rfl
        | false => exact absurd (this.1 h4) (by simp)
      · have h3 : M.contains i = false := by simpa using hm
        rw [h3, Bool.or_false, hout i hm]
    rw [e]
    exact hend f w hb (fun i hi => hp i hi (by simp)) (fun i j h1 h2 => hdist i j h1 h2 (by simp) (by simp))
  | succ n ih =>
    intro U listed f w hU hsz hout hin hsub hnd hb hp hdist hdc
    have hpre : ∀ i, i ∈ U → i ∈ Region.ready .any ops listed → ∀ o, ops[i]? = some o → ∀ j, j ∈ preds i → PV j (f (dst j)) w := by
      intro i hiU hi o ho j hj
      have hm := hsub i hiU
      have h4 := k4 i hm
      rw [ho] at h4
      simp only [Bool.and_eq_true, beq_iff_eq] at h4
      obtain ⟨_, ⟨⟨hdst, hds⟩, hpr⟩, _⟩ := h4
      rw [List.all_eq_true] at hpr
      have h6 := hpr j hj
      simp only [Bool.and_eq_true] at h6
      obtain ⟨hjM, hja⟩ := h6
      have hjM : j ∈ M := by simpa using hjM
      refine hp j hjM (fun hjU => ?_)
      obtain ⟨_, o', ho', hall⟩ := mem_ready.1 hi
      rw [ho] at ho'
      cases ho'
      rw [Array.any_eq_true'] at hja
      obtain ⟨e, he, hbe⟩ := hja
      simp only [Bool.and_eq_true, beq_iff_eq] at hbe
      have h7 := hall e he hbe.1
      rw [hbe.2] at h7
      have h8 := (hin j hjM).2 hjU
      rw [Array.getD_eq_getD_getElem?] at h7 h8
      cases hx : listed[j]? with
      | none => rw [hx] at h7; simp at h7
      | some b => rw [hx] at h7 h8; simp at h7 h8; rw [h7] at h8; cases h8
    -- behind an operation of U that was ready
    have hgo : ∀ i, i ∈ U → i ∈ Region.ready .any ops listed → ∀ o, ops[i]? = some o → ∀ w'' v, PV i v w'' → (i ∈ al → v = .pointer (some ⟨w.heap.size, 0, none⟩)) → Below w.heap.size w w'' →
        wpAnyH P .any ops Q S (F + n) (listed.setIfInBounds i true) (fillA a0 ds (fun e => if e = dst i then v else f e)) w'' := by
      intro i hiU hi o ho w'' v hv hfresh hb'
      have hm := hsub i hiU
      have hdd : ∀ j, j ∈ M → j ≠ i → dst j ≠ dst i := fun j hj hne h => by
        have := k6 j hj i hm
        simp only [Bool.or_eq_true, beq_iff_eq, bne_iff_ne] at this
        rcases this with h1 | h1
        · exact hne h1
        · exact h1 h
      refine ih (U.erase i) _ _ _ (by rw [List.length_erase_of_mem hiU]; omega) (by rw [Array.size_setIfInBounds]; exact hsz) (fun j hj => ?_) (fun j hj => ?_) (fun j hj => hsub j (List.mem_of_mem_erase hj)) (hnd.erase i) (hb.trans (hb'.mono hb.size)) (fun j hj hju => ?_) (fun j l hj hl hju hlu hja hla hjl => ?_) (fun j hj hju o' ho' e he hbe heU => ?_)
      · have hne : i ≠ j := fun h => hj (h ▸ hm)
        rw [getD_set_ne true hne]
        exact hout j hj
      · by_cases hij : i = j
        · subst hij
          have hlt : i < listed.size := by rw [hsz]; exact (Array.getElem?_eq_some_iff.1 ho).1
          constructor
          · intro h
            rw [Array.getD_eq_getD_getElem?, Array.getElem?_setIfInBounds] at h
            simp [hlt] at h
          · intro h
            exact absurd h (List.Nodup.not_mem_erase hnd)
        · rw [getD_set_ne true hij, hin j hj, List.Nodup.mem_erase_iff hnd]
          constructor
          · intro h; exact ⟨fun e => hij e.symm, h⟩
          · intro h; exact h.2
      · by_cases hij : j = i
        · subst hij
          simpa using hv
        · have := hp j hj (fun h => hju ((List.Nodup.mem_erase_iff hnd).2 ⟨hij, h⟩))
          show PV j (if dst j = dst i then v else f (dst j)) w''
          rw [if_neg (hdd j hj hij)]
          exact hst j _ _ _ hb' this
      · show (if dst j = dst i then v else f (dst j)) ≠ (if dst l = dst i then v else f (dst l))
        have hnew : ∀ k, k ∈ M → k ≠ i → k ∉ U.erase i → k ∈ al → i ∈ al → f (dst k) ≠ v := fun k hk hki hku hka hia => by
          have h1 := hp k hk (fun h => hku ((List.Nodup.mem_erase_iff hnd).2 ⟨hki, h⟩))
          obtain ⟨B, hB, hlt⟩ := hal k _ _ hka h1
          rw [hB, hfresh hia]
          intro h
          have h2 := congrArg (fun v => match v with | Value.pointer (some a) => a.block | _ => 0) h
          dsimp only at h2
          omega
        by_cases h1 : j = i
        · subst h1
          rw [if_pos rfl, if_neg (hdd l hl (fun h => hjl h.symm))]
          exact fun h => hnew l hl (fun h => hjl h.symm) hlu hla hja h.symm
        · rw [if_neg (hdd j hj h1)]
          by_cases h2 : l = i
          · subst h2
            rw [if_pos rfl]
            exact hnew j hj h1 hju hja hla
          · rw [if_neg (hdd l hl h2)]
            exact hdist j l hj hl (fun h => hju ((List.Nodup.mem_erase_iff hnd).2 ⟨h1, h⟩)) (fun h => hlu ((List.Nodup.mem_erase_iff hnd).2 ⟨h2, h⟩)) hja hla hjl
      · have heU2 : e.on ∈ U := List.mem_of_mem_erase heU
        by_cases hij : j = i
        · subst hij
          obtain ⟨_, o2, ho2, hall⟩ := mem_ready.1 hi
          rw [ho'] at ho2
          cases ho2
          have h7 := hall e he hbe
          have h8 := (hin e.on (hsub _ heU2)).2 heU2
          rw [Array.getD_eq_getD_getElem?] at h7 h8
          cases hx : listed[e.on]? with
          | none => rw [hx] at h7; simp at h7
          | some b => rw [hx] at h7 h8; simp at h7 h8; rw [h7] at h8; cases h8
        · exact hdc j hj (fun h => hju ((List.Nodup.mem_erase_iff hnd).2 ⟨hij, h⟩)) o' ho' e he hbe heU2
    have hdstd : ∀ i, i ∈ M → ∀ o, ops[i]? = some o → o.dst = some (dst i) ∧ dst i ∈ ds := by
      intro i hm o ho
      have h4 := k4 i hm
      rw [ho] at h4
      simp only [Bool.and_eq_true, beq_iff_eq] at h4
      obtain ⟨_, ⟨⟨hdst, hds⟩, hpr⟩, _⟩ := h4
      exact ⟨hdst, by simpa using hds⟩
    by_cases hE : ∃ i, i ∈ E ∧ i ∈ U ∧ i ∈ Region.ready .any ops listed
    · obtain ⟨i, hiE, hiU, hi⟩ := hE
      obtain ⟨_, o, ho, _⟩ := mem_ready.1 hi
      obtain ⟨hdst, hds⟩ := hdstd i (hsub i hiU) o ho
      obtain ⟨v, hv, hw, hrun⟩ := heag.at hiE o ho f w hb (hpre i hiU hi o ho)
      refine wpAnyH_first (v := v) ho (Region.noSelect_spec k8) (fun c a w h => hQ c a (dst i) v w (by rw [hdst] at h; exact h)) (F + n) listed _ w ?_ hi (.inl ⟨hw, fun u _ => hrun u⟩) (hS _ hb) ?_
      · intro j oj hoj hne hun hno
        have h9 := (k9 i hiE).2
        rw [ho] at h9
        simp only [List.all_eq_true, List.mem_range] at h9
        have h10 := h9 j (Array.getElem?_eq_some_iff.1 hoj).1
        rw [hoj] at h10
        simp only [Bool.or_eq_true, beq_iff_eq, hne, false_or] at h10
        rcases h10 with h10 | h10 | h10
        · exfalso
          rw [Array.any_eq_true'] at h10
          obtain ⟨e, he, hbe⟩ := h10
          simp only [Bool.and_eq_true, beq_iff_eq] at hbe
          obtain ⟨_, o2, ho2, hall⟩ := mem_ready.1 hi
          rw [ho] at ho2
          cases ho2
          have h11 := hall e he hbe.1
          rw [hbe.2] at h11
          rw [Array.getD_eq_getD_getElem?] at h11 hun
          cases hx : listed[j]? with
          | none => rw [hx] at h11; simp at h11
          | some b => rw [hx] at h11 hun; simp at h11 hun; rw [h11] at hun; cases hun
        · exfalso
          rw [Array.any_eq_true'] at h10
          obtain ⟨e, he, hbe⟩ := h10
          simp only [Bool.and_eq_true, beq_iff_eq] at hbe
          exact hno e he hbe.1 hbe.2
        · exact h10
      · rw [hdst, fillA_put hds]
        exact hgo i hiU hi o ho w v hv (fun h => absurd h (hEal i hiE)) (Below.refl _ _)
    · -- what is ready lies in U
      have hready : ∀ i, i ∈ Region.ready .any ops listed → i ∈ U := by
        intro i hi
        obtain ⟨g1, o, ho, hall⟩ := mem_ready.1 hi
        by_cases hm : i ∈ M
        · exact (hin i hm).1 g1
        · exfalso
          have hlt : i < ops.size := (Array.getElem?_eq_some_iff.1 ho).1
          have h5 := k5 i hlt
          rw [hout i hm] at g1
          have h3 : M.contains i = false := by simpa using hm
          rw [g1, h3, ho] at h5
          simp only [Bool.false_or, List.all_eq_true] at h5
          have hne : U ≠ [] := by intro h; rw [h] at hU; simp at hU
          have hu : U.max hne ∈ U := List.max_mem hne
          have hmax : ∀ j, j ∈ U → j ≤ U.max hne := fun j hj => List.le_max_of_mem hj
          generalize U.max hne = u at hu hmax
          have h6 := h5 u (hsub u hu)
          rw [Bool.or_eq_true, Bool.or_eq_true] at h6
          rcases h6 with (h6 | h6) | h6
          · rw [Array.any_eq_true'] at h6
            obtain ⟨e, he, hbe⟩ := h6
            simp only [Bool.and_eq_true, beq_iff_eq] at hbe
            have h7 := hall e he hbe.1
            rw [hbe.2] at h7
            have h8 := (hin u (hsub u hu)).2 hu
            rw [Array.getD_eq_getD_getElem?] at h7 h8
            cases hx : listed[u]? with
            | none => rw [hx] at h7; simp at h7
            | some b => rw [hx] at h7 h8; simp at h7 h8; rw [h7] at h8; cases h8
          · rw [List.any_eq_true] at h6
            obtain ⟨l, hl, h6⟩ := h6
            rw [Bool.and_eq_true] at h6
            obtain ⟨h6a, h6b⟩ := h6
            have hlt2 : u < l := by simpa using h6a
            have hlu : l ∉ U := fun h => by have := hmax l h; omega
            cases hol : ops[l]? with
            | none => rw [hol] at h6b; simp at h6b
            | some o' =>
              rw [hol] at h6b
              simp only [Array.any_eq_true'] at h6b
              obtain ⟨e, he, hbe⟩ := h6b
              simp only [Bool.and_eq_true, beq_iff_eq] at hbe
              exact hdc l hl hlu o' hol e he hbe.1 (hbe.2 ▸ hu)
          · rw [Bool.and_eq_true] at h6
            obtain ⟨h6a, h6b⟩ := h6
            cases hou : ops[u]? with
            | none => rw [hou] at h6b; simp at h6b
            | some ou =>
              rw [hou] at h6b
              simp only [Array.all_eq_true_iff_forall_mem] at h6b
              refine hE ⟨u, by simpa using h6a, hu, mem_ready.2 ⟨(hin u (hsub u hu)).2 hu, ou, hou, fun e he hbe => ?_⟩⟩
              have h7 := h6b e he
              rw [hbe] at h7
              simp only [Bool.not_true, Bool.false_or, Bool.or_eq_true] at h7
              rcases h7 with h7 | h7
              · by_cases hem : e.on ∈ M
                · exfalso
                  have h9 := (k4 e.on hem).1
                  rw [Array.getD_eq_getD_getElem?] at h7 h9
                  cases hx : l0[e.on]? with
                  | none => rw [hx] at h7; simp at h7
                  | some b => rw [hx] at h7 h9; simp at h7 h9; rw [h7] at h9; cases h9
                · have h13 : l0.getD e.on true = true ∧ e.on < l0.size := by
                    rw [Array.getD_eq_getD_getElem?] at h7 ⊢
                    cases hx : l0[e.on]? with
                    | none => rw [hx] at h7; simp at h7
                    | some b => rw [hx] at h7; exact ⟨by simpa using h7, (Array.getElem?_eq_some_iff.1 hx).1⟩
                  have h14 := hout e.on hem
                  rw [h13.1] at h14
                  rw [Array.getD_eq_getD_getElem?] at h14 ⊢
                  have h15 : e.on < listed.size := by omega
                  rw [Array.getElem?_eq_getElem h15] at h14 ⊢
                  simpa using h14
              · rw [Array.any_eq_true'] at h7
                obtain ⟨e', he', hbe'⟩ := h7
                simp only [Bool.and_eq_true, beq_iff_eq] at hbe'
                have h8 := hall e' he' hbe'.1
                rw [hbe'.2] at h8
                exact h8
      -- something is ready: the least of U
      have hmin : ∃ i, i ∈ U ∧ ∀ j, j ∈ U → i ≤ j := by
        have hne : U ≠ [] := by intro h; rw [h] at hU; simp at hU
        refine ⟨U.min hne, List.min_mem hne, fun j hj => List.min_le_of_mem hj⟩
      have hsome : Region.ready .any ops listed ≠ [] := by
        obtain ⟨i, hi, hle⟩ := hmin
        have hm := hsub i hi
        have h4 := k4 i hm
        cases ho : ops[i]? with
        | none => rw [ho] at h4; simp at h4
        | some o =>
          rw [ho] at h4
          simp only [Bool.and_eq_true, beq_iff_eq] at h4
          obtain ⟨_, ⟨⟨_, _⟩, _⟩, h7⟩ := h4
          have : i ∈ Region.ready .any ops listed := by
            rw [mem_ready]
            refine ⟨(hin i hm).2 hi, o, ho, fun e he hbe => ?_⟩
            rw [Array.all_eq_true_iff_forall_mem] at h7
            have h8 := h7 e he
            rw [hbe] at h8
            simp only [Bool.not_true, Bool.false_or, Bool.or_eq_true, Bool.and_eq_true] at h8
            have hgd : listed.getD e.on true = true → listed.getD e.on false = true ∨ ops.size ≤ e.on := fun h => by
              rw [Array.getD_eq_getD_getElem?] at h ⊢
              cases hx : listed[e.on]? with
              | none => right; have := Array.getElem?_eq_none_iff.1 hx; omega
              | some b => left; rw [hx] at h; simpa using h
            by_cases hem : e.on ∈ M
            · have hlt : e.on < i := by
                rcases h8 with h8 | h8
                · exfalso
                  have h9 := k4 e.on hem
                  have h10 := h9.1
                  rw [Array.getD_eq_getD_getElem?] at h8 h10
                  cases hx : l0[e.on]? with
                  | none => rw [hx] at h8; simp at h8
                  | some b => rw [hx] at h8 h10; simp at h8 h10; rw [h8] at h10; cases h10
                · simpa using h8.2
              have hnu : e.on ∉ U := fun h => by have := hle _ h; omega
              have h11 : listed.getD e.on true = true := by
                cases h12 : listed.getD e.on true with
                | true => rfl
                | false => exact absurd ((hin e.on hem).1 h12) hnu
              rcases hgd h11 with h | h
              · exact h
              · exfalso
                have := k4 e.on hem
                rw [Array.getElem?_eq_none h] at this
                simp at this
            · rcases h8 with h8 | h8
              · have h13 : l0.getD e.on true = true := by
                  rw [Array.getD_eq_getD_getElem?] at h8 ⊢
                  cases hx : l0[e.on]? with
                  | none => rfl
                  | some b => rw [hx] at h8; simpa using h8
                have h14 := hout e.on hem
                rw [h13] at h14
                rcases hgd h14 with h | h
                · exact h
                · exfalso
                  rw [Array.getD_eq_getD_getElem?, Array.getElem?_eq_none (by omega)] at h8
                  simp at h8
              · exact absurd (by simpa using h8.1) hem
          intro h
          rw [h] at this
          cases this
      refine ⟨fun h => absurd h hsome, fun i hi => ?_⟩
      have hiU := hready i hi
      have hm := hsub i hiU
      obtain ⟨_, o, ho, _⟩ := mem_ready.1 hi
      obtain ⟨hdst, hds⟩ := hdstd i hm o ho
      refine wpOp_step ho (fun K' hK => ?_)
      have hiN : i ∈ N := by
        have := k7 i hm
        rw [Bool.or_eq_true] at this
        rcases this with h | h
        · simpa using h
        · exact absurd ⟨i, by simpa using h, hiU, hi⟩ hE
      refine hstep.at hiN o ho f w hb (hpre i hiU hi o ho) K' ?_
      intro a' w'' v ha' hv hfresh hb'
      refine hK _ _ ⟨hS _ (hb.trans (hb'.mono hb.size)), ?_⟩
      rw [ha', hdst, fillA_put hds]
      exact hgo i hiU hi o ho w'' v hv hfresh hb'
end
section
variable {P : Program} {ops : Array Oper} {Q : Exit → Act → World → Prop}
def pickV : List (Nat × (Value → World → Prop)) → Nat → Value → World → Prop
  | [], _ => fun _ _ => True
  | (j, p) :: l, i => if i = j then p else pickV l i
def StV : List (Nat × (Value → World → Prop)) → Prop
  | [] => True
  | (_, p) :: l => (∀ v w w', Below w.heap.size w w' → p v w → p v w') ∧ StV l
theorem StV.st : ∀ {l : List (Nat × (Value → World → Prop))}, StV l → ∀ i v w w', Below w.heap.size w w' → pickV l i v w → pickV l i v w'
  | [], _, _, _, _, _, _, _ => trivial
  | (j, p) :: l, h, i, v, w, w', hb, hp => by
    unfold pickV at hp ⊢
    split
    · rename_i he; rw [if_pos he] at hp; exact h.1 v w w' hb hp
    · rename_i he; rw [if_neg he] at hp; exact h.2.st i v w w' hb hp
def lookN : List (Nat × Nat) → Nat → Nat
  | [], _ => 0
  | (j, d) :: l, i => if i = j then d else lookN l i
def lookL : List (Nat × List Nat) → Nat → List Nat
  | [], _ => []
  | (j, d) :: l, i => if i = j then d else lookL l i
theorem wpAnyH_modular {S : World → Prop} {a : Act} {w : World} {fuel : Nat} {l0 : Array Bool} (M N E ds : List Nat) (lM : Array Bool) (F : Nat) (dst : List (Nat × Nat)) (preds : List (Nat × List Nat)) (al : List Nat) (pv : List (Nat × (Value → World → Prop)))
    (hf : fuel = F + M.length) (hchk : modOk ops l0 lM M N E (lookN dst) (lookL preds) ds = true) (hnd : M.Nodup) (hsz : l0.size = ops.size) (hst : StV pv)
    (hal : AllM (fun i => ∀ v w, pickV pv i v w → ∃ B, v = .pointer (some ⟨B, 0, none⟩) ∧ B < w.heap.size) al)
    (hS : ∀ w', Below w.heap.size w w' → S w')
    (hstep : AllM (StepM P ops Q a ds w (pickV pv) (lookN dst) (lookL preds) al) N) (heag : AllM (EagerM P ops a ds w (pickV pv) (lookN dst) (lookL preds)) E) (hEal : ∀ i, i ∈ E → i ∉ al)
    (hend : ∀ f w', Below w.heap.size w w' → (∀ i, i ∈ M → pickV pv i (f (lookN dst i)) w') → (∀ i j, i ∈ M → j ∈ M → i ∈ al → j ∈ al → i ≠ j → f (lookN dst i) ≠ f (lookN dst j)) → wpAnyH P .any ops Q S F lM (fillA a ds f) w') (hQ : ∀ c a (d : Nat) v w, Q (.panic c) (Act.put a (some d) v) w → Q (.panic c) a w := by exact fun _ _ _ _ _ h => h) :
    wpAnyH P .any ops Q S fuel l0 a w := by
  have k4 : ∀ i, i ∈ M → l0.getD i true = false := fun i hi => by
    have h := hchk
    unfold modOk at h
    simp only [Bool.and_eq_true, beq_iff_eq, List.all_eq_true] at h
    exact (h.1.1.1.1.1.2 i hi).1
  have h := wpAnyH_mod hchk hQ hst.st (fun i v w hi h => hal.at hi v w h) hS hstep heag hEal hend M.length M l0 (fun d => a.tmps.getD d undef) w rfl hsz (fun _ _ => rfl) (fun i hi => ⟨fun _ => hi, fun _ => k4 i hi⟩) (fun _ h => h) hnd (Below.refl _ _) (fun i hi hn => absurd hi hn) (fun i j hi _ hn => absurd hi hn) (fun i hi hn => absurd hi hn)
  rw [fillA_id] at h
  rw [hf]
  exact h
end
theorem Sx.addBox {w0 w : World} {bs : List Bx} {fs : List Fx} (h : Sx w0 w bs fs) {B T : Nat} {cs : Array Value} (hB : w.heap[B]? = some (.cells cs T (0, 0))) (h1 : w0.heap.size ≤ B) (hp : cs.toList.all plainV = true) (hn : ∀ b, b ∈ bs → b.1 ≠ B) : Sx w0 w ((B, cs, T) :: bs) fs := by
  refine ⟨h.bel, fun i b hi => ?_, ?_, h.fra⟩
  · match i, hi with
    | 0, hi => simp at hi; subst hi; exact ⟨hB, h1, hp⟩
    | i + 1, hi => exact h.box i b (by simpa using hi)
  · rw [List.map_cons, List.nodup_cons]
    refine ⟨fun hm => ?_, h.nod⟩
    obtain ⟨b, hb1, hb2⟩ := List.mem_map.1 hm
    exact hn b hb1 hb2
theorem Sx.lt {w0 w : World} {bs : List Bx} {fs : List Fx} (h : Sx w0 w bs fs) : ∀ b, b ∈ bs → b.1 < w.heap.size := fun b hb => by
  obtain ⟨i, hi⟩ := List.mem_iff_getElem?.1 hb
  exact blk_lt (h.box i b hi).1
end Go.Proofs.YthdgeindjphklaaGreat

namespace Go.Proofs.YthdgeindjphklaaGreat
open Go.RowKit

/-- The best of f 0 .. f i; of two equal ones the first. -/
def bestUp (b : Rat → Rat → Bool) (f : Nat → Rat) : Nat → Rat
  | 0 => f 0
  | i + 1 => if b (f (i + 1)) (bestUp b f i) then f (i + 1) else bestUp b f i
def ltB (x y : Rat) : Bool := decide (cmpR x y < 0)
def gtB (x y : Rat) : Bool := decide (cmpR x y > 0)
theorem bestUp_all {b : Rat → Rat → Bool} {f : Nat → Rat} {P : Rat → Prop} (h : ∀ i, P (f i)) : ∀ n, P (bestUp b f n)
  | 0 => h 0
  | n + 1 => by
    unfold bestUp
    split
    · exact h _
    · exact bestUp_all h n
theorem kc6 {W a b : World} {B0 j0 B1 j1 B2 j2 B3 j3 B4 j4 B5 j5 : Nat} {v0 v1 v2 v3 v4 v5 : Value} (hb : Below a.heap.size a b) (h : Below W.heap.size W a ∧ a.cell? ⟨B0, j0, none⟩ = some (v0) ∧ a.cell? ⟨B1, j1, none⟩ = some (v1) ∧ a.cell? ⟨B2, j2, none⟩ = some (v2) ∧ a.cell? ⟨B3, j3, none⟩ = some (v3) ∧ a.cell? ⟨B4, j4, none⟩ = some (v4) ∧ a.cell? ⟨B5, j5, none⟩ = some (v5)) : Below W.heap.size W b ∧ b.cell? ⟨B0, j0, none⟩ = some (v0) ∧ b.cell? ⟨B1, j1, none⟩ = some (v1) ∧ b.cell? ⟨B2, j2, none⟩ = some (v2) ∧ b.cell? ⟨B3, j3, none⟩ = some (v3) ∧ b.cell? ⟨B4, j4, none⟩ = some (v4) ∧ b.cell? ⟨B5, j5, none⟩ = some (v5) := by
  obtain ⟨h0, k0, k1, k2, k3, k4, k5⟩ := h
  have e : ∀ B j v, a.cell? ⟨B, j, none⟩ = some v → b.cell? ⟨B, j, none⟩ = some v := fun B j v h => (hb.cell (p := ⟨B, j, none⟩) (World.block_lt_of_cell? (h := h))).trans h
  exact ⟨bt h0 hb, e _ _ _ k0, e _ _ _ k1, e _ _ _ k2, e _ _ _ k3, e _ _ _ k4, e _ _ _ k5⟩
/-- What stays in the loop: the result's box, and the best one so far in the second box. -/
structure MB (w : World) (y : R3) (q : Rat) (wr : World) : Prop where
  bel : Below w.heap.size w wr
  r : wr.heap[w.heap.size]? = some (.cells r30.arr 34 (0, 0))
  m : wr.heap[w.heap.size + 1]? = some (.cells y.arr 34 (0, 0))
  v : IsRat wr y.val q
theorem MB.below {w a b : World} {y : R3} {q : Rat} (h : MB w y q a) (hb : Below a.heap.size a b) : MB w y q b := ⟨ext_trans h.bel hb, blk_keep h.r hb (blk_lt h.r), blk_keep h.m hb (blk_lt h.m), h.v.below hb⟩
theorem MB.set {w a : World} {y x : R3} {q p : Rat} (h : MB w y q a) (hx : IsRat a x.val p) : MB w x p (((a.setCell ⟨w.heap.size + 1, 0, none⟩ (.bool x.b)).setCell ⟨w.heap.size + 1, 1, none⟩ (.slice x.a x.n x.c)).setCell ⟨w.heap.size + 1, 2, none⟩ (.slice x.d x.m x.e)) :=
  ⟨below3r h.bel (by omega), blk_keep h.r (below3r (Below.refl (w.heap.size + 1) a) (Nat.le_refl _)) (by omega), set3r h.m, hx.set3r h.m⟩
set_option maxRecDepth 100000 in
set_option maxHeartbeats 2000000 in
theorem minf_any (qs : List Rat) (v : Value) (w : World) (h : FrcsOf IsRat w v qs) (h1 : 1 ≤ qs.length) (h2 : qs.length ≤ 1000) (hz : ∀ i, szR (qs.getD i 0) 274877906944) :
    Calls Tryz.prog 165 #[v, .func (.func 57) #[] #[]] w (RetRat (bestUp ltB (fun i => qs.getD i 0) (qs.length - 1)) w) := by
  have HL := Lib.hid h
  obtain ⟨ao, cap, rfl, hE⟩ := h
  obtain ⟨bl, off, rfl, hbl, hd⟩ := hE (by omega)
  have HD := Lib.hid hd
  have HZ := Lib.hid hz
  obtain ⟨x0, x1, x2, p0, p1, p2, hx⟩ := hd 0 (by omega)
  obtain ⟨x, hxe⟩ := hx.open3
  injection hxe with hxe
  simp only [Array.mk.injEq, List.cons.injEq] at hxe
  obtain ⟨rfl, rfl, rfl, _⟩ := hxe
  have HX : Hid (IsRat w x.val (qs.getD 0 0)) := hx
  rw [Nat.zero_mul, Nat.add_zero] at p0 p1 p2
  have t1 : decide ((qs.length : Int) < 1) = false := by simp; omega
  have h0 : (0 : Int) < qs.length := by omega
  obtain ⟨n, hn⟩ : ∃ n, qs.length = n + 1 := ⟨qs.length - 1, by omega⟩
  have HN : Hid (qs.length = n + 1 ∧ qs.length - 1 = n) := ⟨hn, by omega⟩
  rw [HN.out.2]
  clear hE hd hz hx h1 hn
  go_enter Tryz.func165, Tryz.ntmps165
  go_wp2_with fail
  generalize hW0 : (w.alloc (.cells _ _)).alloc (.cells _ _) = W at *
  obtain ⟨hal, hE0, hE1, hWs⟩ := bxg2 w _ _ _ _ W hW0.symm
  have HM : Hid (MB w x (bestUp ltB (fun i => qs.getD i 0) 0) W) := ⟨hal, hE0, hE1, HX.out.below hal⟩
  clear hW0 hal hE0 hE1 hWs p0 p1 p2 h0 HX t1
  go_loopw [6] (fun iv wr => ∃ (i : Nat) (y : R3), 1 ≤ i ∧ i ≤ qs.length ∧ iv = .int .i64 i ∧ Hid (MB w y (bestUp ltB (fun i => qs.getD i 0) (i - 1)) wr))
    (fun iv _ => qs.length - (intOf iv).toNat)
  case atStart => exact ⟨1, x, Nat.le_refl _, by have := HN.out; omega, rfl, HM⟩
  case round =>
    obtain ⟨i, y, hi1, hi, rfl, HMR⟩ := hrel
    by_cases hlt : i < qs.length
    · obtain ⟨a0, a1, a2, p0, p1, p2, hqa⟩ := HD.out i hlt
      have c : ∀ j v, w.cell? ⟨bl, j, none⟩ = some v → wr.cell? ⟨bl, j, none⟩ = some v := fun j v h => (HMR.out.bel.cell (p := ⟨bl, j, none⟩) hbl).trans h
      replace p0 := c _ _ p0
      replace p1 := c _ _ p1
      replace p2 := c _ _ p2
      obtain ⟨z, hze⟩ := hqa.open3
      injection hze with hze
      simp only [Array.mk.injEq, List.cons.injEq] at hze
      obtain ⟨rfl, rfl, rfl, _⟩ := hze
      have HA : Hid (IsRat wr z.val (qs.getD i 0)) := hqa.below HMR.out.bel
      have HY := Lib.hid HMR.out.v
      obtain ⟨s0, s1, s2, _, _, _⟩ := fac3 HMR.out.m
      have hlt' : (i : Int) < qs.length := by omega
      have hge' : (0 : Int) ≤ i := by omega
      have HLT := Lib.hid hlt
      obtain ⟨j, hj⟩ : ∃ j, i = j + 1 := ⟨i - 1, by omega⟩
      have ej : i - 1 = j := by omega
      rw [ej] at HMR HY
      have HF : Hid (bestUp ltB (fun i => qs.getD i 0) i = if ltB (qs.getD i 0) (bestUp ltB (fun i => qs.getD i 0) j) then qs.getD i 0 else bestUp ltB (fun i => qs.getD i 0) j) := by rw [hj]; rfl
      have ZA := Lib.hid (HZ.out i)
      have ZB : Hid (szR (bestUp ltB (fun i => qs.getD i 0) j) 274877906944) := bestUp_all (P := fun x => szR x 274877906944) HZ.out j
      have HY2 : Hid (IsRat wr y.val (bestUp ltB (fun i => qs.getD i 0) j)) := HY.out
      have HMR2 : Hid (MB w y (bestUp ltB (fun i => qs.getD i 0) j) wr) := HMR.out
      obtain ⟨C, hC⟩ : ∃ C, C = cmpR (qs.getD i 0) (bestUp ltB (fun i => qs.getD i 0) j) := ⟨_, rfl⟩
      have HC := Lib.hid hC
      have tcc : decide (C < 0) = ltB (qs.getD i 0) (bestUp ltB (fun i => qs.getD i 0) j) := by rw [hC]; rfl
      clear hqa c hC hlt hi hi1 HY HMR hj ej
      generalize qs.getD i 0 = qa at *
      generalize bestUp ltB (fun i => qs.getD i 0) j = q at *
      rename Hid (IsRat wr y.val q) => HY
      generalize ltB qa q = fb at *
      go_upto_region 7 with fail
      refine wp_region_held_drew (S := (fun w' => Below wr.heap.size wr w' ∧ w'.cell? ⟨bl, off + i * 3, none⟩ = some (.bool z.b) ∧ w'.cell? ⟨bl, off + i * 3 + 1, none⟩ = some (.slice z.a z.n z.c) ∧ w'.cell? ⟨bl, off + i * 3 + 2, none⟩ = some (.slice z.d z.m z.e) ∧ w'.cell? ⟨w.heap.size + 1, 0, none⟩ = some (.bool y.b) ∧ w'.cell? ⟨w.heap.size + 1, 1, none⟩ = some (.slice y.a y.n y.c) ∧ w'.cell? ⟨w.heap.size + 1, 2, none⟩ = some (.slice y.d y.m y.e))) (by kernel_rfl) ⟨(Below.refl _ _).drew, p0, p1, p2, s0, s1, s2⟩ (fun hh => ?_)
      have HAD := Lib.hid (Below.refl wr.heap.size wr).drew
      clear p0 p1 p2 s0 s1 s2
      refine tk0 (i := 0) (v := ?vp0) rfl (Or.inl ⟨by rfl, ?hyp0⟩) (by assumption) ?rep0
      case hyp0 => intro w hSw; (try dsimp only at hSw); first | (go_simp; done) | (go_simp; with_reducible rfl)
      try simp only [na1, na2, na3, Act.put, na4, na5, na6]
      refine tk0 (i := 1) (v := ?vp1) rfl (Or.inl ⟨by rfl, ?hyp1⟩) (by assumption) ?rep1
      case hyp1 => intro w hSw; (try dsimp only at hSw); first | (go_simp; done) | (go_simp; with_reducible rfl)
      try simp only [na1, na2, na3, Act.put, na4, na5, na6]
      refine tk0 (i := 2) (v := ?vp2) rfl (Or.inl ⟨by rfl, ?hyp2⟩) (by assumption) ?rep2
      case hyp2 => intro w hSw; (try dsimp only at hSw); first | (go_simp; done) | (go_simp; with_reducible rfl)
      try simp only [na1, na2, na3, Act.put, na4, na5, na6]
      refine tk0 (i := 3) (v := ?vp3) rfl (Or.inl ⟨by rfl, ?hyp3⟩) (by assumption) ?rep3
      case hyp3 => intro w hSw; (try dsimp only at hSw); first | (go_simp; done) | (go_simp; with_reducible rfl)
      try simp only [na1, na2, na3, Act.put, na4, na5, na6]
      refine tk0 (i := 4) (v := ?vp4) rfl (Or.inl ⟨by rfl, ?hyp4⟩) (by assumption) ?rep4
      case hyp4 => intro w hSw; (try dsimp only at hSw); first | (go_simp; done) | (go_simp; with_reducible rfl)
      try simp only [na1, na2, na3, Act.put, na4, na5, na6]
      refine tk0 (i := 5) (v := ?vp5) rfl (Or.inl ⟨by rfl, ?hyp5⟩) (by assumption) ?rep5
      case hyp5 => intro w hSw; (try dsimp only at hSw); first | (go_simp; done) | (go_simp; with_reducible rfl)
      try simp only [na1, na2, na3, Act.put, na4, na5, na6]
      refine rd1 (i := 6) rfl (fun K hK => ?_)
      go_simp
      go_wp2_with (go_at_call 57; (with_reducible refine (cmpRat_any qa q _ _ _ (HA.out.below HAD.out) (HY.out.below HAD.out) ZA.out ZB.out).mono ?_); rintro e wA ⟨rfl, hbA⟩; rw [← HC.out])
      refine hK.out _ _ (kc6 hbA hh) (fun hh => ?_)
      clear hK K
      try simp only [na1, na2, na3, Act.put, na4, na5, na6]
      refine tk0 (i := 7) (v := ?vp7) rfl (Or.inl ⟨by rfl, ?hyp7⟩) (by assumption) ?rep7
      case hyp7 => intro w hSw; (try dsimp only at hSw); first | (go_simp; done) | (go_simp; with_reducible rfl)
      try simp only [na1, na2, na3, Act.put, na4, na5, na6]
      refine wpAnyH_done (by kernel_rfl) ?_ _
      have HM2 : Hid (MB w y q wA) := HMR2.out.below (bt HAD.out hbA)
      have HA2 : Hid (IsRat wA z.val qa) := HA.out.below (bt HAD.out hbA)
      obtain ⟨_, p0, p1, p2, _, _, _⟩ := hh
      obtain ⟨s0, s1, s2, f0, f1, f2⟩ := fac3 HM2.out.m
      clear hbA
      cases fb with
      | true =>
        have HQ : Hid (bestUp ltB (fun i => qs.getD i 0) i = qa) := HF.out
        go_wp2_with fail
        exact ⟨⟨i + 1, z, by omega, by have := HLT.out; omega, by go_num, by rw [show i + 1 - 1 = i by omega, HQ.out]; exact HM2.out.set HA2.out⟩, meas_up HLT.out⟩
      | false =>
        have HQ : Hid (bestUp ltB (fun i => qs.getD i 0) i = q) := HF.out
        go_wp2_with fail
        exact ⟨⟨i + 1, y, by omega, by have := HLT.out; omega, by go_num, by rw [show i + 1 - 1 = i by omega, HQ.out]; exact HM2⟩, meas_up HLT.out⟩
    · obtain rfl : i = qs.length := by omega
      rw [HN.out.2] at HMR
      obtain ⟨s0, s1, s2, _, _, _⟩ := fac3 HMR.out.m
      obtain ⟨g0, g1, g2, f0, f1, f2⟩ := fac3 (x := r30) HMR.out.r
      go_wp2_with fail
      obtain ⟨h0, h1, h2, _, _, _⟩ := fac3 (x := y) (set3r (x := y) HMR.out.r)
      refine bodyPost_ret (v := y.val) (by simp [results, Tryz.results165, go_sem, h0, h1, h2]) rfl ⟨_, rfl, HMR.out.v.set3r HMR.out.r, below3r HMR.out.bel (by omega)⟩
set_option maxRecDepth 100000 in
set_option maxHeartbeats 2000000 in
theorem maxf_any (qs : List Rat) (v : Value) (w : World) (h : FrcsOf IsRat w v qs) (h1 : 1 ≤ qs.length) (h2 : qs.length ≤ 1000) (hz : ∀ i, szR (qs.getD i 0) 274877906944) :
    Calls Tryz.prog 166 #[v, .func (.func 57) #[] #[]] w (RetRat (bestUp gtB (fun i => qs.getD i 0) (qs.length - 1)) w) := by
  have HL := Lib.hid h
  obtain ⟨ao, cap, rfl, hE⟩ := h
  obtain ⟨bl, off, rfl, hbl, hd⟩ := hE (by omega)
  have HD := Lib.hid hd
  have HZ := Lib.hid hz
  obtain ⟨x0, x1, x2, p0, p1, p2, hx⟩ := hd 0 (by omega)
  obtain ⟨x, hxe⟩ := hx.open3
  injection hxe with hxe
  simp only [Array.mk.injEq, List.cons.injEq] at hxe
  obtain ⟨rfl, rfl, rfl, _⟩ := hxe
  have HX : Hid (IsRat w x.val (qs.getD 0 0)) := hx
  rw [Nat.zero_mul, Nat.add_zero] at p0 p1 p2
  have t1 : decide ((qs.length : Int) < 1) = false := by simp; omega
  have h0 : (0 : Int) < qs.length := by omega
  obtain ⟨n, hn⟩ : ∃ n, qs.length = n + 1 := ⟨qs.length - 1, by omega⟩
  have HN : Hid (qs.length = n + 1 ∧ qs.length - 1 = n) := ⟨hn, by omega⟩
  rw [HN.out.2]
  clear hE hd hz hx h1 hn
  go_enter Tryz.func166, Tryz.ntmps166
  go_wp2_with fail
  generalize hW0 : (w.alloc (.cells _ _)).alloc (.cells _ _) = W at *
  obtain ⟨hal, hE0, hE1, hWs⟩ := bxg2 w _ _ _ _ W hW0.symm
  have HM : Hid (MB w x (bestUp gtB (fun i => qs.getD i 0) 0) W) := ⟨hal, hE0, hE1, HX.out.below hal⟩
  clear hW0 hal hE0 hE1 hWs p0 p1 p2 h0 HX t1
  go_loopw [6] (fun iv wr => ∃ (i : Nat) (y : R3), 1 ≤ i ∧ i ≤ qs.length ∧ iv = .int .i64 i ∧ Hid (MB w y (bestUp gtB (fun i => qs.getD i 0) (i - 1)) wr))
    (fun iv _ => qs.length - (intOf iv).toNat)
  case atStart => exact ⟨1, x, Nat.le_refl _, by have := HN.out; omega, rfl, HM⟩
  case round =>
    obtain ⟨i, y, hi1, hi, rfl, HMR⟩ := hrel
    by_cases hlt : i < qs.length
    · obtain ⟨a0, a1, a2, p0, p1, p2, hqa⟩ := HD.out i hlt
      have c : ∀ j v, w.cell? ⟨bl, j, none⟩ = some v → wr.cell? ⟨bl, j, none⟩ = some v := fun j v h => (HMR.out.bel.cell (p := ⟨bl, j, none⟩) hbl).trans h
      replace p0 := c _ _ p0
      replace p1 := c _ _ p1
      replace p2 := c _ _ p2
      obtain ⟨z, hze⟩ := hqa.open3
      injection hze with hze
      simp only [Array.mk.injEq, List.cons.injEq] at hze
      obtain ⟨rfl, rfl, rfl, _⟩ := hze
      have HA : Hid (IsRat wr z.val (qs.getD i 0)) := hqa.below HMR.out.bel
      have HY := Lib.hid HMR.out.v
      obtain ⟨s0, s1, s2, _, _, _⟩ := fac3 HMR.out.m
      have hlt' : (i : Int) < qs.length := by omega
      have hge' : (0 : Int) ≤ i := by omega
      have HLT := Lib.hid hlt
      obtain ⟨j, hj⟩ : ∃ j, i = j + 1 := ⟨i - 1, by omega⟩
      have ej : i - 1 = j := by omega
      rw [ej] at HMR HY
      have HF : Hid (bestUp gtB (fun i => qs.getD i 0) i = if gtB (qs.getD i 0) (bestUp gtB (fun i => qs.getD i 0) j) then qs.getD i 0 else bestUp gtB (fun i => qs.getD i 0) j) := by rw [hj]; rfl
      have ZA := Lib.hid (HZ.out i)
      have ZB : Hid (szR (bestUp gtB (fun i => qs.getD i 0) j) 274877906944) := bestUp_all (P := fun x => szR x 274877906944) HZ.out j
      have HY2 : Hid (IsRat wr y.val (bestUp gtB (fun i => qs.getD i 0) j)) := HY.out
      have HMR2 : Hid (MB w y (bestUp gtB (fun i => qs.getD i 0) j) wr) := HMR.out
      obtain ⟨C, hC⟩ : ∃ C, C = cmpR (qs.getD i 0) (bestUp gtB (fun i => qs.getD i 0) j) := ⟨_, rfl⟩
      have HC := Lib.hid hC
      have tcc : decide (C > 0) = gtB (qs.getD i 0) (bestUp gtB (fun i => qs.getD i 0) j) := by rw [hC]; rfl
      clear hqa c hC hlt hi hi1 HY HMR hj ej
      generalize qs.getD i 0 = qa at *
      generalize bestUp gtB (fun i => qs.getD i 0) j = q at *
      rename Hid (IsRat wr y.val q) => HY
      generalize gtB qa q = fb at *
      go_upto_region 7 with fail
      refine wp_region_held_drew (S := (fun w' => Below wr.heap.size wr w' ∧ w'.cell? ⟨bl, off + i * 3, none⟩ = some (.bool z.b) ∧ w'.cell? ⟨bl, off + i * 3 + 1, none⟩ = some (.slice z.a z.n z.c) ∧ w'.cell? ⟨bl, off + i * 3 + 2, none⟩ = some (.slice z.d z.m z.e) ∧ w'.cell? ⟨w.heap.size + 1, 0, none⟩ = some (.bool y.b) ∧ w'.cell? ⟨w.heap.size + 1, 1, none⟩ = some (.slice y.a y.n y.c) ∧ w'.cell? ⟨w.heap.size + 1, 2, none⟩ = some (.slice y.d y.m y.e))) (by kernel_rfl) ⟨(Below.refl _ _).drew, p0, p1, p2, s0, s1, s2⟩ (fun hh => ?_)
      have HAD := Lib.hid (Below.refl wr.heap.size wr).drew
      clear p0 p1 p2 s0 s1 s2
      refine tk0 (i := 0) (v := ?vp0) rfl (Or.inl ⟨by rfl, ?hyp0⟩) (by assumption) ?rep0
      case hyp0 => intro w hSw; (try dsimp only at hSw); first | (go_simp; done) | (go_simp; with_reducible rfl)
      try simp only [na1, na2, na3, Act.put, na4, na5, na6]
      refine tk0 (i := 1) (v := ?vp1) rfl (Or.inl ⟨by rfl, ?hyp1⟩) (by assumption) ?rep1
      case hyp1 => intro w hSw; (try dsimp only at hSw); first | (go_simp; done) | (go_simp; with_reducible rfl)
      try simp only [na1, na2, na3, Act.put, na4, na5, na6]
      refine tk0 (i := 2) (v := ?vp2) rfl (Or.inl ⟨by rfl, ?hyp2⟩) (by assumption) ?rep2
      case hyp2 => intro w hSw; (try dsimp only at hSw); first | (go_simp; done) | (go_simp; with_reducible rfl)
      try simp only [na1, na2, na3, Act.put, na4, na5, na6]
      refine tk0 (i := 3) (v := ?vp3) rfl (Or.inl ⟨by rfl, ?hyp3⟩) (by assumption) ?rep3
      case hyp3 => intro w hSw; (try dsimp only at hSw); first | (go_simp; done) | (go_simp; with_reducible rfl)
      try simp only [na1, na2, na3, Act.put, na4, na5, na6]
      refine tk0 (i := 4) (v := ?vp4) rfl (Or.inl ⟨by rfl, ?hyp4⟩) (by assumption) ?rep4
      case hyp4 => intro w hSw; (try dsimp only at hSw); first | (go_simp; done) | (go_simp; with_reducible rfl)
      try simp only [na1, na2, na3, Act.put, na4, na5, na6]
      refine tk0 (i := 5) (v := ?vp5) rfl (Or.inl ⟨by rfl, ?hyp5⟩) (by assumption) ?rep5
      case hyp5 => intro w hSw; (try dsimp only at hSw); first | (go_simp; done) | (go_simp; with_reducible rfl)
      try simp only [na1, na2, na3, Act.put, na4, na5, na6]
      refine rd1 (i := 6) rfl (fun K hK => ?_)
      go_simp
      go_wp2_with (go_at_call 57; (with_reducible refine (cmpRat_any qa q _ _ _ (HA.out.below HAD.out) (HY.out.below HAD.out) ZA.out ZB.out).mono ?_); rintro e wA ⟨rfl, hbA⟩; rw [← HC.out])
      refine hK.out _ _ (kc6 hbA hh) (fun hh => ?_)
      clear hK K
      try simp only [na1, na2, na3, Act.put, na4, na5, na6]
      refine tk0 (i := 7) (v := ?vp7) rfl (Or.inl ⟨by rfl, ?hyp7⟩) (by assumption) ?rep7
      case hyp7 => intro w hSw; (try dsimp only at hSw); first | (go_simp; done) | (go_simp; with_reducible rfl)
      try simp only [na1, na2, na3, Act.put, na4, na5, na6]
      refine wpAnyH_done (by kernel_rfl) ?_ _
      have HM2 : Hid (MB w y q wA) := HMR2.out.below (bt HAD.out hbA)
      have HA2 : Hid (IsRat wA z.val qa) := HA.out.below (bt HAD.out hbA)
      obtain ⟨_, p0, p1, p2, _, _, _⟩ := hh
      obtain ⟨s0, s1, s2, f0, f1, f2⟩ := fac3 HM2.out.m
      clear hbA
      cases fb with
      | true =>
        have HQ : Hid (bestUp gtB (fun i => qs.getD i 0) i = qa) := HF.out
        go_wp2_with fail
        exact ⟨⟨i + 1, z, by omega, by have := HLT.out; omega, by go_num, by rw [show i + 1 - 1 = i by omega, HQ.out]; exact HM2.out.set HA2.out⟩, meas_up HLT.out⟩
      | false =>
        have HQ : Hid (bestUp gtB (fun i => qs.getD i 0) i = q) := HF.out
        go_wp2_with fail
        exact ⟨⟨i + 1, y, by omega, by have := HLT.out; omega, by go_num, by rw [show i + 1 - 1 = i by omega, HQ.out]; exact HM2⟩, meas_up HLT.out⟩
    · obtain rfl : i = qs.length := by omega
      rw [HN.out.2] at HMR
      obtain ⟨s0, s1, s2, _, _, _⟩ := fac3 HMR.out.m
      obtain ⟨g0, g1, g2, f0, f1, f2⟩ := fac3 (x := r30) HMR.out.r
      go_wp2_with fail
      obtain ⟨h0, h1, h2, _, _, _⟩ := fac3 (x := y) (set3r (x := y) HMR.out.r)
      refine bodyPost_ret (v := y.val) (by simp [results, Tryz.results166, go_sem, h0, h1, h2]) rfl ⟨_, rfl, HMR.out.v.set3r HMR.out.r, below3r HMR.out.bel (by omega)⟩
end Go.Proofs.YthdgeindjphklaaGreat

namespace Go.Proofs.YthdgeindjphklaaGreat
open Go.RowKit

theorem lo4 (a c : Rat) : bestUp ltB (fun i => [a, a, c, c].getD i 0) 3 = loQ a c := by
  unfold bestUp bestUp bestUp bestUp loQ ltB cmpR
  simp only [List.getD, List.getElem?_cons_succ, List.getElem?_cons_zero, Option.getD_some]
  grind
theorem hi4 (a c : Rat) : bestUp gtB (fun i => [a, a, c, c].getD i 0) 3 = hiQ a c := by
  unfold bestUp bestUp bestUp bestUp hiQ gtB cmpR
  simp only [List.getD, List.getElem?_cons_succ, List.getElem?_cons_zero, Option.getD_some]
  grind
theorem fracs4 {W : World} {B T : Nat} {x1 x2 x3 x4 : R3} {a b c d : Rat} (h : W.heap[B]? = some (.cells #[.bool x1.b, .slice x1.a x1.n x1.c, .slice x1.d x1.m x1.e, .bool x2.b, .slice x2.a x2.n x2.c, .slice x2.d x2.m x2.e, .bool x3.b, .slice x3.a x3.n x3.c, .slice x3.d x3.m x3.e, .bool x4.b, .slice x4.a x4.n x4.c, .slice x4.d x4.m x4.e] T (0, 0))) (h1 : IsRat W x1.val a) (h2 : IsRat W x2.val b) (h3 : IsRat W x3.val c) (h4 : IsRat W x4.val d) : FrcsOf IsRat W (.slice (some ⟨B, 0, none⟩) 4 4) [a, b, c, d] := by
  refine ⟨_, 4, rfl, fun _ => ⟨B, 0, rfl, blk_lt h, fun i hi => ?_⟩⟩
  match i, hi with
  | 0, _ => exact ⟨_, _, _, blk_cell h 0 _ rfl, blk_cell h 1 _ rfl, blk_cell h 2 _ rfl, h1⟩
  | 1, _ => exact ⟨_, _, _, blk_cell h 3 _ rfl, blk_cell h 4 _ rfl, blk_cell h 5 _ rfl, h2⟩
  | 2, _ => exact ⟨_, _, _, blk_cell h 6 _ rfl, blk_cell h 7 _ rfl, blk_cell h 8 _ rfl, h3⟩
  | 3, _ => exact ⟨_, _, _, blk_cell h 9 _ rfl, blk_cell h 10 _ rfl, blk_cell h 11 _ rfl, h4⟩
  | i + 4, hi => simp at hi; omega
theorem get4 {P : Rat → Prop} {a b c d : Rat} (h0 : P 0) (h1 : P a) (h2 : P b) (h3 : P c) (h4 : P d) : ∀ i, P ([a, b, c, d].getD i 0)
  | 0 => h1
  | 1 => h2
  | 2 => h3
  | 3 => h4
  | i + 4 => h0
theorem szR_zero (k : Nat) (hk : 1 ≤ k) : szR 0 k := szR_mono (szR_int (n := 0) (k := 1) (by unfold b64; decide) (by omega)) hk
set_option maxRecDepth 100000 in
set_option maxHeartbeats 2000000 in
theorem around_any (qs : List Rat) (v : Value) (w : World) (h : FrcsOf IsRat w v qs) (h1 : 1 ≤ qs.length) (h2 : qs.length ≤ 1000) (hz : ∀ i, szR (qs.getD i 0) 274877906944) :
    Calls Tryz.prog 116 #[v] w (RetRng (bestUp ltB (fun i => qs.getD i 0) (qs.length - 1)) (bestUp gtB (fun i => qs.getD i 0) (qs.length - 1)) w) := by
  have H := Lib.hid h
  clear h
  have H1 := Lib.hid h1
  clear h1
  have H2 := Lib.hid h2
  clear h2
  have HZ := Lib.hid hz
  clear hz
  obtain ⟨ao, cap, rfl, _⟩ := H.out
  go_enter Tryz.func116, Tryz.ntmps116
  go_wp2_with fail
  generalize hW0 : w.alloc (.cells _ _) = W at *
  obtain ⟨hal, hE0, hWs⟩ := bxg1 w _ _ W hW0.symm
  have HB := Lib.hid hal
  have HWS := Lib.hid hWs
  have HE0 := Lib.hid hE0
  clear hW0 hal hWs hE0
  obtain ⟨g0, g1, g2, g3, g4, g5, f0, f1, f2, f3, f4, f5⟩ := fac6 (x := r30) (y := r30) HE0.out
  refine (minf_any qs _ _ (H.out.below (fun _ _ _ _ h hb => h.below hb) HB.out) H1.out H2.out HZ.out).mono ?_
  rintro e w1 ⟨v1, rfl, hv1, hb1⟩
  obtain ⟨z1, rfl⟩ := hv1.open3
  replace HE0 := Lib.hid (blk_keep HE0.out hb1 (blk_lt HE0.out))
  replace HB := Lib.hid (bt HB.out hb1)
  have HVz1 := Lib.hid hv1
  clear hv1
  clear g0 g1 g2 g3 g4 g5 f0 f1 f2 f3 f4 f5
  obtain ⟨g0, g1, g2, g3, g4, g5, f0, f1, f2, f3, f4, f5⟩ := fac6 (x := r30) (y := r30) HE0.out
  clear hb1
  go_wp2_with fail
  refine (maxf_any qs _ _ (H.out.below (fun _ _ _ _ h hb => h.below hb) HB.out) H1.out H2.out HZ.out).mono ?_
  rintro e w2 ⟨v2, rfl, hv2, hb2⟩
  obtain ⟨z2, rfl⟩ := hv2.open3
  replace HVz1 := Lib.hid (HVz1.out.below hb2)
  replace HE0 := Lib.hid (blk_keep HE0.out hb2 (blk_lt HE0.out))
  replace HB := Lib.hid (bt HB.out hb2)
  have HVz2 := Lib.hid hv2
  clear hv2
  clear g0 g1 g2 g3 g4 g5 f0 f1 f2 f3 f4 f5
  obtain ⟨g0, g1, g2, g3, g4, g5, f0, f1, f2, f3, f4, f5⟩ := fac6 (x := r30) (y := r30) HE0.out
  clear hb2
  go_wp2_with fail
  obtain ⟨h0, h1, h2, h3, h4, h5, _, _, _, _, _, _⟩ := fac6 (x := z1) (y := z2) (set6r (p := r30) (q := r30) (x := z1) (y := z2) HE0.out)
  refine bodyPost_ret (v := rngV z1 z2) (by simp [results, Tryz.results116, go_sem, h0, h1, h2, h3, h4, h5]) rfl ⟨_, rfl, ⟨z1, z2, rfl, IsRat.set6r (p := r30) (q := r30) HVz1.out HE0.out, IsRat.set6r (p := r30) (q := r30) HVz2.out HE0.out⟩, below6r HB.out (by omega)⟩
set_option maxRecDepth 100000 in
set_option maxHeartbeats 2000000 in
theorem rhull_any (a b c d : Rat) (vx vy : Value) (w : World) (hx : IsRng w vx a b) (hy : IsRng w vy c d) (s1 : szR a 274877906944) (s2 : szR b 274877906944) (s3 : szR c 274877906944) (s4 : szR d 274877906944) :
    Calls Tryz.prog 52 #[vx, vy] w (RetRng (bestUp ltB (fun i => [a, b, c, d].getD i 0) 3) (bestUp gtB (fun i => [a, b, c, d].getD i 0) 3) w) := by
  obtain ⟨x1, x2, rfl, hx1, hx2⟩ := hx
  have HVx1 := Lib.hid hx1
  have HVx2 := Lib.hid hx2
  clear hx1 hx2
  obtain ⟨y1, y2, rfl, hy1, hy2⟩ := hy
  have HVy1 := Lib.hid hy1
  have HVy2 := Lib.hid hy2
  clear hy1 hy2
  have S1 := Lib.hid s1
  clear s1
  have S2 := Lib.hid s2
  clear s2
  have S3 := Lib.hid s3
  clear s3
  have S4 := Lib.hid s4
  clear s4
  go_enter Tryz.func52, Tryz.ntmps52
  go_wp2_with fail
  generalize hW0 : (((w.alloc (.cells _ _)).alloc (.cells _ _)).alloc (.cells _ _)).alloc (.cells _ _) = W at *
  obtain ⟨hal, hE0, hE1, hE2, hE3, hWs⟩ := bxg4 w _ _ _ _ _ _ _ _ W hW0.symm
  have HB := Lib.hid hal
  have HE2 := Lib.hid hE2
  have HE3 := Lib.hid hE3
  clear hW0 hal hWs hE0 hE1 hE2 hE3
  replace HVx1 := Lib.hid (HVx1.out.below HB.out)
  replace HVx2 := Lib.hid (HVx2.out.below HB.out)
  replace HVy1 := Lib.hid (HVy1.out.below HB.out)
  replace HVy2 := Lib.hid (HVy2.out.below HB.out)
  obtain ⟨g0, g1, g2, g3, g4, g5, f0, f1, f2, f3, f4, f5⟩ := fac6 (x := r30) (y := r30) HE2.out
  refine (around_any [a, b, c, d] _ _ (fracs4 HE3.out HVx1.out HVx2.out HVy1.out HVy2.out) (by simp) (by simp) (get4 (P := fun x => szR x 274877906944) (szR_zero _ (by omega)) S1.out S2.out S3.out S4.out)).mono ?_
  rintro e w1 ⟨v1, rfl, ⟨o1, o2, rfl, hv1, hw1⟩, hb1⟩
  replace HVx1 := Lib.hid (HVx1.out.below hb1)
  replace HVx2 := Lib.hid (HVx2.out.below hb1)
  replace HVy1 := Lib.hid (HVy1.out.below hb1)
  replace HVy2 := Lib.hid (HVy2.out.below hb1)
  replace HE2 := Lib.hid (blk_keep HE2.out hb1 (blk_lt HE2.out))
  replace HB := Lib.hid (bt HB.out hb1)
  have HVo1 := Lib.hid hv1
  have HVo2 := Lib.hid hw1
  clear hv1 hw1
  clear g0 g1 g2 g3 g4 g5 f0 f1 f2 f3 f4 f5
  obtain ⟨g0, g1, g2, g3, g4, g5, f0, f1, f2, f3, f4, f5⟩ := fac6 (x := r30) (y := r30) HE2.out
  clear hb1
  go_wp2_with fail
  obtain ⟨h0, h1, h2, h3, h4, h5, _, _, _, _, _, _⟩ := fac6 (x := o1) (y := o2) (set6r (p := r30) (q := r30) (x := o1) (y := o2) HE2.out)
  refine bodyPost_ret (v := rngV o1 o2) (by simp [results, Tryz.results52, go_sem, h0, h1, h2, h3, h4, h5]) rfl ⟨_, rfl, ⟨o1, o2, rfl, IsRat.set6r (p := r30) (q := r30) HVo1.out HE2.out, IsRat.set6r (p := r30) (q := r30) HVo2.out HE2.out⟩, below6r HB.out (by omega)⟩
theorem lhull_any (a c : Rat) (v u : Value) (w : World) (h : IsRng w v a a) (k : IsRng w u c c) (s1 : szR a 274877906944) (s2 : szR c 274877906944) : Calls Tryz.prog 52 #[v, u] w (RetRng (loQ a c) (hiQ a c) w) := by
  have := rhull_any a a c c v u w h k s1 s1 s2 s2
  rw [lo4, hi4] at this
  exact this
set_option maxRecDepth 100000 in
set_option maxHeartbeats 2000000 in
theorem lrange_any (n0 d0 n1 d1 : Int) (w : World) (r0 : i64P (n0, d0)) (r1 : i64P (n1, d1)) :
    Calls Tryz.prog 15 #[.agg #[.int .i64 n0, .int .i64 d0, .int .i64 n1, .int .i64 d1]] w (RetRng (loQ (fracQ n0 d0) (fracQ n1 d1)) (hiQ (fracQ n0 d0) (fracQ n1 d1)) w) := by
  have R0 := Lib.hid r0
  clear r0
  have R1 := Lib.hid r1
  clear r1
  go_enter Tryz.func15, Tryz.ntmps15
  go_wp2_with fail
  generalize hW0 : (w.alloc (.cells _ _)).alloc (.cells _ _) = W at *
  obtain ⟨hal, hE0, hE1, hWs⟩ := bxg2 w _ _ _ _ W hW0.symm
  have HB := Lib.hid hal
  have HWS := Lib.hid hWs
  have HE0 := Lib.hid hE0
  have HE1 := Lib.hid hE1
  clear hW0 hal hWs hE0 hE1
  have xc0 := blk_cell HE0.out 0 _ rfl
  have xc1 := blk_cell HE0.out 1 _ rfl
  have xc2 := blk_cell HE0.out 2 _ rfl
  have xc3 := blk_cell HE0.out 3 _ rfl
  obtain ⟨g0, g1, g2, g3, g4, g5, f0, f1, f2, f3, f4, f5⟩ := fac6 (x := r30) (y := r30) HE1.out
  have S1 : Hid (szR (fracQ n0 d0) 274877906944) := szR_mono (fracQ_szR n0 d0 R0.out.1.1 R0.out.1.2 R0.out.2.1 R0.out.2.2) (by omega)
  have S2 : Hid (szR (fracQ n1 d1) 274877906944) := szR_mono (fracQ_szR n1 d1 R1.out.1.1 R1.out.1.2 R1.out.2.1 R1.out.2.2) (by omega)
  obtain ⟨⟨ra1, ra2⟩, ra3, ra4⟩ := R0.out
  obtain ⟨⟨rb1, rb2⟩, rb3, rb4⟩ := R1.out
  have ra1 : -9223372036854775808 ≤ n0 := ra1
  have ra2 : n0 ≤ 9223372036854775807 := ra2
  have ra3 : -9223372036854775808 ≤ d0 := ra3
  have ra4 : d0 ≤ 9223372036854775807 := ra4
  have rb1 : -9223372036854775808 ≤ n1 := rb1
  have rb2 : n1 ≤ 9223372036854775807 := rb2
  have rb3 : -9223372036854775808 ≤ d1 := rb3
  have rb4 : d1 ≤ 9223372036854775807 := rb4
  have N3 : Hid (w.heap.size + 1 ≤ W.heap.size) := by show _ ≤ _; have := HWS.out; omega
  have N0 : Hid (w.heap.size < w.heap.size + 1) := by show _ < _; omega
  refine wp_region_held_drew (S := (fun w' => Below (w.heap.size + 1) W w' ∧ w'.cell? ⟨w.heap.size, 0, none⟩ = some (.int .i64 n0) ∧ w'.cell? ⟨w.heap.size, 1, none⟩ = some (.int .i64 d0) ∧ w'.cell? ⟨w.heap.size, 2, none⟩ = some (.int .i64 n1) ∧ w'.cell? ⟨w.heap.size, 3, none⟩ = some (.int .i64 d1))) (by kernel_rfl) ⟨(Below.refl _ _).drew, xc0, xc1, xc2, xc3⟩ (fun hh => ?_)
  clear xc0 xc1 xc2 xc3 g0 g1 g2 g3 g4 g5 f0 f1 f2 f3 f4 f5
  have hdr := (Below.refl W.heap.size W).drew
  replace HE0 := Lib.hid (blk_keep HE0.out hdr (blk_lt HE0.out))
  replace HE1 := Lib.hid (blk_keep HE1.out hdr (blk_lt HE1.out))
  replace HB := Lib.hid (bt HB.out hdr)
  clear hdr
  refine tk0 (i := 0) (v := ?vp0) rfl (Or.inl ⟨by rfl, ?hyp0⟩) (by assumption) ?rep0
  case hyp0 => intro w hSw; (try dsimp only at hSw); first | (go_simp; done) | (go_simp; with_reducible rfl)
  try simp only [na1, na2, na3, Act.put, na4, na5, na6]
  refine tk0 (i := 1) (v := ?vp1) rfl (Or.inl ⟨by rfl, ?hyp1⟩) (by assumption) ?rep1
  case hyp1 => intro w hSw; (try dsimp only at hSw); first | (go_simp; done) | (go_simp; with_reducible rfl)
  try simp only [na1, na2, na3, Act.put, na4, na5, na6]
  refine tk0 (i := 4) (v := ?vp4) rfl (Or.inl ⟨by rfl, ?hyp4⟩) (by assumption) ?rep4
  case hyp4 => intro w hSw; (try dsimp only at hSw); first | (go_simp; done) | (go_simp; with_reducible rfl)
  try simp only [na1, na2, na3, Act.put, na4, na5, na6]
  refine tk0 (i := 5) (v := ?vp5) rfl (Or.inl ⟨by rfl, ?hyp5⟩) (by assumption) ?rep5
  case hyp5 => intro w hSw; (try dsimp only at hSw); first | (go_simp; done) | (go_simp; with_reducible rfl)
  try simp only [na1, na2, na3, Act.put, na4, na5, na6]
  refine rd1 (i := 2) rfl (fun K hK => ?_)
  go_simp
  go_wp2_with (go_at_call 18; (with_reducible refine (of_any n0 d0 _ ra1 ra2 ra3 ra4).mono ?_); rintro e w1 ⟨v1, rfl, hv1, hb1⟩; obtain ⟨z1, rfl⟩ := hv1.open3)
  refine hK.out _ _ (kd4 N3.out hb1 hh) (fun hh => ?_)
  clear hK K
  try simp only [na1, na2, na3, Act.put, na4, na5, na6]
  replace HE0 := Lib.hid (blk_keep HE0.out hb1 (blk_lt HE0.out))
  replace HE1 := Lib.hid (blk_keep HE1.out hb1 (blk_lt HE1.out))
  replace HB := Lib.hid (bt HB.out hb1)
  have HVz1 := Lib.hid hv1
  clear hv1
  clear hb1
  refine rd1 (i := 3) rfl (fun K hK => ?_)
  go_simp
  go_wp2_with (go_at_call 44; (with_reducible refine (only_any (fracQ n0 d0) _ _ HVz1.out).mono ?_); rintro e w2 ⟨v2, rfl, ⟨p1, p2, rfl, hv2, hw2⟩, hb2⟩)
  refine hK.out _ _ (kd4 N3.out hb2 hh) (fun hh => ?_)
  clear hK K
  try simp only [na1, na2, na3, Act.put, na4, na5, na6]
  replace HVz1 := Lib.hid (HVz1.out.below hb2)
  replace HE0 := Lib.hid (blk_keep HE0.out hb2 (blk_lt HE0.out))
  replace HE1 := Lib.hid (blk_keep HE1.out hb2 (blk_lt HE1.out))
  replace HB := Lib.hid (bt HB.out hb2)
  have HVp1 := Lib.hid hv2
  have HVp2 := Lib.hid hw2
  clear hv2 hw2
  clear hb2
  refine rd1 (i := 6) rfl (fun K hK => ?_)
  go_simp
  go_wp2_with (go_at_call 18; (with_reducible refine (of_any n1 d1 _ rb1 rb2 rb3 rb4).mono ?_); rintro e w3 ⟨v3, rfl, hv3, hb3⟩; obtain ⟨z2, rfl⟩ := hv3.open3)
  refine hK.out _ _ (kd4 N3.out hb3 hh) (fun hh => ?_)
  clear hK K
  try simp only [na1, na2, na3, Act.put, na4, na5, na6]
  replace HVz1 := Lib.hid (HVz1.out.below hb3)
  replace HVp1 := Lib.hid (HVp1.out.below hb3)
  replace HVp2 := Lib.hid (HVp2.out.below hb3)
  replace HE0 := Lib.hid (blk_keep HE0.out hb3 (blk_lt HE0.out))
  replace HE1 := Lib.hid (blk_keep HE1.out hb3 (blk_lt HE1.out))
  replace HB := Lib.hid (bt HB.out hb3)
  have HVz2 := Lib.hid hv3
  clear hv3
  clear hb3
  refine rd1 (i := 7) rfl (fun K hK => ?_)
  go_simp
  go_wp2_with (go_at_call 44; (with_reducible refine (only_any (fracQ n1 d1) _ _ HVz2.out).mono ?_); rintro e w4 ⟨v4, rfl, ⟨q1, q2, rfl, hv4, hw4⟩, hb4⟩)
  refine hK.out _ _ (kd4 N3.out hb4 hh) (fun hh => ?_)
  clear hK K
  try simp only [na1, na2, na3, Act.put, na4, na5, na6]
  replace HVz1 := Lib.hid (HVz1.out.below hb4)
  replace HVp1 := Lib.hid (HVp1.out.below hb4)
  replace HVp2 := Lib.hid (HVp2.out.below hb4)
  replace HVz2 := Lib.hid (HVz2.out.below hb4)
  replace HE0 := Lib.hid (blk_keep HE0.out hb4 (blk_lt HE0.out))
  replace HE1 := Lib.hid (blk_keep HE1.out hb4 (blk_lt HE1.out))
  replace HB := Lib.hid (bt HB.out hb4)
  have HVq1 := Lib.hid hv4
  have HVq2 := Lib.hid hw4
  clear hv4 hw4
  clear hb4
  refine rd1 (i := 8) rfl (fun K hK => ?_)
  go_simp
  go_wp2_with (go_at_call 52; (with_reducible refine (lhull_any (fracQ n0 d0) (fracQ n1 d1) _ _ _ (rngP HVp1.out HVp2.out) (rngP HVq1.out HVq2.out) S1.out S2.out).mono ?_); rintro e w5 ⟨v5, rfl, ⟨o1, o2, rfl, hv5, hw5⟩, hb5⟩)
  refine hK.out _ _ (kd4 N3.out hb5 hh) (fun hh => ?_)
  clear hK K
  try simp only [na1, na2, na3, Act.put, na4, na5, na6]
  replace HVz1 := Lib.hid (HVz1.out.below hb5)
  replace HVp1 := Lib.hid (HVp1.out.below hb5)
  replace HVp2 := Lib.hid (HVp2.out.below hb5)
  replace HVz2 := Lib.hid (HVz2.out.below hb5)
  replace HVq1 := Lib.hid (HVq1.out.below hb5)
  replace HVq2 := Lib.hid (HVq2.out.below hb5)
  replace HE0 := Lib.hid (blk_keep HE0.out hb5 (blk_lt HE0.out))
  replace HE1 := Lib.hid (blk_keep HE1.out hb5 (blk_lt HE1.out))
  replace HB := Lib.hid (bt HB.out hb5)
  have HVo1 := Lib.hid hv5
  have HVo2 := Lib.hid hw5
  clear hv5 hw5
  clear hb5
  obtain ⟨g0, g1, g2, g3, g4, g5, f0, f1, f2, f3, f4, f5⟩ := fac6 (x := r30) (y := r30) HE1.out
  refine rd1 (i := 9) rfl (fun K hK => ?_)
  go_simp
  refine hK.out _ _ (ks4 (Nat.le_refl _) N0.out N0.out N0.out N0.out (below6r (Below.refl _ _) (Nat.le_refl _)) hh) (fun hh => ?_)
  clear hK K
  try simp only [na1, na2, na3, Act.put, na4, na5, na6]
  refine wpAnyH_done (by kernel_rfl) ?_ _
  obtain ⟨h0, h1, h2, h3, h4, h5, _, _, _, _, _, _⟩ := fac6 (x := o1) (y := o2) (set6r (p := r30) (q := r30) (x := o1) (y := o2) HE1.out)
  go_wp2_with fail
  refine bodyPost_ret (v := rngV o1 o2) (by simp [results, Tryz.results15, go_sem, h0, h1, h2, h3, h4, h5]) rfl ⟨_, rfl, ⟨o1, o2, rfl, IsRat.set6r (p := r30) (q := r30) HVo1.out HE1.out, IsRat.set6r (p := r30) (q := r30) HVo2.out HE1.out⟩, below6r HB.out (by omega)⟩
end Go.Proofs.YthdgeindjphklaaGreat

namespace Go.Proofs.YthdgeindjphklaaGreat
open Go.RowKit

theorem method_neg6 (x y : R3) (w : World) : (method 469 36 (.agg #[.bool x.b, .slice x.a x.n x.c, .slice x.d x.m x.e, .bool y.b, .slice y.a y.n y.c, .slice y.d y.m y.e]) "Neg").run Tryz.prog w = .ok (258, .agg #[.bool x.b, .slice x.a x.n x.c, .slice x.d x.m x.e, .bool y.b, .slice y.a y.n y.c, .slice y.d y.m y.e]) w := by kernel_rfl
theorem method_add6 (x y : R3) (w : World) : (method 469 36 (.agg #[.bool x.b, .slice x.a x.n x.c, .slice x.d x.m x.e, .bool y.b, .slice y.a y.n y.c, .slice y.d y.m y.e]) "Add").run Tryz.prog w = .ok (67, .agg #[.bool x.b, .slice x.a x.n x.c, .slice x.d x.m x.e, .bool y.b, .slice y.a y.n y.c, .slice y.d y.m y.e]) w := by kernel_rfl
theorem lo22 (a b c d : Rat) : bestUp ltB (fun i => [a, b, c, d].getD i 0) 3 = loQ (loQ a b) (loQ c d) := by
  unfold bestUp bestUp bestUp bestUp loQ ltB cmpR
  simp only [List.getD, List.getElem?_cons_succ, List.getElem?_cons_zero, Option.getD_some]
  grind
theorem hi22 (a b c d : Rat) : bestUp gtB (fun i => [a, b, c, d].getD i 0) 3 = hiQ (hiQ a b) (hiQ c d) := by
  unfold bestUp bestUp bestUp bestUp hiQ gtB cmpR
  simp only [List.getD, List.getElem?_cons_succ, List.getElem?_cons_zero, Option.getD_some]
  grind
theorem lo2 (a b : Rat) : bestUp ltB (fun i => [a, b].getD i 0) 1 = loQ a b := by
  unfold bestUp bestUp loQ ltB cmpR
  simp only [List.getD, List.getElem?_cons_succ, List.getElem?_cons_zero, Option.getD_some]
  grind
theorem hi2 (a b : Rat) : bestUp gtB (fun i => [a, b].getD i 0) 1 = hiQ a b := by
  unfold bestUp bestUp hiQ gtB cmpR
  simp only [List.getD, List.getElem?_cons_succ, List.getElem?_cons_zero, Option.getD_some]
  grind
theorem around4_any (a b c d : Rat) (v : Value) (w : World) (h : FrcsOf IsRat w v [a, b, c, d]) (s1 : szR a 100000000000) (s2 : szR b 100000000000) (s3 : szR c 100000000000) (s4 : szR d 100000000000) :
    Calls Tryz.prog 116 #[v] w (RetRng (loQ (loQ a b) (loQ c d)) (hiQ (hiQ a b) (hiQ c d)) w) := by
  have := around_any [a, b, c, d] v w h (by simp) (by simp) (get4 (P := fun x => szR x 274877906944) (szR_zero _ (by omega)) (szR_mono s1 (by omega)) (szR_mono s2 (by omega)) (szR_mono s3 (by omega)) (szR_mono s4 (by omega)))
  rw [show [a, b, c, d].length - 1 = 3 from rfl, lo22, hi22] at this
  exact this
theorem around2_any (a b : Rat) (v : Value) (w : World) (h : FrcsOf IsRat w v [a, b]) (s1 : szR a 100000000000) (s2 : szR b 100000000000) :
    Calls Tryz.prog 116 #[v] w (RetRng (loQ a b) (hiQ a b) w) := by
  have := around_any [a, b] v w h (by simp) (by simp) (fun i => by
    match i with
    | 0 => exact szR_mono s1 (by omega)
    | 1 => exact szR_mono s2 (by omega)
    | i + 2 => exact szR_zero _ (by omega))
  rw [show [a, b].length - 1 = 1 from rfl, lo2, hi2] at this
  exact this
theorem fracs2 {W : World} {B T : Nat} {x1 x2 : R3} {a b : Rat} (h : W.heap[B]? = some (.cells #[.bool x1.b, .slice x1.a x1.n x1.c, .slice x1.d x1.m x1.e, .bool x2.b, .slice x2.a x2.n x2.c, .slice x2.d x2.m x2.e] T (0, 0))) (h1 : IsRat W x1.val a) (h2 : IsRat W x2.val b) : FrcsOf IsRat W (.slice (some ⟨B, 0, none⟩) 2 2) [a, b] := by
  refine ⟨_, 2, rfl, fun _ => ⟨B, 0, rfl, blk_lt h, fun i hi => ?_⟩⟩
  match i, hi with
  | 0, _ => exact ⟨_, _, _, blk_cell h 0 _ rfl, blk_cell h 1 _ rfl, blk_cell h 2 _ rfl, h1⟩
  | 1, _ => exact ⟨_, _, _, blk_cell h 3 _ rfl, blk_cell h 4 _ rfl, blk_cell h 5 _ rfl, h2⟩
  | i + 2, hi => simp at hi; omega
theorem loN_sz {a b : Rat} {k : Nat} (h1 : szR a k) (h2 : szR b k) : szR (loQ a b) k := by unfold loQ; split <;> assumption
theorem hiN_sz {a b : Rat} {k : Nat} (h1 : szR a k) (h2 : szR b k) : szR (hiQ a b) k := by unfold hiQ; split <;> assumption
set_option maxRecDepth 100000 in
set_option maxHeartbeats 4000000 in
theorem radd_any (a b c d : Rat) (vx vy : Value) (w : World) (hx : IsRng w vx a b) (hy : IsRng w vy c d) (sa : szR a 1000000000) (sb : szR b 1000000000) (sc : szR c 1000000000) (sd : szR d 1000000000) :
    Calls Tryz.prog 67 #[vx, vy] w (RetRng (a + c) (b + d) w) := by
  obtain ⟨x1, x2, rfl, h1, h2⟩ := hx
  obtain ⟨y1, y2, rfl, h3, h4⟩ := hy
  have HS := Lib.hid (((((Sx.init w).addP h1).addP h2).addP h3).addP h4)
  have Sa := Lib.hid sa
  have Sb := Lib.hid sb
  have Sc := Lib.hid sc
  have Sd := Lib.hid sd
  clear h1 h2 h3 h4 sa sb sc sd
  go_enter Tryz.func67, Tryz.ntmps67
  go_wp2_with fail
  generalize hW1 : (((w).alloc (.cells _ _)).alloc (.cells _ _)).alloc (.cells _ _) = W1 at *
  replace HS : Hid (Sx w W1 [(w.heap.size + 2, #[.bool false, .slice none 0 0, .slice none 0 0, .bool false, .slice none 0 0, .slice none 0 0], 36), (w.heap.size + 1, arr6 y1 y2, 36), (w.heap.size, arr6 x1 x2, 36)] [(true, y2.val, d), (true, y1.val, c), (true, x2.val, b), (true, x1.val, a)]) := by subst hW1; exact (((HS.out).alloc (B := w.heap.size) rfl (by rfl)).alloc (B := w.heap.size + 1) (by simp) (by rfl)).alloc (B := w.heap.size + 2) (by simp) (by rfl)
  clear hW1
  refine wp_region_held_drew (S := (fun w' => Sx w w' [(w.heap.size + 1, arr6 y1 y2, 36), (w.heap.size, arr6 x1 x2, 36)] [])) (by kernel_rfl) ((HS.out.drew).erase 0) (fun hh => ?_)
  replace HS := Lib.hid HS.out.drew
  refine tkA (i := 0) (v := ?vpr2_0_k4) rfl (Or.inl ⟨by first | rfl | kernel_rfl, ?hypr2_0_k4⟩) (by assumption) ?repr2_0_k4
  case hypr2_0_k4 => (intro u hSu; (first | (go_simp; done) | (go_simp; with_reducible rfl)))
  try simp only [nb1, nb2, nb3, Act.put, nb4, nb5, nb6]
  refine tkA (i := 1) (v := ?vpr2_1_k6) rfl (Or.inl ⟨by first | rfl | kernel_rfl, ?hypr2_1_k6⟩) (by assumption) ?repr2_1_k6
  case hypr2_1_k6 => (intro u hSu; (try dsimp only at hSu); obtain ⟨qb0c0, qb0c1, qb0c2, qb0c3, qb0c4, qb0c5, _⟩ := fac6 (x := x1) (y := x2) (hSu.at 1 _ _ _ rfl); clear hSu; (first | (go_simp; done) | (go_simp; with_reducible rfl)))
  try simp only [nb1, nb2, nb3, Act.put, nb4, nb5, nb6]
  refine tkA (i := 2) (v := ?vpr2_2_k8) rfl (Or.inl ⟨by first | rfl | kernel_rfl, ?hypr2_2_k8⟩) (by assumption) ?repr2_2_k8
  case hypr2_2_k8 => (intro u hSu; (first | (go_simp; done) | (go_simp; with_reducible rfl)))
  try simp only [nb1, nb2, nb3, Act.put, nb4, nb5, nb6]
  refine tkA (i := 3) (v := ?vpr2_3_k10) rfl (Or.inl ⟨by first | rfl | kernel_rfl, ?hypr2_3_k10⟩) (by assumption) ?repr2_3_k10
  case hypr2_3_k10 => (intro u hSu; (try dsimp only at hSu); obtain ⟨qb1c0, qb1c1, qb1c2, qb1c3, qb1c4, qb1c5, _⟩ := fac6 (x := y1) (y := y2) (hSu.at 0 _ _ _ rfl); clear hSu; (first | (go_simp; done) | (go_simp; with_reducible rfl)))
  try simp only [nb1, nb2, nb3, Act.put, nb4, nb5, nb6]
  refine tkA (i := 5) (v := ?vpr2_5_k12) rfl (Or.inl ⟨by first | rfl | kernel_rfl, ?hypr2_5_k12⟩) (by assumption) ?repr2_5_k12
  case hypr2_5_k12 => (intro u hSu; (first | (go_simp; done) | (go_simp; with_reducible rfl)))
  try simp only [nb1, nb2, nb3, Act.put, nb4, nb5, nb6]
  refine tkA (i := 6) (v := ?vpr2_6_k14) rfl (Or.inl ⟨by first | rfl | kernel_rfl, ?hypr2_6_k14⟩) (by assumption) ?repr2_6_k14
  case hypr2_6_k14 => (intro u hSu; (try dsimp only at hSu); obtain ⟨qb0c0, qb0c1, qb0c2, qb0c3, qb0c4, qb0c5, _⟩ := fac6 (x := x1) (y := x2) (hSu.at 1 _ _ _ rfl); clear hSu; (first | (go_simp; done) | (go_simp; with_reducible rfl)))
  try simp only [nb1, nb2, nb3, Act.put, nb4, nb5, nb6]
  refine tkA (i := 7) (v := ?vpr2_7_k16) rfl (Or.inl ⟨by first | rfl | kernel_rfl, ?hypr2_7_k16⟩) (by assumption) ?repr2_7_k16
  case hypr2_7_k16 => (intro u hSu; (first | (go_simp; done) | (go_simp; with_reducible rfl)))
  try simp only [nb1, nb2, nb3, Act.put, nb4, nb5, nb6]
  refine tkA (i := 8) (v := ?vpr2_8_k18) rfl (Or.inl ⟨by first | rfl | kernel_rfl, ?hypr2_8_k18⟩) (by assumption) ?repr2_8_k18
  case hypr2_8_k18 => (intro u hSu; (try dsimp only at hSu); obtain ⟨qb1c0, qb1c1, qb1c2, qb1c3, qb1c4, qb1c5, _⟩ := fac6 (x := y1) (y := y2) (hSu.at 0 _ _ _ rfl); clear hSu; (first | (go_simp; done) | (go_simp; with_reducible rfl)))
  try simp only [nb1, nb2, nb3, Act.put, nb4, nb5, nb6]
  refine rdA (i := 4) rfl (fun K hK => ?_)
  go_simp
  have a20 := HS.out.p 3 _ _ rfl
  have a21 := HS.out.p 1 _ _ rfl
  go_wp2_with (go_at_call 46; (with_reducible refine (addRat_any a c _ _ _ a20 a21 (szR_mono Sa.out (by omega)) (szR_mono Sc.out (by omega))).mono ?_); rintro e w19 ⟨v19, rfl, hv19, hb19⟩; obtain ⟨z19, rfl⟩ := hv19.open3)
  refine hK.out _ _ (Sx.below hh hb19) (fun hh => ?_)
  clear hK K
  try simp only [nb1, nb2, nb3, Act.put, nb4, nb5, nb6]
  replace HS := Lib.hid (HS.out.below hb19)
  clear hb19 a20 a21
  replace HS := Lib.hid (HS.out.addP hv19)
  clear hv19
  refine rdA (i := 9) rfl (fun K hK => ?_)
  go_simp
  have a23 := HS.out.p 3 _ _ rfl
  have a24 := HS.out.p 1 _ _ rfl
  go_wp2_with (go_at_call 46; (with_reducible refine (addRat_any b d _ _ _ a23 a24 (szR_mono Sb.out (by omega)) (szR_mono Sd.out (by omega))).mono ?_); rintro e w22 ⟨v22, rfl, hv22, hb22⟩; obtain ⟨z22, rfl⟩ := hv22.open3)
  refine hK.out _ _ (Sx.below hh hb22) (fun hh => ?_)
  clear hK K
  try simp only [nb1, nb2, nb3, Act.put, nb4, nb5, nb6]
  replace HS := Lib.hid (HS.out.below hb22)
  clear hb22 a23 a24
  replace HS := Lib.hid (HS.out.addP hv22)
  clear hv22
  refine tkA (i := 10) (v := ?vpr2_10_k26) rfl (Or.inl ⟨by first | rfl | kernel_rfl, ?hypr2_10_k26⟩) (by assumption) ?repr2_10_k26
  case hypr2_10_k26 => (intro u hSu; (first | (go_simp; done) | (go_simp; with_reducible rfl)))
  try simp only [nb1, nb2, nb3, Act.put, nb4, nb5, nb6]
  refine rdA (i := 11) rfl (fun K hK => ?_)
  have b2e := (HS.out.at 0 _ _ _ rfl)
  have b2c0 := blk_cell b2e 0 (.bool false) rfl
  have b2c1 := blk_cell b2e 1 (.slice none 0 0) rfl
  have b2c2 := blk_cell b2e 2 (.slice none 0 0) rfl
  have b2c3 := blk_cell b2e 3 (.bool false) rfl
  have b2c4 := blk_cell b2e 4 (.slice none 0 0) rfl
  have b2c5 := blk_cell b2e 5 (.slice none 0 0) rfl
  have b2f0 := blk_frozen b2e 0
  have b2f1 := blk_frozen b2e 1
  have b2f2 := blk_frozen b2e 2
  have b2f3 := blk_frozen b2e 3
  have b2f4 := blk_frozen b2e 4
  have b2f5 := blk_frozen b2e 5
  have b2l := blk_lt b2e
  clear b2e
  go_simp
  refine hK.out _ _ ((((HS.out).st_RR 0 r30 r30 z19 z22 rfl)).erase 0) (fun hh => ?_)
  clear hK K b2c0 b2c1 b2c2 b2c3 b2c4 b2c5 b2f0 b2f1 b2f2 b2f3 b2f4 b2f5 b2l
  try simp only [nb1, nb2, nb3, Act.put, nb4, nb5, nb6]
  generalize hW27 : ((((((w22).setCell _ _).setCell _ _).setCell _ _).setCell _ _).setCell _ _).setCell _ _ = W27 at *
  replace HS : Hid (Sx w W27 [(w.heap.size + 2, arr6 z19 z22, 36), (w.heap.size + 1, arr6 y1 y2, 36), (w.heap.size, arr6 x1 x2, 36)] [(true, z22.val, (b + d)), (true, z19.val, (a + c)), (true, y2.val, d), (true, y1.val, c), (true, x2.val, b), (true, x1.val, a)]) := by subst hW27; exact (HS.out).st_RR 0 r30 r30 z19 z22 rfl
  clear hW27
  refine wpAnyH_done (by kernel_rfl) ?_ _
  obtain ⟨b2c0, b2c1, b2c2, b2c3, b2c4, b2c5, b2f0, b2f1, b2f2, b2f3, b2f4, b2f5⟩ := fac6 (x := z19) (y := z22) (HS.out.at 0 _ _ _ rfl)
  have b2l := blk_lt (HS.out.at 0 _ _ _ rfl)
  go_wp2_with fail
  clear b2c0 b2c1 b2c2 b2c3 b2c4 b2c5 b2f0 b2f1 b2f2 b2f3 b2f4 b2f5 b2l
  obtain ⟨b2c0, b2c1, b2c2, b2c3, b2c4, b2c5, _⟩ := fac6 (x := z19) (y := z22) (HS.out.at 0 _ _ _ rfl)
  refine bodyPost_ret (v := .agg #[.bool z19.b, .slice z19.a z19.n z19.c, .slice z19.d z19.m z19.e, .bool z22.b, .slice z22.a z22.n z22.c, .slice z22.d z22.m z22.e]) (by simp [results, Tryz.results67, go_sem, b2c0, b2c1, b2c2, b2c3, b2c4, b2c5]) rfl ⟨_, rfl, (rngP (HS.out.p 1 _ _ rfl) (HS.out.p 0 _ _ rfl)), HS.out.bel⟩
set_option maxRecDepth 100000 in
set_option maxHeartbeats 4000000 in
theorem qsadd_any (a b c d : Rat) (vx vy : Value) (w : World) (hx : IsRngQ w vx a b) (hy : IsRngQ w vy c d) (sa : szR a 1000000000) (sb : szR b 1000000000) (sc : szR c 1000000000) (sd : szR d 1000000000) :
    Calls Tryz.prog 73 #[vx, vy] w (RetRngQ (a + c) (b + d) w) := by
  obtain ⟨x1, x2, rfl, h1, h2⟩ := hx
  obtain ⟨y1, y2, rfl, h3, h4⟩ := hy
  have HS := Lib.hid (((((Sx.init w).addQ h1).addQ h2).addQ h3).addQ h4)
  have Sa := Lib.hid sa
  have Sb := Lib.hid sb
  have Sc := Lib.hid sc
  have Sd := Lib.hid sd
  clear h1 h2 h3 h4 sa sb sc sd
  go_enter Tryz.func73, Tryz.ntmps73
  go_wp2_with fail
  generalize hW1 : (((w).alloc (.cells _ _)).alloc (.cells _ _)).alloc (.cells _ _) = W1 at *
  replace HS : Hid (Sx w W1 [(w.heap.size + 2, #[.bool false, .slice none 0 0, .slice none 0 0, .bool false, .slice none 0 0, .slice none 0 0], 42), (w.heap.size + 1, arr6 y1 y2, 42), (w.heap.size, arr6 x1 x2, 42)] [(false, y2.val, d), (false, y1.val, c), (false, x2.val, b), (false, x1.val, a)]) := by subst hW1; exact (((HS.out).alloc (B := w.heap.size) rfl (by rfl)).alloc (B := w.heap.size + 1) (by simp) (by rfl)).alloc (B := w.heap.size + 2) (by simp) (by rfl)
  clear hW1
  refine wp_region_held_drew (S := (fun w' => Sx w w' [(w.heap.size + 1, arr6 y1 y2, 42), (w.heap.size, arr6 x1 x2, 42)] [])) (by kernel_rfl) ((HS.out.drew).erase 0) (fun hh => ?_)
  replace HS := Lib.hid HS.out.drew
  refine tkA (i := 0) (v := ?vpr2_0_k4) rfl (Or.inl ⟨by first | rfl | kernel_rfl, ?hypr2_0_k4⟩) (by assumption) ?repr2_0_k4
  case hypr2_0_k4 => (intro u hSu; (first | (go_simp; done) | (go_simp; with_reducible rfl)))
  try simp only [nb1, nb2, nb3, Act.put, nb4, nb5, nb6]
  refine tkA (i := 1) (v := ?vpr2_1_k6) rfl (Or.inl ⟨by first | rfl | kernel_rfl, ?hypr2_1_k6⟩) (by assumption) ?repr2_1_k6
  case hypr2_1_k6 => (intro u hSu; (try dsimp only at hSu); obtain ⟨qb0c0, qb0c1, qb0c2, qb0c3, qb0c4, qb0c5, _⟩ := fac6 (x := x1) (y := x2) (hSu.at 1 _ _ _ rfl); clear hSu; (first | (go_simp; done) | (go_simp; with_reducible rfl)))
  try simp only [nb1, nb2, nb3, Act.put, nb4, nb5, nb6]
  refine tkA (i := 2) (v := ?vpr2_2_k8) rfl (Or.inl ⟨by first | rfl | kernel_rfl, ?hypr2_2_k8⟩) (by assumption) ?repr2_2_k8
  case hypr2_2_k8 => (intro u hSu; (first | (go_simp; done) | (go_simp; with_reducible rfl)))
  try simp only [nb1, nb2, nb3, Act.put, nb4, nb5, nb6]
  refine tkA (i := 3) (v := ?vpr2_3_k10) rfl (Or.inl ⟨by first | rfl | kernel_rfl, ?hypr2_3_k10⟩) (by assumption) ?repr2_3_k10
  case hypr2_3_k10 => (intro u hSu; (try dsimp only at hSu); obtain ⟨qb1c0, qb1c1, qb1c2, qb1c3, qb1c4, qb1c5, _⟩ := fac6 (x := y1) (y := y2) (hSu.at 0 _ _ _ rfl); clear hSu; (first | (go_simp; done) | (go_simp; with_reducible rfl)))
  try simp only [nb1, nb2, nb3, Act.put, nb4, nb5, nb6]
  refine tkA (i := 5) (v := ?vpr2_5_k12) rfl (Or.inl ⟨by first | rfl | kernel_rfl, ?hypr2_5_k12⟩) (by assumption) ?repr2_5_k12
  case hypr2_5_k12 => (intro u hSu; (first | (go_simp; done) | (go_simp; with_reducible rfl)))
  try simp only [nb1, nb2, nb3, Act.put, nb4, nb5, nb6]
  refine tkA (i := 6) (v := ?vpr2_6_k14) rfl (Or.inl ⟨by first | rfl | kernel_rfl, ?hypr2_6_k14⟩) (by assumption) ?repr2_6_k14
  case hypr2_6_k14 => (intro u hSu; (try dsimp only at hSu); obtain ⟨qb0c0, qb0c1, qb0c2, qb0c3, qb0c4, qb0c5, _⟩ := fac6 (x := x1) (y := x2) (hSu.at 1 _ _ _ rfl); clear hSu; (first | (go_simp; done) | (go_simp; with_reducible rfl)))
  try simp only [nb1, nb2, nb3, Act.put, nb4, nb5, nb6]
  refine tkA (i := 7) (v := ?vpr2_7_k16) rfl (Or.inl ⟨by first | rfl | kernel_rfl, ?hypr2_7_k16⟩) (by assumption) ?repr2_7_k16
  case hypr2_7_k16 => (intro u hSu; (first | (go_simp; done) | (go_simp; with_reducible rfl)))
  try simp only [nb1, nb2, nb3, Act.put, nb4, nb5, nb6]
  refine tkA (i := 8) (v := ?vpr2_8_k18) rfl (Or.inl ⟨by first | rfl | kernel_rfl, ?hypr2_8_k18⟩) (by assumption) ?repr2_8_k18
  case hypr2_8_k18 => (intro u hSu; (try dsimp only at hSu); obtain ⟨qb1c0, qb1c1, qb1c2, qb1c3, qb1c4, qb1c5, _⟩ := fac6 (x := y1) (y := y2) (hSu.at 0 _ _ _ rfl); clear hSu; (first | (go_simp; done) | (go_simp; with_reducible rfl)))
  try simp only [nb1, nb2, nb3, Act.put, nb4, nb5, nb6]
  refine rdA (i := 4) rfl (fun K hK => ?_)
  go_simp
  have a20 := HS.out.q 3 _ _ rfl
  have a21 := HS.out.q 1 _ _ rfl
  go_wp2_with (go_at_call 134; (with_reducible refine (qadd_any a c _ _ _ a20 a21 (szQ_mono (szQ_of Sa.out) (by omega)) (szQ_mono (szQ_of Sc.out) (by omega))).mono ?_); rintro e w19 ⟨v19, rfl, hv19, hb19⟩; obtain ⟨z19, rfl⟩ := hv19.open3)
  refine hK.out _ _ (Sx.below hh hb19) (fun hh => ?_)
  clear hK K
  try simp only [nb1, nb2, nb3, Act.put, nb4, nb5, nb6]
  replace HS := Lib.hid (HS.out.below hb19)
  clear hb19 a20 a21
  replace HS := Lib.hid (HS.out.addQ hv19)
  clear hv19
  refine rdA (i := 9) rfl (fun K hK => ?_)
  go_simp
  have a23 := HS.out.q 3 _ _ rfl
  have a24 := HS.out.q 1 _ _ rfl
  go_wp2_with (go_at_call 134; (with_reducible refine (qadd_any b d _ _ _ a23 a24 (szQ_mono (szQ_of Sb.out) (by omega)) (szQ_mono (szQ_of Sd.out) (by omega))).mono ?_); rintro e w22 ⟨v22, rfl, hv22, hb22⟩; obtain ⟨z22, rfl⟩ := hv22.open3)
  refine hK.out _ _ (Sx.below hh hb22) (fun hh => ?_)
  clear hK K
  try simp only [nb1, nb2, nb3, Act.put, nb4, nb5, nb6]
  replace HS := Lib.hid (HS.out.below hb22)
  clear hb22 a23 a24
  replace HS := Lib.hid (HS.out.addQ hv22)
  clear hv22
  refine tkA (i := 10) (v := ?vpr2_10_k26) rfl (Or.inl ⟨by first | rfl | kernel_rfl, ?hypr2_10_k26⟩) (by assumption) ?repr2_10_k26
  case hypr2_10_k26 => (intro u hSu; (first | (go_simp; done) | (go_simp; with_reducible rfl)))
  try simp only [nb1, nb2, nb3, Act.put, nb4, nb5, nb6]
  refine rdA (i := 11) rfl (fun K hK => ?_)
  have b2e := (HS.out.at 0 _ _ _ rfl)
  have b2c0 := blk_cell b2e 0 (.bool false) rfl
  have b2c1 := blk_cell b2e 1 (.slice none 0 0) rfl
  have b2c2 := blk_cell b2e 2 (.slice none 0 0) rfl
  have b2c3 := blk_cell b2e 3 (.bool false) rfl
  have b2c4 := blk_cell b2e 4 (.slice none 0 0) rfl
  have b2c5 := blk_cell b2e 5 (.slice none 0 0) rfl
  have b2f0 := blk_frozen b2e 0
  have b2f1 := blk_frozen b2e 1
  have b2f2 := blk_frozen b2e 2
  have b2f3 := blk_frozen b2e 3
  have b2f4 := blk_frozen b2e 4
  have b2f5 := blk_frozen b2e 5
  have b2l := blk_lt b2e
  clear b2e
  go_simp
  refine hK.out _ _ ((((HS.out).st_RR 0 r30 r30 z19 z22 rfl)).erase 0) (fun hh => ?_)
  clear hK K b2c0 b2c1 b2c2 b2c3 b2c4 b2c5 b2f0 b2f1 b2f2 b2f3 b2f4 b2f5 b2l
  try simp only [nb1, nb2, nb3, Act.put, nb4, nb5, nb6]
  generalize hW27 : ((((((w22).setCell _ _).setCell _ _).setCell _ _).setCell _ _).setCell _ _).setCell _ _ = W27 at *
  replace HS : Hid (Sx w W27 [(w.heap.size + 2, arr6 z19 z22, 42), (w.heap.size + 1, arr6 y1 y2, 42), (w.heap.size, arr6 x1 x2, 42)] [(false, z22.val, (b + d)), (false, z19.val, (a + c)), (false, y2.val, d), (false, y1.val, c), (false, x2.val, b), (false, x1.val, a)]) := by subst hW27; exact (HS.out).st_RR 0 r30 r30 z19 z22 rfl
  clear hW27
  refine wpAnyH_done (by kernel_rfl) ?_ _
  obtain ⟨b2c0, b2c1, b2c2, b2c3, b2c4, b2c5, b2f0, b2f1, b2f2, b2f3, b2f4, b2f5⟩ := fac6 (x := z19) (y := z22) (HS.out.at 0 _ _ _ rfl)
  have b2l := blk_lt (HS.out.at 0 _ _ _ rfl)
  go_wp2_with fail
  clear b2c0 b2c1 b2c2 b2c3 b2c4 b2c5 b2f0 b2f1 b2f2 b2f3 b2f4 b2f5 b2l
  obtain ⟨b2c0, b2c1, b2c2, b2c3, b2c4, b2c5, _⟩ := fac6 (x := z19) (y := z22) (HS.out.at 0 _ _ _ rfl)
  refine bodyPost_ret (v := .agg #[.bool z19.b, .slice z19.a z19.n z19.c, .slice z19.d z19.m z19.e, .bool z22.b, .slice z22.a z22.n z22.c, .slice z22.d z22.m z22.e]) (by simp [results, Tryz.results73, go_sem, b2c0, b2c1, b2c2, b2c3, b2c4, b2c5]) rfl ⟨_, rfl, (rngQ (HS.out.q 1 _ _ rfl) (HS.out.q 0 _ _ rfl)), HS.out.bel⟩
set_option maxRecDepth 100000 in
set_option maxHeartbeats 4000000 in
theorem rneg_any (a b : Rat) (vx : Value) (w : World) (hx : IsRng w vx a b) :
    Calls Tryz.prog 258 #[vx] w (RetRng (-b) (-a) w) := by
  obtain ⟨x1, x2, rfl, h1, h2⟩ := hx
  have HS := Lib.hid (((Sx.init w).addP h1).addP h2)
  clear h1 h2
  go_enter Tryz.func258, Tryz.ntmps258
  go_wp2_with fail
  generalize hW1 : ((w).alloc (.cells _ _)).alloc (.cells _ _) = W1 at *
  replace HS : Hid (Sx w W1 [(w.heap.size + 1, #[.bool false, .slice none 0 0, .slice none 0 0, .bool false, .slice none 0 0, .slice none 0 0], 36), (w.heap.size, arr6 x1 x2, 36)] [(true, x2.val, b), (true, x1.val, a)]) := by subst hW1; exact ((HS.out).alloc (B := w.heap.size) rfl (by rfl)).alloc (B := w.heap.size + 1) (by simp) (by rfl)
  clear hW1
  refine wp_region_held_drew (S := (fun w' => Sx w w' [(w.heap.size, arr6 x1 x2, 36)] [])) (by kernel_rfl) ((HS.out.drew).erase 0) (fun hh => ?_)
  replace HS := Lib.hid HS.out.drew
  refine tkA (i := 0) (v := ?vpr2_0_k4) rfl (Or.inl ⟨by first | rfl | kernel_rfl, ?hypr2_0_k4⟩) (by assumption) ?repr2_0_k4
  case hypr2_0_k4 => (intro u hSu; (first | (go_simp; done) | (go_simp; with_reducible rfl)))
  try simp only [nb1, nb2, nb3, Act.put, nb4, nb5, nb6]
  refine tkA (i := 1) (v := ?vpr2_1_k6) rfl (Or.inl ⟨by first | rfl | kernel_rfl, ?hypr2_1_k6⟩) (by assumption) ?repr2_1_k6
  case hypr2_1_k6 => (intro u hSu; (try dsimp only at hSu); obtain ⟨qb0c0, qb0c1, qb0c2, qb0c3, qb0c4, qb0c5, _⟩ := fac6 (x := x1) (y := x2) (hSu.at 0 _ _ _ rfl); clear hSu; (first | (go_simp; done) | (go_simp; with_reducible rfl)))
  try simp only [nb1, nb2, nb3, Act.put, nb4, nb5, nb6]
  refine tkA (i := 3) (v := ?vpr2_3_k8) rfl (Or.inl ⟨by first | rfl | kernel_rfl, ?hypr2_3_k8⟩) (by assumption) ?repr2_3_k8
  case hypr2_3_k8 => (intro u hSu; (first | (go_simp; done) | (go_simp; with_reducible rfl)))
  try simp only [nb1, nb2, nb3, Act.put, nb4, nb5, nb6]
  refine tkA (i := 4) (v := ?vpr2_4_k10) rfl (Or.inl ⟨by first | rfl | kernel_rfl, ?hypr2_4_k10⟩) (by assumption) ?repr2_4_k10
  case hypr2_4_k10 => (intro u hSu; (try dsimp only at hSu); obtain ⟨qb0c0, qb0c1, qb0c2, qb0c3, qb0c4, qb0c5, _⟩ := fac6 (x := x1) (y := x2) (hSu.at 0 _ _ _ rfl); clear hSu; (first | (go_simp; done) | (go_simp; with_reducible rfl)))
  try simp only [nb1, nb2, nb3, Act.put, nb4, nb5, nb6]
  refine rdA (i := 2) rfl (fun K hK => ?_)
  go_simp
  have a12 := HS.out.p 0 _ _ rfl
  go_wp2_with (go_at_call 123; (with_reducible refine (negRat_any b _ _ a12).mono ?_); rintro e w11 ⟨v11, rfl, hv11, hb11⟩; obtain ⟨z11, rfl⟩ := hv11.open3)
  refine hK.out _ _ (Sx.below hh hb11) (fun hh => ?_)
  clear hK K
  try simp only [nb1, nb2, nb3, Act.put, nb4, nb5, nb6]
  replace HS := Lib.hid (HS.out.below hb11)
  clear hb11 a12
  replace HS := Lib.hid (HS.out.addP hv11)
  clear hv11
  refine rdA (i := 5) rfl (fun K hK => ?_)
  go_simp
  have a14 := HS.out.p 2 _ _ rfl
  go_wp2_with (go_at_call 123; (with_reducible refine (negRat_any a _ _ a14).mono ?_); rintro e w13 ⟨v13, rfl, hv13, hb13⟩; obtain ⟨z13, rfl⟩ := hv13.open3)
  refine hK.out _ _ (Sx.below hh hb13) (fun hh => ?_)
  clear hK K
  try simp only [nb1, nb2, nb3, Act.put, nb4, nb5, nb6]
  replace HS := Lib.hid (HS.out.below hb13)
  clear hb13 a14
  replace HS := Lib.hid (HS.out.addP hv13)
  clear hv13
  refine tkA (i := 6) (v := ?vpr2_6_k16) rfl (Or.inl ⟨by first | rfl | kernel_rfl, ?hypr2_6_k16⟩) (by assumption) ?repr2_6_k16
  case hypr2_6_k16 => (intro u hSu; (first | (go_simp; done) | (go_simp; with_reducible rfl)))
  try simp only [nb1, nb2, nb3, Act.put, nb4, nb5, nb6]
  refine rdA (i := 7) rfl (fun K hK => ?_)
  have b1e := (HS.out.at 0 _ _ _ rfl)
  have b1c0 := blk_cell b1e 0 (.bool false) rfl
  have b1c1 := blk_cell b1e 1 (.slice none 0 0) rfl
  have b1c2 := blk_cell b1e 2 (.slice none 0 0) rfl
  have b1c3 := blk_cell b1e 3 (.bool false) rfl
  have b1c4 := blk_cell b1e 4 (.slice none 0 0) rfl
  have b1c5 := blk_cell b1e 5 (.slice none 0 0) rfl
  have b1f0 := blk_frozen b1e 0
  have b1f1 := blk_frozen b1e 1
  have b1f2 := blk_frozen b1e 2
  have b1f3 := blk_frozen b1e 3
  have b1f4 := blk_frozen b1e 4
  have b1f5 := blk_frozen b1e 5
  have b1l := blk_lt b1e
  clear b1e
  go_simp
  refine hK.out _ _ ((((HS.out).st_RR 0 r30 r30 z11 z13 rfl)).erase 0) (fun hh => ?_)
  clear hK K b1c0 b1c1 b1c2 b1c3 b1c4 b1c5 b1f0 b1f1 b1f2 b1f3 b1f4 b1f5 b1l
  try simp only [nb1, nb2, nb3, Act.put, nb4, nb5, nb6]
  generalize hW17 : ((((((w13).setCell _ _).setCell _ _).setCell _ _).setCell _ _).setCell _ _).setCell _ _ = W17 at *
  replace HS : Hid (Sx w W17 [(w.heap.size + 1, arr6 z11 z13, 36), (w.heap.size, arr6 x1 x2, 36)] [(true, z13.val, (-a)), (true, z11.val, (-b)), (true, x2.val, b), (true, x1.val, a)]) := by subst hW17; exact (HS.out).st_RR 0 r30 r30 z11 z13 rfl
  clear hW17
  refine wpAnyH_done (by kernel_rfl) ?_ _
  obtain ⟨b1c0, b1c1, b1c2, b1c3, b1c4, b1c5, b1f0, b1f1, b1f2, b1f3, b1f4, b1f5⟩ := fac6 (x := z11) (y := z13) (HS.out.at 0 _ _ _ rfl)
  have b1l := blk_lt (HS.out.at 0 _ _ _ rfl)
  go_wp2_with fail
  clear b1c0 b1c1 b1c2 b1c3 b1c4 b1c5 b1f0 b1f1 b1f2 b1f3 b1f4 b1f5 b1l
  obtain ⟨b1c0, b1c1, b1c2, b1c3, b1c4, b1c5, _⟩ := fac6 (x := z11) (y := z13) (HS.out.at 0 _ _ _ rfl)
  refine bodyPost_ret (v := .agg #[.bool z11.b, .slice z11.a z11.n z11.c, .slice z11.d z11.m z11.e, .bool z13.b, .slice z13.a z13.n z13.c, .slice z13.d z13.m z13.e]) (by simp [results, Tryz.results258, go_sem, b1c0, b1c1, b1c2, b1c3, b1c4, b1c5]) rfl ⟨_, rfl, (rngP (HS.out.p 1 _ _ rfl) (HS.out.p 0 _ _ rfl)), HS.out.bel⟩
set_option maxRecDepth 100000 in
set_option maxHeartbeats 4000000 in
theorem qsneg_any (a b : Rat) (vx : Value) (w : World) (hx : IsRngQ w vx a b) :
    Calls Tryz.prog 136 #[vx] w (RetRngQ (-b) (-a) w) := by
  obtain ⟨x1, x2, rfl, h1, h2⟩ := hx
  have HS := Lib.hid (((Sx.init w).addQ h1).addQ h2)
  clear h1 h2
  go_enter Tryz.func136, Tryz.ntmps136
  go_wp2_with fail
  generalize hW1 : ((w).alloc (.cells _ _)).alloc (.cells _ _) = W1 at *
  replace HS : Hid (Sx w W1 [(w.heap.size + 1, #[.bool false, .slice none 0 0, .slice none 0 0, .bool false, .slice none 0 0, .slice none 0 0], 42), (w.heap.size, arr6 x1 x2, 42)] [(false, x2.val, b), (false, x1.val, a)]) := by subst hW1; exact ((HS.out).alloc (B := w.heap.size) rfl (by rfl)).alloc (B := w.heap.size + 1) (by simp) (by rfl)
  clear hW1
  refine wp_region_held_drew (S := (fun w' => Sx w w' [(w.heap.size, arr6 x1 x2, 42)] [])) (by kernel_rfl) ((HS.out.drew).erase 0) (fun hh => ?_)
  replace HS := Lib.hid HS.out.drew
  refine tkA (i := 0) (v := ?vpr2_0_k4) rfl (Or.inl ⟨by first | rfl | kernel_rfl, ?hypr2_0_k4⟩) (by assumption) ?repr2_0_k4
  case hypr2_0_k4 => (intro u hSu; (first | (go_simp; done) | (go_simp; with_reducible rfl)))
  try simp only [nb1, nb2, nb3, Act.put, nb4, nb5, nb6]
  refine tkA (i := 1) (v := ?vpr2_1_k6) rfl (Or.inl ⟨by first | rfl | kernel_rfl, ?hypr2_1_k6⟩) (by assumption) ?repr2_1_k6
  case hypr2_1_k6 => (intro u hSu; (try dsimp only at hSu); obtain ⟨qb0c0, qb0c1, qb0c2, qb0c3, qb0c4, qb0c5, _⟩ := fac6 (x := x1) (y := x2) (hSu.at 0 _ _ _ rfl); clear hSu; (first | (go_simp; done) | (go_simp; with_reducible rfl)))
  try simp only [nb1, nb2, nb3, Act.put, nb4, nb5, nb6]
  refine tkA (i := 3) (v := ?vpr2_3_k8) rfl (Or.inl ⟨by first | rfl | kernel_rfl, ?hypr2_3_k8⟩) (by assumption) ?repr2_3_k8
  case hypr2_3_k8 => (intro u hSu; (first | (go_simp; done) | (go_simp; with_reducible rfl)))
  try simp only [nb1, nb2, nb3, Act.put, nb4, nb5, nb6]
  refine tkA (i := 4) (v := ?vpr2_4_k10) rfl (Or.inl ⟨by first | rfl | kernel_rfl, ?hypr2_4_k10⟩) (by assumption) ?repr2_4_k10
  case hypr2_4_k10 => (intro u hSu; (try dsimp only at hSu); obtain ⟨qb0c0, qb0c1, qb0c2, qb0c3, qb0c4, qb0c5, _⟩ := fac6 (x := x1) (y := x2) (hSu.at 0 _ _ _ rfl); clear hSu; (first | (go_simp; done) | (go_simp; with_reducible rfl)))
  try simp only [nb1, nb2, nb3, Act.put, nb4, nb5, nb6]
  refine rdA (i := 2) rfl (fun K hK => ?_)
  go_simp
  have a12 := HS.out.q 0 _ _ rfl
  go_wp2_with (go_at_call 143; (with_reducible refine (qneg_any b _ _ a12).mono ?_); rintro e w11 ⟨v11, rfl, hv11, hb11⟩; obtain ⟨z11, rfl⟩ := hv11.open3)
  refine hK.out _ _ (Sx.below hh hb11) (fun hh => ?_)
  clear hK K
  try simp only [nb1, nb2, nb3, Act.put, nb4, nb5, nb6]
  replace HS := Lib.hid (HS.out.below hb11)
  clear hb11 a12
  replace HS := Lib.hid (HS.out.addQ hv11)
  clear hv11
  refine rdA (i := 5) rfl (fun K hK => ?_)
  go_simp
  have a14 := HS.out.q 2 _ _ rfl
  go_wp2_with (go_at_call 143; (with_reducible refine (qneg_any a _ _ a14).mono ?_); rintro e w13 ⟨v13, rfl, hv13, hb13⟩; obtain ⟨z13, rfl⟩ := hv13.open3)
  refine hK.out _ _ (Sx.below hh hb13) (fun hh => ?_)
  clear hK K
  try simp only [nb1, nb2, nb3, Act.put, nb4, nb5, nb6]
  replace HS := Lib.hid (HS.out.below hb13)
  clear hb13 a14
  replace HS := Lib.hid (HS.out.addQ hv13)
  clear hv13
  refine tkA (i := 6) (v := ?vpr2_6_k16) rfl (Or.inl ⟨by first | rfl | kernel_rfl, ?hypr2_6_k16⟩) (by assumption) ?repr2_6_k16
  case hypr2_6_k16 => (intro u hSu; (first | (go_simp; done) | (go_simp; with_reducible rfl)))
  try simp only [nb1, nb2, nb3, Act.put, nb4, nb5, nb6]
  refine rdA (i := 7) rfl (fun K hK => ?_)
  have b1e := (HS.out.at 0 _ _ _ rfl)
  have b1c0 := blk_cell b1e 0 (.bool false) rfl
  have b1c1 := blk_cell b1e 1 (.slice none 0 0) rfl
  have b1c2 := blk_cell b1e 2 (.slice none 0 0) rfl
  have b1c3 := blk_cell b1e 3 (.bool false) rfl
  have b1c4 := blk_cell b1e 4 (.slice none 0 0) rfl
  have b1c5 := blk_cell b1e 5 (.slice none 0 0) rfl
  have b1f0 := blk_frozen b1e 0
  have b1f1 := blk_frozen b1e 1
  have b1f2 := blk_frozen b1e 2
  have b1f3 := blk_frozen b1e 3
  have b1f4 := blk_frozen b1e 4
  have b1f5 := blk_frozen b1e 5
  have b1l := blk_lt b1e
  clear b1e
  go_simp
  refine hK.out _ _ ((((HS.out).st_RR 0 r30 r30 z11 z13 rfl)).erase 0) (fun hh => ?_)
  clear hK K b1c0 b1c1 b1c2 b1c3 b1c4 b1c5 b1f0 b1f1 b1f2 b1f3 b1f4 b1f5 b1l
  try simp only [nb1, nb2, nb3, Act.put, nb4, nb5, nb6]
  generalize hW17 : ((((((w13).setCell _ _).setCell _ _).setCell _ _).setCell _ _).setCell _ _).setCell _ _ = W17 at *
  replace HS : Hid (Sx w W17 [(w.heap.size + 1, arr6 z11 z13, 42), (w.heap.size, arr6 x1 x2, 42)] [(false, z13.val, (-a)), (false, z11.val, (-b)), (false, x2.val, b), (false, x1.val, a)]) := by subst hW17; exact (HS.out).st_RR 0 r30 r30 z11 z13 rfl
  clear hW17
  refine wpAnyH_done (by kernel_rfl) ?_ _
  obtain ⟨b1c0, b1c1, b1c2, b1c3, b1c4, b1c5, b1f0, b1f1, b1f2, b1f3, b1f4, b1f5⟩ := fac6 (x := z11) (y := z13) (HS.out.at 0 _ _ _ rfl)
  have b1l := blk_lt (HS.out.at 0 _ _ _ rfl)
  go_wp2_with fail
  clear b1c0 b1c1 b1c2 b1c3 b1c4 b1c5 b1f0 b1f1 b1f2 b1f3 b1f4 b1f5 b1l
  obtain ⟨b1c0, b1c1, b1c2, b1c3, b1c4, b1c5, _⟩ := fac6 (x := z11) (y := z13) (HS.out.at 0 _ _ _ rfl)
  refine bodyPost_ret (v := .agg #[.bool z11.b, .slice z11.a z11.n z11.c, .slice z11.d z11.m z11.e, .bool z13.b, .slice z13.a z13.n z13.c, .slice z13.d z13.m z13.e]) (by simp [results, Tryz.results136, go_sem, b1c0, b1c1, b1c2, b1c3, b1c4, b1c5]) rfl ⟨_, rfl, (rngQ (HS.out.q 1 _ _ rfl) (HS.out.q 0 _ _ rfl)), HS.out.bel⟩
set_option maxRecDepth 100000 in
set_option maxHeartbeats 4000000 in
theorem qssub_any (a b c d : Rat) (vx vy : Value) (w : World) (hx : IsRngQ w vx a b) (hy : IsRngQ w vy c d) (sa : szR a 1000000000) (sb : szR b 1000000000) (sc : szR c 1000000000) (sd : szR d 1000000000) :
    Calls Tryz.prog 75 #[vx, vy] w (RetRngQ (a + -d) (b + -c) w) := by
  obtain ⟨x1, x2, rfl, h1, h2⟩ := hx
  obtain ⟨y1, y2, rfl, h3, h4⟩ := hy
  have HS := Lib.hid (((((Sx.init w).addQ h1).addQ h2).addQ h3).addQ h4)
  have Sa := Lib.hid sa
  have Sb := Lib.hid sb
  have Sc := Lib.hid sc
  have Sd := Lib.hid sd
  clear h1 h2 h3 h4 sa sb sc sd
  go_enter Tryz.func75, Tryz.ntmps75
  go_wp2_with fail
  generalize hW1 : (((w).alloc (.cells _ _)).alloc (.cells _ _)).alloc (.cells _ _) = W1 at *
  replace HS : Hid (Sx w W1 [(w.heap.size + 2, #[.bool false, .slice none 0 0, .slice none 0 0, .bool false, .slice none 0 0, .slice none 0 0], 42), (w.heap.size + 1, arr6 y1 y2, 42), (w.heap.size, arr6 x1 x2, 42)] [(false, y2.val, d), (false, y1.val, c), (false, x2.val, b), (false, x1.val, a)]) := by subst hW1; exact (((HS.out).alloc (B := w.heap.size) rfl (by rfl)).alloc (B := w.heap.size + 1) (by simp) (by rfl)).alloc (B := w.heap.size + 2) (by simp) (by rfl)
  clear hW1
  refine wp_region_held_drew (S := (fun w' => Sx w w' [(w.heap.size + 1, arr6 y1 y2, 42), (w.heap.size, arr6 x1 x2, 42)] [])) (by kernel_rfl) ((HS.out.drew).erase 0) (fun hh => ?_)
  replace HS := Lib.hid HS.out.drew
  refine tkA (i := 0) (v := ?vpr2_0_k4) rfl (Or.inl ⟨by first | rfl | kernel_rfl, ?hypr2_0_k4⟩) (by assumption) ?repr2_0_k4
  case hypr2_0_k4 => (intro u hSu; (try dsimp only at hSu); obtain ⟨qb0c0, qb0c1, qb0c2, qb0c3, qb0c4, qb0c5, _⟩ := fac6 (x := x1) (y := x2) (hSu.at 1 _ _ _ rfl); clear hSu; (first | (go_simp; done) | (go_simp; with_reducible rfl)))
  try simp only [nb1, nb2, nb3, Act.put, nb4, nb5, nb6]
  refine tkA (i := 1) (v := ?vpr2_1_k6) rfl (Or.inl ⟨by first | rfl | kernel_rfl, ?hypr2_1_k6⟩) (by assumption) ?repr2_1_k6
  case hypr2_1_k6 => (intro u hSu; (try dsimp only at hSu); obtain ⟨qb1c0, qb1c1, qb1c2, qb1c3, qb1c4, qb1c5, _⟩ := fac6 (x := y1) (y := y2) (hSu.at 0 _ _ _ rfl); clear hSu; (first | (go_simp; done) | (go_simp; with_reducible rfl)))
  try simp only [nb1, nb2, nb3, Act.put, nb4, nb5, nb6]
  refine rdA (i := 2) rfl (fun K hK => ?_)
  go_simp
  have a8 := HS.out.q 1 _ _ rfl
  have a9 := HS.out.q 0 _ _ rfl
  go_wp2_with (go_at_call 136; (with_reducible refine (qsneg_any c d _ _ (rngQ a8 a9)).mono ?_); rintro e w7 ⟨v7, rfl, ⟨z7a, z7b, rfl, hv7, hw7⟩, hb7⟩)
  refine hK.out _ _ (Sx.below hh hb7) (fun hh => ?_)
  clear hK K
  try simp only [nb1, nb2, nb3, Act.put, nb4, nb5, nb6]
  replace HS := Lib.hid (HS.out.below hb7)
  clear hb7 a8 a9
  replace HS := Lib.hid (HS.out.addQ hv7)
  clear hv7
  replace HS := Lib.hid (HS.out.addQ hw7)
  clear hw7
  refine rdA (i := 3) rfl (fun K hK => ?_)
  go_simp
  have a11 := HS.out.q 5 _ _ rfl
  have a12 := HS.out.q 4 _ _ rfl
  have a13 := HS.out.q 1 _ _ rfl
  have a14 := HS.out.q 0 _ _ rfl
  go_wp2_with (go_at_call 73; (with_reducible refine (qsadd_any a b (-d) (-c) _ _ _ (rngQ a11 a12) (rngQ a13 a14) (szR_mono Sa.out (by omega)) (szR_mono Sb.out (by omega)) (szR_mono (szR_neg Sd.out) (by omega)) (szR_mono (szR_neg Sc.out) (by omega))).mono ?_); rintro e w10 ⟨v10, rfl, ⟨z10a, z10b, rfl, hv10, hw10⟩, hb10⟩)
  refine hK.out _ _ (Sx.below hh hb10) (fun hh => ?_)
  clear hK K
  try simp only [nb1, nb2, nb3, Act.put, nb4, nb5, nb6]
  replace HS := Lib.hid (HS.out.below hb10)
  clear hb10 a11 a12 a13 a14
  replace HS := Lib.hid (HS.out.addQ hv10)
  clear hv10
  replace HS := Lib.hid (HS.out.addQ hw10)
  clear hw10
  refine rdA (i := 4) rfl (fun K hK => ?_)
  have b2e := (HS.out.at 0 _ _ _ rfl)
  have b2c0 := blk_cell b2e 0 (.bool false) rfl
  have b2c1 := blk_cell b2e 1 (.slice none 0 0) rfl
  have b2c2 := blk_cell b2e 2 (.slice none 0 0) rfl
  have b2c3 := blk_cell b2e 3 (.bool false) rfl
  have b2c4 := blk_cell b2e 4 (.slice none 0 0) rfl
  have b2c5 := blk_cell b2e 5 (.slice none 0 0) rfl
  have b2f0 := blk_frozen b2e 0
  have b2f1 := blk_frozen b2e 1
  have b2f2 := blk_frozen b2e 2
  have b2f3 := blk_frozen b2e 3
  have b2f4 := blk_frozen b2e 4
  have b2f5 := blk_frozen b2e 5
  have b2l := blk_lt b2e
  clear b2e
  go_simp
  refine hK.out _ _ ((((HS.out).st_RR 0 r30 r30 z10a z10b rfl)).erase 0) (fun hh => ?_)
  clear hK K b2c0 b2c1 b2c2 b2c3 b2c4 b2c5 b2f0 b2f1 b2f2 b2f3 b2f4 b2f5 b2l
  try simp only [nb1, nb2, nb3, Act.put, nb4, nb5, nb6]
  generalize hW15 : ((((((w10).setCell _ _).setCell _ _).setCell _ _).setCell _ _).setCell _ _).setCell _ _ = W15 at *
  replace HS : Hid (Sx w W15 [(w.heap.size + 2, arr6 z10a z10b, 42), (w.heap.size + 1, arr6 y1 y2, 42), (w.heap.size, arr6 x1 x2, 42)] [(false, z10b.val, (b + (-c))), (false, z10a.val, (a + (-d))), (false, z7b.val, (-c)), (false, z7a.val, (-d)), (false, y2.val, d), (false, y1.val, c), (false, x2.val, b), (false, x1.val, a)]) := by subst hW15; exact (HS.out).st_RR 0 r30 r30 z10a z10b rfl
  clear hW15
  refine wpAnyH_done (by kernel_rfl) ?_ _
  obtain ⟨b2c0, b2c1, b2c2, b2c3, b2c4, b2c5, b2f0, b2f1, b2f2, b2f3, b2f4, b2f5⟩ := fac6 (x := z10a) (y := z10b) (HS.out.at 0 _ _ _ rfl)
  have b2l := blk_lt (HS.out.at 0 _ _ _ rfl)
  go_wp2_with fail
  clear b2c0 b2c1 b2c2 b2c3 b2c4 b2c5 b2f0 b2f1 b2f2 b2f3 b2f4 b2f5 b2l
  obtain ⟨b2c0, b2c1, b2c2, b2c3, b2c4, b2c5, _⟩ := fac6 (x := z10a) (y := z10b) (HS.out.at 0 _ _ _ rfl)
  refine bodyPost_ret (v := .agg #[.bool z10a.b, .slice z10a.a z10a.n z10a.c, .slice z10a.d z10a.m z10a.e, .bool z10b.b, .slice z10b.a z10b.n z10b.c, .slice z10b.d z10b.m z10b.e]) (by simp [results, Tryz.results75, go_sem, b2c0, b2c1, b2c2, b2c3, b2c4, b2c5]) rfl ⟨_, rfl, (rngQ (HS.out.q 1 _ _ rfl) (HS.out.q 0 _ _ rfl)), HS.out.bel⟩
set_option maxRecDepth 100000 in
set_option maxHeartbeats 4000000 in
theorem rmul_any (a b c d : Rat) (vx vy : Value) (w : World) (hx : IsRng w vx a b) (hy : IsRng w vy c d) (sa : szR a 1000000000) (sb : szR b 1000000000) (sc : szR c 1000000000) (sd : szR d 1000000000) :
    Calls Tryz.prog 68 #[vx, vy] w (RetRng (loQ (loQ (a * c) (a * d)) (loQ (b * c) (b * d))) (hiQ (hiQ (a * c) (a * d)) (hiQ (b * c) (b * d))) w) := by
  obtain ⟨x1, x2, rfl, h1, h2⟩ := hx
  obtain ⟨y1, y2, rfl, h3, h4⟩ := hy
  have HS := Lib.hid (((((Sx.init w).addP h1).addP h2).addP h3).addP h4)
  have Sa := Lib.hid sa
  have Sb := Lib.hid sb
  have Sc := Lib.hid sc
  have Sd := Lib.hid sd
  clear h1 h2 h3 h4 sa sb sc sd
  go_enter Tryz.func68, Tryz.ntmps68
  go_wp2_with fail
  generalize hW1 : (((w).alloc (.cells _ _)).alloc (.cells _ _)).alloc (.cells _ _) = W1 at *
  replace HS : Hid (Sx w W1 [(w.heap.size + 2, #[.bool false, .slice none 0 0, .slice none 0 0, .bool false, .slice none 0 0, .slice none 0 0], 36), (w.heap.size + 1, arr6 y1 y2, 36), (w.heap.size, arr6 x1 x2, 36)] [(true, y2.val, d), (true, y1.val, c), (true, x2.val, b), (true, x1.val, a)]) := by subst hW1; exact (((HS.out).alloc (B := w.heap.size) rfl (by rfl)).alloc (B := w.heap.size + 1) (by simp) (by rfl)).alloc (B := w.heap.size + 2) (by simp) (by rfl)
  clear hW1
  refine wp_region_held_drew (S := (fun w' => Sx w w' [(w.heap.size + 1, arr6 y1 y2, 36), (w.heap.size, arr6 x1 x2, 36)] [])) (by kernel_rfl) ((HS.out.drew).erase 0) (fun hh => ?_)
  replace HS := Lib.hid HS.out.drew
  have HSW := Lib.hid HS.out.bel.size
  refine tkA (i := 0) (v := ?vpr2_0_k4) rfl (Or.inl ⟨by first | rfl | kernel_rfl, ?hypr2_0_k4⟩) (by assumption) ?repr2_0_k4
  case hypr2_0_k4 => (intro u hSu; (first | (go_simp; done) | (go_simp; with_reducible rfl)))
  try simp only [nb1, nb2, nb3, Act.put, nb4, nb5, nb6]
  refine tkA (i := 1) (v := ?vpr2_1_k6) rfl (Or.inl ⟨by first | rfl | kernel_rfl, ?hypr2_1_k6⟩) (by assumption) ?repr2_1_k6
  case hypr2_1_k6 => (intro u hSu; (try dsimp only at hSu); obtain ⟨qb0c0, qb0c1, qb0c2, qb0c3, qb0c4, qb0c5, _⟩ := fac6 (x := x1) (y := x2) (hSu.at 1 _ _ _ rfl); clear hSu; (first | (go_simp; done) | (go_simp; with_reducible rfl)))
  try simp only [nb1, nb2, nb3, Act.put, nb4, nb5, nb6]
  refine tkA (i := 2) (v := ?vpr2_2_k8) rfl (Or.inl ⟨by first | rfl | kernel_rfl, ?hypr2_2_k8⟩) (by assumption) ?repr2_2_k8
  case hypr2_2_k8 => (intro u hSu; (first | (go_simp; done) | (go_simp; with_reducible rfl)))
  try simp only [nb1, nb2, nb3, Act.put, nb4, nb5, nb6]
  refine tkA (i := 3) (v := ?vpr2_3_k10) rfl (Or.inl ⟨by first | rfl | kernel_rfl, ?hypr2_3_k10⟩) (by assumption) ?repr2_3_k10
  case hypr2_3_k10 => (intro u hSu; (try dsimp only at hSu); obtain ⟨qb1c0, qb1c1, qb1c2, qb1c3, qb1c4, qb1c5, _⟩ := fac6 (x := y1) (y := y2) (hSu.at 0 _ _ _ rfl); clear hSu; (first | (go_simp; done) | (go_simp; with_reducible rfl)))
  try simp only [nb1, nb2, nb3, Act.put, nb4, nb5, nb6]
  refine tkA (i := 5) (v := ?vpr2_5_k12) rfl (Or.inl ⟨by first | rfl | kernel_rfl, ?hypr2_5_k12⟩) (by assumption) ?repr2_5_k12
  case hypr2_5_k12 => (intro u hSu; (first | (go_simp; done) | (go_simp; with_reducible rfl)))
  try simp only [nb1, nb2, nb3, Act.put, nb4, nb5, nb6]
  refine tkA (i := 6) (v := ?vpr2_6_k14) rfl (Or.inl ⟨by first | rfl | kernel_rfl, ?hypr2_6_k14⟩) (by assumption) ?repr2_6_k14
  case hypr2_6_k14 => (intro u hSu; (try dsimp only at hSu); obtain ⟨qb0c0, qb0c1, qb0c2, qb0c3, qb0c4, qb0c5, _⟩ := fac6 (x := x1) (y := x2) (hSu.at 1 _ _ _ rfl); clear hSu; (first | (go_simp; done) | (go_simp; with_reducible rfl)))
  try simp only [nb1, nb2, nb3, Act.put, nb4, nb5, nb6]
  refine tkA (i := 7) (v := ?vpr2_7_k16) rfl (Or.inl ⟨by first | rfl | kernel_rfl, ?hypr2_7_k16⟩) (by assumption) ?repr2_7_k16
  case hypr2_7_k16 => (intro u hSu; (first | (go_simp; done) | (go_simp; with_reducible rfl)))
  try simp only [nb1, nb2, nb3, Act.put, nb4, nb5, nb6]
  refine tkA (i := 8) (v := ?vpr2_8_k18) rfl (Or.inl ⟨by first | rfl | kernel_rfl, ?hypr2_8_k18⟩) (by assumption) ?repr2_8_k18
  case hypr2_8_k18 => (intro u hSu; (try dsimp only at hSu); obtain ⟨qb1c0, qb1c1, qb1c2, qb1c3, qb1c4, qb1c5, _⟩ := fac6 (x := y1) (y := y2) (hSu.at 0 _ _ _ rfl); clear hSu; (first | (go_simp; done) | (go_simp; with_reducible rfl)))
  try simp only [nb1, nb2, nb3, Act.put, nb4, nb5, nb6]
  refine tkA (i := 10) (v := ?vpr2_10_k20) rfl (Or.inl ⟨by first | rfl | kernel_rfl, ?hypr2_10_k20⟩) (by assumption) ?repr2_10_k20
  case hypr2_10_k20 => (intro u hSu; (first | (go_simp; done) | (go_simp; with_reducible rfl)))
  try simp only [nb1, nb2, nb3, Act.put, nb4, nb5, nb6]
  refine tkA (i := 11) (v := ?vpr2_11_k22) rfl (Or.inl ⟨by first | rfl | kernel_rfl, ?hypr2_11_k22⟩) (by assumption) ?repr2_11_k22
  case hypr2_11_k22 => (intro u hSu; (try dsimp only at hSu); obtain ⟨qb0c0, qb0c1, qb0c2, qb0c3, qb0c4, qb0c5, _⟩ := fac6 (x := x1) (y := x2) (hSu.at 1 _ _ _ rfl); clear hSu; (first | (go_simp; done) | (go_simp; with_reducible rfl)))
  try simp only [nb1, nb2, nb3, Act.put, nb4, nb5, nb6]
  refine tkA (i := 12) (v := ?vpr2_12_k24) rfl (Or.inl ⟨by first | rfl | kernel_rfl, ?hypr2_12_k24⟩) (by assumption) ?repr2_12_k24
  case hypr2_12_k24 => (intro u hSu; (first | (go_simp; done) | (go_simp; with_reducible rfl)))
  try simp only [nb1, nb2, nb3, Act.put, nb4, nb5, nb6]
  refine tkA (i := 13) (v := ?vpr2_13_k26) rfl (Or.inl ⟨by first | rfl | kernel_rfl, ?hypr2_13_k26⟩) (by assumption) ?repr2_13_k26
  case hypr2_13_k26 => (intro u hSu; (try dsimp only at hSu); obtain ⟨qb1c0, qb1c1, qb1c2, qb1c3, qb1c4, qb1c5, _⟩ := fac6 (x := y1) (y := y2) (hSu.at 0 _ _ _ rfl); clear hSu; (first | (go_simp; done) | (go_simp; with_reducible rfl)))
  try simp only [nb1, nb2, nb3, Act.put, nb4, nb5, nb6]
  refine tkA (i := 15) (v := ?vpr2_15_k28) rfl (Or.inl ⟨by first | rfl | kernel_rfl, ?hypr2_15_k28⟩) (by assumption) ?repr2_15_k28
  case hypr2_15_k28 => (intro u hSu; (first | (go_simp; done) | (go_simp; with_reducible rfl)))
  try simp only [nb1, nb2, nb3, Act.put, nb4, nb5, nb6]
  refine tkA (i := 16) (v := ?vpr2_16_k30) rfl (Or.inl ⟨by first | rfl | kernel_rfl, ?hypr2_16_k30⟩) (by assumption) ?repr2_16_k30
  case hypr2_16_k30 => (intro u hSu; (try dsimp only at hSu); obtain ⟨qb0c0, qb0c1, qb0c2, qb0c3, qb0c4, qb0c5, _⟩ := fac6 (x := x1) (y := x2) (hSu.at 1 _ _ _ rfl); clear hSu; (first | (go_simp; done) | (go_simp; with_reducible rfl)))
  try simp only [nb1, nb2, nb3, Act.put, nb4, nb5, nb6]
  refine tkA (i := 17) (v := ?vpr2_17_k32) rfl (Or.inl ⟨by first | rfl | kernel_rfl, ?hypr2_17_k32⟩) (by assumption) ?repr2_17_k32
  case hypr2_17_k32 => (intro u hSu; (first | (go_simp; done) | (go_simp; with_reducible rfl)))
  try simp only [nb1, nb2, nb3, Act.put, nb4, nb5, nb6]
  refine tkA (i := 18) (v := ?vpr2_18_k34) rfl (Or.inl ⟨by first | rfl | kernel_rfl, ?hypr2_18_k34⟩) (by assumption) ?repr2_18_k34
  case hypr2_18_k34 => (intro u hSu; (try dsimp only at hSu); obtain ⟨qb1c0, qb1c1, qb1c2, qb1c3, qb1c4, qb1c5, _⟩ := fac6 (x := y1) (y := y2) (hSu.at 0 _ _ _ rfl); clear hSu; (first | (go_simp; done) | (go_simp; with_reducible rfl)))
  try simp only [nb1, nb2, nb3, Act.put, nb4, nb5, nb6]
  refine rdA (i := 4) rfl (fun K hK => ?_)
  go_simp
  have a36 := HS.out.p 3 _ _ rfl
  have a37 := HS.out.p 1 _ _ rfl
  go_wp2_with (go_at_call 47; (with_reducible refine (mulRat_any a c _ _ _ a36 a37 (szR_mono Sa.out (by omega)) (szR_mono Sc.out (by omega))).mono ?_); rintro e w35 ⟨v35, rfl, hv35, hb35⟩; obtain ⟨z35, rfl⟩ := hv35.open3)
  refine hK.out _ _ (Sx.below hh hb35) (fun hh => ?_)
  clear hK K
  try simp only [nb1, nb2, nb3, Act.put, nb4, nb5, nb6]
  replace HS := Lib.hid (HS.out.below hb35)
  clear hb35 a36 a37
  replace HS := Lib.hid (HS.out.addP hv35)
  clear hv35
  refine rdA (i := 9) rfl (fun K hK => ?_)
  go_simp
  have a39 := HS.out.p 4 _ _ rfl
  have a40 := HS.out.p 1 _ _ rfl
  go_wp2_with (go_at_call 47; (with_reducible refine (mulRat_any a d _ _ _ a39 a40 (szR_mono Sa.out (by omega)) (szR_mono Sd.out (by omega))).mono ?_); rintro e w38 ⟨v38, rfl, hv38, hb38⟩; obtain ⟨z38, rfl⟩ := hv38.open3)
  refine hK.out _ _ (Sx.below hh hb38) (fun hh => ?_)
  clear hK K
  try simp only [nb1, nb2, nb3, Act.put, nb4, nb5, nb6]
  replace HS := Lib.hid (HS.out.below hb38)
  clear hb38 a39 a40
  replace HS := Lib.hid (HS.out.addP hv38)
  clear hv38
  refine rdA (i := 14) rfl (fun K hK => ?_)
  go_simp
  have a42 := HS.out.p 4 _ _ rfl
  have a43 := HS.out.p 3 _ _ rfl
  go_wp2_with (go_at_call 47; (with_reducible refine (mulRat_any b c _ _ _ a42 a43 (szR_mono Sb.out (by omega)) (szR_mono Sc.out (by omega))).mono ?_); rintro e w41 ⟨v41, rfl, hv41, hb41⟩; obtain ⟨z41, rfl⟩ := hv41.open3)
  refine hK.out _ _ (Sx.below hh hb41) (fun hh => ?_)
  clear hK K
  try simp only [nb1, nb2, nb3, Act.put, nb4, nb5, nb6]
  replace HS := Lib.hid (HS.out.below hb41)
  clear hb41 a42 a43
  replace HS := Lib.hid (HS.out.addP hv41)
  clear hv41
  refine rdA (i := 19) rfl (fun K hK => ?_)
  go_simp
  have a45 := HS.out.p 5 _ _ rfl
  have a46 := HS.out.p 3 _ _ rfl
  go_wp2_with (go_at_call 47; (with_reducible refine (mulRat_any b d _ _ _ a45 a46 (szR_mono Sb.out (by omega)) (szR_mono Sd.out (by omega))).mono ?_); rintro e w44 ⟨v44, rfl, hv44, hb44⟩; obtain ⟨z44, rfl⟩ := hv44.open3)
  refine hK.out _ _ (Sx.below hh hb44) (fun hh => ?_)
  clear hK K
  try simp only [nb1, nb2, nb3, Act.put, nb4, nb5, nb6]
  replace HS := Lib.hid (HS.out.below hb44)
  clear hb44 a45 a46
  replace HS := Lib.hid (HS.out.addP hv44)
  clear hv44
  refine rdA (i := 20) rfl (fun K hK => ?_)
  go_simp
  refine hK.out _ _ (Sx.below hh ((Below.refl _ _).alloc (Nat.le_refl _) _)) (fun hh => ?_)
  clear hK K
  try simp only [nb1, nb2, nb3, Act.put, nb4, nb5, nb6]
  generalize hW47 : (w44).alloc (.cells _ _) = W47 at *
  replace HS : Hid (Sx w W47 [(w44.heap.size, #[.bool z35.b, .slice z35.a z35.n z35.c, .slice z35.d z35.m z35.e, .bool z38.b, .slice z38.a z38.n z38.c, .slice z38.d z38.m z38.e, .bool z41.b, .slice z41.a z41.n z41.c, .slice z41.d z41.m z41.e, .bool z44.b, .slice z44.a z44.n z44.c, .slice z44.d z44.m z44.e], 34), (w.heap.size + 2, #[.bool false, .slice none 0 0, .slice none 0 0, .bool false, .slice none 0 0, .slice none 0 0], 36), (w.heap.size + 1, arr6 y1 y2, 36), (w.heap.size, arr6 x1 x2, 36)] [(true, z44.val, (b * d)), (true, z41.val, (b * c)), (true, z38.val, (a * d)), (true, z35.val, (a * c)), (true, y2.val, d), (true, y1.val, c), (true, x2.val, b), (true, x1.val, a)]) := by subst hW47; exact HS.out.alloc (B := w44.heap.size) rfl (by rfl)
  clear hW47
  refine rdA (i := 21) rfl (fun K hK => ?_)
  go_simp
  have a49 := HS.out.p 3 _ _ rfl
  have a50 := HS.out.p 2 _ _ rfl
  have a51 := HS.out.p 1 _ _ rfl
  have a52 := HS.out.p 0 _ _ rfl
  go_wp2_with (go_at_call 116; (with_reducible refine (around4_any (a * c) (a * d) (b * c) (b * d) _ _ (fracs4 (HS.out.at 0 _ _ _ rfl) a49 a50 a51 a52) (szR_mono (szR_mul Sa.out Sc.out) (by omega)) (szR_mono (szR_mul Sa.out Sd.out) (by omega)) (szR_mono (szR_mul Sb.out Sc.out) (by omega)) (szR_mono (szR_mul Sb.out Sd.out) (by omega))).mono ?_); rintro e w48 ⟨v48, rfl, ⟨z48a, z48b, rfl, hv48, hw48⟩, hb48⟩)
  refine hK.out _ _ (Sx.below hh hb48) (fun hh => ?_)
  clear hK K
  try simp only [nb1, nb2, nb3, Act.put, nb4, nb5, nb6]
  replace HS := Lib.hid (HS.out.below hb48)
  clear hb48 a49 a50 a51 a52
  replace HS := Lib.hid (HS.out.addP hv48)
  clear hv48
  replace HS := Lib.hid (HS.out.addP hw48)
  clear hw48
  refine rdA (i := 22) rfl (fun K hK => ?_)
  have b2e := (HS.out.at 1 _ _ _ rfl)
  have b2c0 := blk_cell b2e 0 (.bool false) rfl
  have b2c1 := blk_cell b2e 1 (.slice none 0 0) rfl
  have b2c2 := blk_cell b2e 2 (.slice none 0 0) rfl
  have b2c3 := blk_cell b2e 3 (.bool false) rfl
  have b2c4 := blk_cell b2e 4 (.slice none 0 0) rfl
  have b2c5 := blk_cell b2e 5 (.slice none 0 0) rfl
  have b2f0 := blk_frozen b2e 0
  have b2f1 := blk_frozen b2e 1
  have b2f2 := blk_frozen b2e 2
  have b2f3 := blk_frozen b2e 3
  have b2f4 := blk_frozen b2e 4
  have b2f5 := blk_frozen b2e 5
  have b2l := blk_lt b2e
  clear b2e
  go_simp
  refine hK.out _ _ ((((((HS.out).st_RR 1 r30 r30 z48a z48b rfl)).erase 1)).erase 0) (fun hh => ?_)
  clear hK K b2c0 b2c1 b2c2 b2c3 b2c4 b2c5 b2f0 b2f1 b2f2 b2f3 b2f4 b2f5 b2l
  try simp only [nb1, nb2, nb3, Act.put, nb4, nb5, nb6]
  generalize hW53 : ((((((w48).setCell _ _).setCell _ _).setCell _ _).setCell _ _).setCell _ _).setCell _ _ = W53 at *
  replace HS : Hid (Sx w W53 [(w44.heap.size, #[.bool z35.b, .slice z35.a z35.n z35.c, .slice z35.d z35.m z35.e, .bool z38.b, .slice z38.a z38.n z38.c, .slice z38.d z38.m z38.e, .bool z41.b, .slice z41.a z41.n z41.c, .slice z41.d z41.m z41.e, .bool z44.b, .slice z44.a z44.n z44.c, .slice z44.d z44.m z44.e], 34), (w.heap.size + 2, arr6 z48a z48b, 36), (w.heap.size + 1, arr6 y1 y2, 36), (w.heap.size, arr6 x1 x2, 36)] [(true, z48b.val, (hiQ (hiQ (a * c) (a * d)) (hiQ (b * c) (b * d)))), (true, z48a.val, (loQ (loQ (a * c) (a * d)) (loQ (b * c) (b * d)))), (true, z44.val, (b * d)), (true, z41.val, (b * c)), (true, z38.val, (a * d)), (true, z35.val, (a * c)), (true, y2.val, d), (true, y1.val, c), (true, x2.val, b), (true, x1.val, a)]) := by subst hW53; exact (HS.out).st_RR 1 r30 r30 z48a z48b rfl
  clear hW53
  refine wpAnyH_done (by kernel_rfl) ?_ _
  obtain ⟨b2c0, b2c1, b2c2, b2c3, b2c4, b2c5, b2f0, b2f1, b2f2, b2f3, b2f4, b2f5⟩ := fac6 (x := z48a) (y := z48b) (HS.out.at 1 _ _ _ rfl)
  have b2l := blk_lt (HS.out.at 1 _ _ _ rfl)
  go_wp2_with fail
  clear b2c0 b2c1 b2c2 b2c3 b2c4 b2c5 b2f0 b2f1 b2f2 b2f3 b2f4 b2f5 b2l
  obtain ⟨b2c0, b2c1, b2c2, b2c3, b2c4, b2c5, _⟩ := fac6 (x := z48a) (y := z48b) (HS.out.at 1 _ _ _ rfl)
  refine bodyPost_ret (v := .agg #[.bool z48a.b, .slice z48a.a z48a.n z48a.c, .slice z48a.d z48a.m z48a.e, .bool z48b.b, .slice z48b.a z48b.n z48b.c, .slice z48b.d z48b.m z48b.e]) (by simp [results, Tryz.results68, go_sem, b2c0, b2c1, b2c2, b2c3, b2c4, b2c5]) rfl ⟨_, rfl, (rngP (HS.out.p 1 _ _ rfl) (HS.out.p 0 _ _ rfl)), HS.out.bel⟩
set_option maxRecDepth 100000 in
set_option maxHeartbeats 4000000 in
theorem rless_any (a b c d : Rat) (vx vy : Value) (w : World) (hx : IsRng w vx a b) (hy : IsRng w vy c d) (sa : szR a 1000000000) (sb : szR b 1000000000) (sc : szR c 1000000000) (sd : szR d 1000000000) :
    Calls Tryz.prog 132 #[vx, vy] w (RetRng (a + -d) (b + -c) w) := by
  obtain ⟨x1, x2, rfl, h1, h2⟩ := hx
  obtain ⟨y1, y2, rfl, h3, h4⟩ := hy
  have HS := Lib.hid (((((Sx.init w).addP h1).addP h2).addP h3).addP h4)
  have Sa := Lib.hid sa
  have Sb := Lib.hid sb
  have Sc := Lib.hid sc
  have Sd := Lib.hid sd
  clear h1 h2 h3 h4 sa sb sc sd
  have hmn := method_neg6
  have hma := method_add6
  go_enter Tryz.func132, Tryz.ntmps132
  go_wp2_with fail
  generalize hW1 : (((w).alloc (.cells _ _)).alloc (.cells _ _)).alloc (.cells _ _) = W1 at *
  replace HS : Hid (Sx w W1 [(w.heap.size + 2, #[.bool false, .slice none 0 0, .slice none 0 0, .bool false, .slice none 0 0, .slice none 0 0], 36), (w.heap.size + 1, arr6 y1 y2, 36), (w.heap.size, arr6 x1 x2, 36)] [(true, y2.val, d), (true, y1.val, c), (true, x2.val, b), (true, x1.val, a)]) := by subst hW1; exact (((HS.out).alloc (B := w.heap.size) rfl (by rfl)).alloc (B := w.heap.size + 1) (by simp) (by rfl)).alloc (B := w.heap.size + 2) (by simp) (by rfl)
  clear hW1
  refine wp_region_held_drew (S := (fun w' => Sx w w' [(w.heap.size + 1, arr6 y1 y2, 36), (w.heap.size, arr6 x1 x2, 36)] [])) (by kernel_rfl) ((HS.out.drew).erase 0) (fun hh => ?_)
  replace HS := Lib.hid HS.out.drew
  refine tkA (i := 0) (v := ?vpr2_0_k4) rfl (Or.inl ⟨by first | rfl | kernel_rfl, ?hypr2_0_k4⟩) (by assumption) ?repr2_0_k4
  case hypr2_0_k4 => (intro u hSu; (try dsimp only at hSu); obtain ⟨qb0c0, qb0c1, qb0c2, qb0c3, qb0c4, qb0c5, _⟩ := fac6 (x := x1) (y := x2) (hSu.at 1 _ _ _ rfl); clear hSu; (first | (go_simp; done) | (go_simp; with_reducible rfl)))
  try simp only [nb1, nb2, nb3, Act.put, nb4, nb5, nb6]
  refine tkA (i := 1) (v := ?vpr2_1_k6) rfl (Or.inl ⟨by first | rfl | kernel_rfl, ?hypr2_1_k6⟩) (by assumption) ?repr2_1_k6
  case hypr2_1_k6 => (intro u hSu; (first | (go_simp; done) | (go_simp; with_reducible rfl)))
  try simp only [nb1, nb2, nb3, Act.put, nb4, nb5, nb6]
  refine tkA (i := 2) (v := ?vpr2_2_k8) rfl (Or.inl ⟨by first | rfl | kernel_rfl, ?hypr2_2_k8⟩) (by assumption) ?repr2_2_k8
  case hypr2_2_k8 => (intro u hSu; (try dsimp only at hSu); obtain ⟨qb1c0, qb1c1, qb1c2, qb1c3, qb1c4, qb1c5, _⟩ := fac6 (x := y1) (y := y2) (hSu.at 0 _ _ _ rfl); clear hSu; (first | (go_simp; done) | (go_simp; with_reducible rfl)))
  try simp only [nb1, nb2, nb3, Act.put, nb4, nb5, nb6]
  refine tkA (i := 3) (v := ?vpr2_3_k10) rfl (Or.inl ⟨by first | rfl | kernel_rfl, ?hypr2_3_k10⟩) (by assumption) ?repr2_3_k10
  case hypr2_3_k10 => (intro u hSu; (first | (go_simp; done) | (go_simp; with_reducible rfl)))
  try simp only [nb1, nb2, nb3, Act.put, nb4, nb5, nb6]
  refine rdA (i := 4) rfl (fun K hK => ?_)
  go_simp
  have a12 := HS.out.p 1 _ _ rfl
  have a13 := HS.out.p 0 _ _ rfl
  go_wp2_with (go_at_call 258; (with_reducible refine (rneg_any c d _ _ (rngP a12 a13)).mono ?_); rintro e w11 ⟨v11, rfl, ⟨z11a, z11b, rfl, hv11, hw11⟩, hb11⟩)
  refine hK.out _ _ (Sx.below hh hb11) (fun hh => ?_)
  clear hK K
  try simp only [nb1, nb2, nb3, Act.put, nb4, nb5, nb6]
  replace HS := Lib.hid (HS.out.below hb11)
  clear hb11 a12 a13
  replace HS := Lib.hid (HS.out.addP hv11)
  clear hv11
  replace HS := Lib.hid (HS.out.addP hw11)
  clear hw11
  refine rdA (i := 5) rfl (fun K hK => ?_)
  go_simp
  have a15 := HS.out.p 5 _ _ rfl
  have a16 := HS.out.p 4 _ _ rfl
  have a17 := HS.out.p 1 _ _ rfl
  have a18 := HS.out.p 0 _ _ rfl
  go_wp2_with (go_at_call 67; (with_reducible refine (radd_any a b (-d) (-c) _ _ _ (rngP a15 a16) (rngP a17 a18) (szR_mono Sa.out (by omega)) (szR_mono Sb.out (by omega)) (szR_mono (szR_neg Sd.out) (by omega)) (szR_mono (szR_neg Sc.out) (by omega))).mono ?_); rintro e w14 ⟨v14, rfl, ⟨z14a, z14b, rfl, hv14, hw14⟩, hb14⟩)
  refine hK.out _ _ (Sx.below hh hb14) (fun hh => ?_)
  clear hK K
  try simp only [nb1, nb2, nb3, Act.put, nb4, nb5, nb6]
  replace HS := Lib.hid (HS.out.below hb14)
  clear hb14 a15 a16 a17 a18
  replace HS := Lib.hid (HS.out.addP hv14)
  clear hv14
  replace HS := Lib.hid (HS.out.addP hw14)
  clear hw14
  refine rdA (i := 6) rfl (fun K hK => ?_)
  have b2e := (HS.out.at 0 _ _ _ rfl)
  have b2c0 := blk_cell b2e 0 (.bool false) rfl
  have b2c1 := blk_cell b2e 1 (.slice none 0 0) rfl
  have b2c2 := blk_cell b2e 2 (.slice none 0 0) rfl
  have b2c3 := blk_cell b2e 3 (.bool false) rfl
  have b2c4 := blk_cell b2e 4 (.slice none 0 0) rfl
  have b2c5 := blk_cell b2e 5 (.slice none 0 0) rfl
  have b2f0 := blk_frozen b2e 0
  have b2f1 := blk_frozen b2e 1
  have b2f2 := blk_frozen b2e 2
  have b2f3 := blk_frozen b2e 3
  have b2f4 := blk_frozen b2e 4
  have b2f5 := blk_frozen b2e 5
  have b2l := blk_lt b2e
  clear b2e
  go_simp
  refine hK.out _ _ ((((HS.out).st_RR 0 r30 r30 z14a z14b rfl)).erase 0) (fun hh => ?_)
  clear hK K b2c0 b2c1 b2c2 b2c3 b2c4 b2c5 b2f0 b2f1 b2f2 b2f3 b2f4 b2f5 b2l
  try simp only [nb1, nb2, nb3, Act.put, nb4, nb5, nb6]
  generalize hW19 : ((((((w14).setCell _ _).setCell _ _).setCell _ _).setCell _ _).setCell _ _).setCell _ _ = W19 at *
  replace HS : Hid (Sx w W19 [(w.heap.size + 2, arr6 z14a z14b, 36), (w.heap.size + 1, arr6 y1 y2, 36), (w.heap.size, arr6 x1 x2, 36)] [(true, z14b.val, (b + (-c))), (true, z14a.val, (a + (-d))), (true, z11b.val, (-c)), (true, z11a.val, (-d)), (true, y2.val, d), (true, y1.val, c), (true, x2.val, b), (true, x1.val, a)]) := by subst hW19; exact (HS.out).st_RR 0 r30 r30 z14a z14b rfl
  clear hW19
  refine wpAnyH_done (by kernel_rfl) ?_ _
  obtain ⟨b2c0, b2c1, b2c2, b2c3, b2c4, b2c5, b2f0, b2f1, b2f2, b2f3, b2f4, b2f5⟩ := fac6 (x := z14a) (y := z14b) (HS.out.at 0 _ _ _ rfl)
  have b2l := blk_lt (HS.out.at 0 _ _ _ rfl)
  go_wp2_with fail
  clear b2c0 b2c1 b2c2 b2c3 b2c4 b2c5 b2f0 b2f1 b2f2 b2f3 b2f4 b2f5 b2l
  obtain ⟨b2c0, b2c1, b2c2, b2c3, b2c4, b2c5, _⟩ := fac6 (x := z14a) (y := z14b) (HS.out.at 0 _ _ _ rfl)
  refine bodyPost_ret (v := .agg #[.bool z14a.b, .slice z14a.a z14a.n z14a.c, .slice z14a.d z14a.m z14a.e, .bool z14b.b, .slice z14b.a z14b.n z14b.c, .slice z14b.d z14b.m z14b.e]) (by simp [results, Tryz.results132, go_sem, b2c0, b2c1, b2c2, b2c3, b2c4, b2c5]) rfl ⟨_, rfl, (rngP (HS.out.p 1 _ _ rfl) (HS.out.p 0 _ _ rfl)), HS.out.bel⟩
set_option maxRecDepth 100000 in
set_option maxHeartbeats 4000000 in
theorem rsub_any (a b c d : Rat) (vx vy : Value) (w : World) (hx : IsRng w vx a b) (hy : IsRng w vy c d) (sa : szR a 1000000000) (sb : szR b 1000000000) (sc : szR c 1000000000) (sd : szR d 1000000000) :
    Calls Tryz.prog 69 #[vx, vy] w (RetRng (a + -d) (b + -c) w) := by
  obtain ⟨x1, x2, rfl, h1, h2⟩ := hx
  obtain ⟨y1, y2, rfl, h3, h4⟩ := hy
  have HS := Lib.hid (((((Sx.init w).addP h1).addP h2).addP h3).addP h4)
  have Sa := Lib.hid sa
  have Sb := Lib.hid sb
  have Sc := Lib.hid sc
  have Sd := Lib.hid sd
  clear h1 h2 h3 h4 sa sb sc sd
  go_enter Tryz.func69, Tryz.ntmps69
  go_wp2_with fail
  generalize hW1 : (((w).alloc (.cells _ _)).alloc (.cells _ _)).alloc (.cells _ _) = W1 at *
  replace HS : Hid (Sx w W1 [(w.heap.size + 2, #[.bool false, .slice none 0 0, .slice none 0 0, .bool false, .slice none 0 0, .slice none 0 0], 36), (w.heap.size + 1, arr6 y1 y2, 36), (w.heap.size, arr6 x1 x2, 36)] [(true, y2.val, d), (true, y1.val, c), (true, x2.val, b), (true, x1.val, a)]) := by subst hW1; exact (((HS.out).alloc (B := w.heap.size) rfl (by rfl)).alloc (B := w.heap.size + 1) (by simp) (by rfl)).alloc (B := w.heap.size + 2) (by simp) (by rfl)
  clear hW1
  refine (rless_any a b c d _ _ _ (rngP (HS.out.p 3 _ _ rfl) (HS.out.p 2 _ _ rfl)) (rngP (HS.out.p 1 _ _ rfl) (HS.out.p 0 _ _ rfl)) (szR_mono Sa.out (by omega)) (szR_mono Sb.out (by omega)) (szR_mono Sc.out (by omega)) (szR_mono Sd.out (by omega))).mono ?_
  rintro e w2 ⟨v2, rfl, ⟨z2a, z2b, rfl, hv2, hw2⟩, hb2⟩
  replace HS := Lib.hid (HS.out.below hb2)
  clear hb2
  replace HS := Lib.hid (HS.out.addP hv2)
  clear hv2
  replace HS := Lib.hid (HS.out.addP hw2)
  clear hw2
  have b2e := (HS.out.at 0 _ _ _ rfl)
  have b2c0 := blk_cell b2e 0 (.bool false) rfl
  have b2c1 := blk_cell b2e 1 (.slice none 0 0) rfl
  have b2c2 := blk_cell b2e 2 (.slice none 0 0) rfl
  have b2c3 := blk_cell b2e 3 (.bool false) rfl
  have b2c4 := blk_cell b2e 4 (.slice none 0 0) rfl
  have b2c5 := blk_cell b2e 5 (.slice none 0 0) rfl
  have b2f0 := blk_frozen b2e 0
  have b2f1 := blk_frozen b2e 1
  have b2f2 := blk_frozen b2e 2
  have b2f3 := blk_frozen b2e 3
  have b2f4 := blk_frozen b2e 4
  have b2f5 := blk_frozen b2e 5
  have b2l := blk_lt b2e
  clear b2e
  go_wp2_with fail
  clear b2c0 b2c1 b2c2 b2c3 b2c4 b2c5 b2f0 b2f1 b2f2 b2f3 b2f4 b2f5 b2l
  generalize hW3 : ((((((w2).setCell _ _).setCell _ _).setCell _ _).setCell _ _).setCell _ _).setCell _ _ = W3 at *
  replace HS : Hid (Sx w W3 [(w.heap.size + 2, arr6 z2a z2b, 36), (w.heap.size + 1, arr6 y1 y2, 36), (w.heap.size, arr6 x1 x2, 36)] [(true, z2b.val, (b + -c)), (true, z2a.val, (a + -d)), (true, y2.val, d), (true, y1.val, c), (true, x2.val, b), (true, x1.val, a)]) := by subst hW3; exact (HS.out).st_RR 0 r30 r30 z2a z2b rfl
  clear hW3
  obtain ⟨b2c0, b2c1, b2c2, b2c3, b2c4, b2c5, _⟩ := fac6 (x := z2a) (y := z2b) (HS.out.at 0 _ _ _ rfl)
  refine bodyPost_ret (v := .agg #[.bool z2a.b, .slice z2a.a z2a.n z2a.c, .slice z2a.d z2a.m z2a.e, .bool z2b.b, .slice z2b.a z2b.n z2b.c, .slice z2b.d z2b.m z2b.e]) (by simp [results, Tryz.results69, go_sem, b2c0, b2c1, b2c2, b2c3, b2c4, b2c5]) rfl ⟨_, rfl, (rngP (HS.out.p 1 _ _ rfl) (HS.out.p 0 _ _ rfl)), HS.out.bel⟩
end Go.Proofs.YthdgeindjphklaaGreat

namespace Go.Proofs.YthdgeindjphklaaGreat
open Go.RowKit

/-- The sizes to base 2^64 are at most those to base 2^32. -/
theorem dig64_le (n : Nat) : (dig b64 n).length ≤ (dig b32 n).length := by
  refine dig_length_le b64_two _ _ ?_
  refine Nat.lt_of_lt_of_le (lt_pow_dig_length b32_two n) (Nat.pow_le_pow_left (by unfold b32 b64; decide) _)
end Go.Proofs.YthdgeindjphklaaGreat

namespace Go.Proofs.YthdgeindjphklaaGreat
open Go.RowKit

theorem IsRat.neg3 {w : World} {x : R3} {q : Rat} (h : IsRat w x.val q) : x.b = decide (q.num < 0) := by
  obtain ⟨vn, vd, hxe, _, _⟩ := h
  injection hxe with hxe
  simp only [Array.mk.injEq, List.cons.injEq] at hxe
  have := hxe.1
  injection this
theorem down_any (q : Rat) (k : Nat) (hk : k ≤ 256) (z : Int) (hz : min (max z 0) 256 = (k : Int)) (v : Value) (w : World) (h : IsRat w v q) (hs : szR q 68719476736) : Calls Tryz.prog 117 #[v, .int .i64 z] w (RetRat (downQ q k) w) := by
  obtain ⟨x, rfl⟩ := h.open3
  have hb := h.neg3
  obtain ⟨b, xa, xn, xc, xd, xm, xe⟩ := x
  cases b with
  | false =>
    have hn : decide (q.num < 0) = false := hb.symm
    refine down_f q k hk z hz xa xn xc xd xm xe w h hs _ ?_
    unfold downQ downN
    rw [hn, if_neg (fun h => by rw [decide_eq_false_iff_not] at hn; exact hn h.1)]
  | true =>
    have hn : decide (q.num < 0) = true := hb.symm
    by_cases hr : q.num.natAbs * 2 ^ k % q.den = 0
    · refine down_z q k hk z hz xa xn xc xd xm xe w h hs hr _ ?_
      unfold downQ downN
      rw [hn, if_neg (fun h => h.2 hr)]
    · have hl : 0 < (dig b64 (q.num.natAbs * 2 ^ k % q.den)).length := by
        rcases Nat.eq_zero_or_pos (dig b64 (q.num.natAbs * 2 ^ k % q.den)).length with h0 | h0
        · exfalso
          have e := List.eq_nil_of_length_eq_zero h0
          have := lv_dig b64_two (q.num.natAbs * 2 ^ k % q.den)
          rw [e] at this
          exact hr this.symm
        · exact h0
      refine down_1 q k hk z hz xa xn xc xd xm xe w h hs hl _ ?_
      unfold downQ downN
      rw [hn, if_pos ⟨of_decide_eq_true hn, hr⟩]
set_option maxRecDepth 100000 in
set_option maxHeartbeats 2000000 in
theorem up_any (q : Rat) (k : Nat) (hk : k ≤ 256) (z : Int) (hz : min (max z 0) 256 = (k : Int)) (v : Value) (w : World) (h : IsRat w v q) (hs : szR (-q) 68719476736) : Calls Tryz.prog 118 #[v, .int .i64 z] w (RetRat (upQ q k) w) := by
  obtain ⟨x, rfl⟩ := h.open3
  have HX := Lib.hid h
  have HS := Lib.hid hs
  have HK := Lib.hid hk
  have HZK := Lib.hid hz
  clear hz
  clear h hs hk
  go_enter Tryz.func118, Tryz.ntmps118
  go_wp2_with fail
  generalize hW0 : (w.alloc (.cells x.arr 34)).alloc (.cells _ _) = W at *
  obtain ⟨hal, hB1, hB2⟩ := boxesD w _ _ _ W hW0.symm
  have HB2 := Lib.hid hB2
  have HAL := Lib.hid hal
  clear hW0 hal hB1 hB2
  refine (negRat_any q _ _ (HX.out.below HAL.out)).mono ?_
  rintro e wA ⟨vA, rfl, hvA, hbA⟩
  have EA := Lib.hid (blk_keep HB2.out hbA (blk_lt HB2.out))
  have BA := Lib.hid (bt HAL.out hbA)
  go_wp2_with fail
  refine (down_any (-q) k HK.out z HZK.out _ _ hvA HS.out).mono ?_
  rintro e wB ⟨vB, rfl, hvB, hbB⟩
  have EB := Lib.hid (blk_keep EA.out hbB (blk_lt EA.out))
  have BB := Lib.hid (bt BA.out hbB)
  go_wp2_with fail
  refine (negRat_any (downQ (-q) k) _ _ hvB).mono ?_
  rintro e wC ⟨vC, rfl, hvC, hbC⟩
  have E : Hid (wC.heap[w.heap.size + 1]? = some (.cells r30.arr 34 (0, 0))) := blk_keep EB.out hbC (blk_lt EB.out)
  have BC := Lib.hid (bt BB.out hbC)
  obtain ⟨z, rfl⟩ := hvC.open3
  have HV : Hid (IsRat wC z.val (upQ q k)) := hvC
  clear hvA hvB hvC hbA hbB hbC
  obtain ⟨g0, g1, g2, f0, f1, f2⟩ := fac3 (x := r30) E.out
  go_wp2_with fail
  obtain ⟨h0, h1, h2, _, _, _⟩ := fac3 (x := z) (set3r (x := z) E.out)
  refine bodyPost_ret (v := z.val) (by simp [results, Tryz.results118, go_sem, h0, h1, h2]) rfl ⟨_, rfl, IsRat.set3r HV.out E.out, below3r BC.out (by omega)⟩
theorem boxesR (w : World) (x y : R3) (cs : Array Value) (T : Nat) (W : World) (hW : W = (w.alloc (.cells (arr6 x y) 36)).alloc (.cells cs T)) :
    Below w.heap.size w W ∧ W.heap[w.heap.size]? = some (.cells (arr6 x y) 36 (0, 0)) ∧ W.heap[w.heap.size + 1]? = some (.cells cs T (0, 0)) := by
  subst hW
  have e1 : (w.alloc (.cells (arr6 x y) 36)).heap.size = w.heap.size + 1 := World.size_alloc ..
  have a1 := blk_new w (arr6 x y) 36
  have a2 := blk_new (w.alloc (.cells (arr6 x y) 36)) cs T
  rw [e1] at a2
  exact ⟨below2 _ _ _, (heap_alloc_old _ _ (blk_lt a1)).trans a1, a2⟩
set_option maxRecDepth 100000 in
set_option maxHeartbeats 2000000 in
theorem rround_any (lo hi : Rat) (k : Nat) (hk : k ≤ 256) (z : Int) (hz : min (max z 0) 256 = (k : Int)) (v : Value) (w : World) (h : IsRng w v lo hi) (s1 : szR lo 68719476736) (s2 : szR (-hi) 68719476736) : Calls Tryz.prog 54 #[v, .int .i64 z] w (RetRng (downQ lo k) (upQ hi k) w) := by
  obtain ⟨x, y, rfl, h1, h2⟩ := h
  have HX := Lib.hid h1
  have HY := Lib.hid h2
  have S1 := Lib.hid s1
  have S2 := Lib.hid s2
  have HK := Lib.hid hk
  have HZK := Lib.hid hz
  clear hz
  clear h1 h2 s1 s2 hk
  go_enter Tryz.func54, Tryz.ntmps54
  go_wp2_with fail
  generalize hW0 : (w.alloc (.cells (arr6 x y) 36)).alloc (.cells _ _) = W at *
  obtain ⟨hal, hB1, hB2⟩ := boxesR w _ _ _ _ W hW0.symm
  obtain ⟨x0, x1, x2, y0, y1, y2, _, _, _, _, _, _⟩ := fac6 (x := x) (y := y) hB1
  have HB2 := Lib.hid hB2
  have HAD := Lib.hid hal.drew
  have N3 : Hid (w.heap.size + 1 ≤ W.heap.size) := by
    show _ ≤ _
    have := blk_lt hB2
    omega
  have N0 : Hid (w.heap.size < w.heap.size + 1) := by show _ < _; omega
  clear hW0 hal hB1 hB2
  refine wp_region_held_drew (S := (fun w' => Below (w.heap.size + 1) W w' ∧ w'.cell? ⟨w.heap.size, 0, none⟩ = some (.bool x.b) ∧ w'.cell? ⟨w.heap.size, 1, none⟩ = some (.slice x.a x.n x.c) ∧ w'.cell? ⟨w.heap.size, 2, none⟩ = some (.slice x.d x.m x.e) ∧ w'.cell? ⟨w.heap.size, 3, none⟩ = some (.bool y.b) ∧ w'.cell? ⟨w.heap.size, 4, none⟩ = some (.slice y.a y.n y.c) ∧ w'.cell? ⟨w.heap.size, 5, none⟩ = some (.slice y.d y.m y.e))) (by kernel_rfl) ⟨(Below.refl _ _).drew, x0, x1, x2, y0, y1, y2⟩ (fun hh => ?_)
  clear x0 x1 x2 y0 y1 y2
  refine tk0 (i := 0) (v := ?vp0) rfl (Or.inl ⟨by rfl, ?hyp0⟩) (by assumption) ?rep0
  case hyp0 => intro w hSw; (try dsimp only at hSw); first | (go_simp; done) | (go_simp; with_reducible rfl)
  try simp only [na1, na2, na3, Act.put, na4, na5, na6]
  refine tk0 (i := 1) (v := ?vp1) rfl (Or.inl ⟨by rfl, ?hyp1⟩) (by assumption) ?rep1
  case hyp1 => intro w hSw; (try dsimp only at hSw); first | (go_simp; done) | (go_simp; with_reducible rfl)
  try simp only [na1, na2, na3, Act.put, na4, na5, na6]
  refine tk0 (i := 2) (v := ?vp2) rfl (Or.inl ⟨by rfl, ?hyp2⟩) (by assumption) ?rep2
  case hyp2 => intro w hSw; (try dsimp only at hSw); first | (go_simp; done) | (go_simp; with_reducible rfl)
  try simp only [na1, na2, na3, Act.put, na4, na5, na6]
  refine tk0 (i := 4) (v := ?vp4) rfl (Or.inl ⟨by rfl, ?hyp4⟩) (by assumption) ?rep4
  case hyp4 => intro w hSw; (try dsimp only at hSw); first | (go_simp; done) | (go_simp; with_reducible rfl)
  try simp only [na1, na2, na3, Act.put, na4, na5, na6]
  refine tk0 (i := 5) (v := ?vp5) rfl (Or.inl ⟨by rfl, ?hyp5⟩) (by assumption) ?rep5
  case hyp5 => intro w hSw; (try dsimp only at hSw); first | (go_simp; done) | (go_simp; with_reducible rfl)
  try simp only [na1, na2, na3, Act.put, na4, na5, na6]
  refine tk0 (i := 6) (v := ?vp6) rfl (Or.inl ⟨by rfl, ?hyp6⟩) (by assumption) ?rep6
  case hyp6 => intro w hSw; (try dsimp only at hSw); first | (go_simp; done) | (go_simp; with_reducible rfl)
  try simp only [na1, na2, na3, Act.put, na4, na5, na6]
  refine rd1 (i := 3) rfl (fun K hK => ?_)
  go_simp
  go_wp2_with (go_at_call 117; (with_reducible refine (down_any lo k HK.out z HZK.out _ _ (HX.out.below HAD.out) S1.out).mono ?_); rintro e wA ⟨vA, rfl, hvA, hbA⟩)
  refine hK.out _ _ (kd6 N3.out hbA hh) (fun hh => ?_)
  clear hK K
  try simp only [na1, na2, na3, Act.put, na4, na5, na6]
  have BA := Lib.hid (bt HAD.out hbA)
  refine rd1 (i := 7) rfl (fun K hK => ?_)
  go_simp
  go_wp2_with (go_at_call 118; (with_reducible refine (up_any hi k HK.out z HZK.out _ _ (HY.out.below BA.out) S2.out).mono ?_); rintro e wB ⟨vB, rfl, hvB, hbB⟩; obtain ⟨za, rfl⟩ := hvA.open3; obtain ⟨zb, rfl⟩ := hvB.open3)
  refine hK.out _ _ (kd6 N3.out hbB hh) (fun hh => ?_)
  clear hK K
  try simp only [na1, na2, na3, Act.put, na4, na5, na6]
  have BB := Lib.hid (bt BA.out hbB)
  refine tk0 (i := 8) (v := ?vp8) rfl (Or.inl ⟨by rfl, ?hyp8⟩) (by assumption) ?rep8
  case hyp8 => intro w hSw; (try dsimp only at hSw); first | (go_simp; done) | (go_simp; with_reducible rfl)
  try simp only [na1, na2, na3, Act.put, na4, na5, na6]
  have e0 : W.drew.heap[w.heap.size + 1]? = _ := HB2.out
  have eA := blk_keep e0 hbA (blk_lt e0)
  have E : Hid (wB.heap[w.heap.size + 1]? = some (.cells (arr6 r30 r30) 36 (0, 0))) := blk_keep eA hbB (blk_lt eA)
  have HV1 := Lib.hid (hvA.below hbB)
  have HV2 := Lib.hid hvB
  obtain ⟨g0, g1, g2, g3, g4, g5, f0, f1, f2, f3, f4, f5⟩ := fac6 (x := r30) (y := r30) E.out
  clear e0 eA hvA hvB hbA hbB
  refine rd1 (i := 9) rfl (fun K hK => ?_)
  go_simp
  refine hK.out _ _ (ks6 (Nat.le_refl _) N0.out N0.out N0.out N0.out N0.out N0.out (below6r (Below.refl _ _) (Nat.le_refl _)) hh) (fun hh => ?_)
  clear hK K
  try simp only [na1, na2, na3, Act.put, na4, na5, na6]
  refine wpAnyH_done (by kernel_rfl) ?_ _
  obtain ⟨h0, h1, h2, h3, h4, h5, _, _, _, _, _, _⟩ := fac6 (x := za) (y := zb) (set6r (x := za) (y := zb) E.out)
  go_wp2_with fail
  refine bodyPost_ret (v := rngV za zb) (by simp [results, Tryz.results54, go_sem, h0, h1, h2, h3, h4, h5]) rfl ⟨_, rfl, ⟨za, zb, rfl, IsRat.set6r HV1.out E.out, IsRat.set6r HV2.out E.out⟩, below6r BB.out (by omega)⟩
theorem boxesS (w : World) (x y x2 y2 : R3) (cs : Array Value) (T : Nat) (W : World) (hW : W = ((w.alloc (.cells (arr6 x y) 36)).alloc (.cells (arr6 x2 y2) 36)).alloc (.cells cs T)) :
    Below w.heap.size w W ∧ W.heap[w.heap.size]? = some (.cells (arr6 x y) 36 (0, 0)) ∧ W.heap[w.heap.size + 1]? = some (.cells (arr6 x2 y2) 36 (0, 0)) ∧ W.heap[w.heap.size + 1 + 1]? = some (.cells cs T (0, 0)) ∧ W.heap.size = w.heap.size + 3 := by
  subst hW
  have e1 : (w.alloc (.cells (arr6 x y) 36)).heap.size = w.heap.size + 1 := World.size_alloc ..
  have e2 : ((w.alloc (.cells (arr6 x y) 36)).alloc (.cells (arr6 x2 y2) 36)).heap.size = w.heap.size + 1 + 1 := by rw [World.size_alloc, e1]
  have a1 := blk_new w (arr6 x y) 36
  have a2 := blk_new (w.alloc (.cells (arr6 x y) 36)) (arr6 x2 y2) 36
  have a3 := blk_new ((w.alloc (.cells (arr6 x y) 36)).alloc (.cells (arr6 x2 y2) 36)) cs T
  rw [e1] at a2
  rw [e2] at a3
  have a1' := (heap_alloc_old _ (.cells (arr6 x2 y2) 36) (blk_lt a1)).trans a1
  exact ⟨ba (below2 _ _ _), (heap_alloc_old _ _ (blk_lt a1')).trans a1', (heap_alloc_old _ _ (blk_lt a2)).trans a2, a3, by rw [World.size_alloc, e2]⟩
set_option maxRecDepth 100000 in
set_option maxHeartbeats 2000000 in
theorem step_any (a0 a1 p0 p1 : Rat) (k : Nat) (hk : k ≤ 256) (z : Int) (hz : min (max z 0) 256 = (k : Int)) (vc vr : Value) (w : World) (hc : IsRng w vc a0 a1) (hr : IsRng w vr p0 p1) (q0 q1 : Rat) (hq0 : a0 + p0 * (1 - a0) = q0) (hq1 : a1 + p1 * (1 - a1) = q1)
    (s1 : szR a0 68719476736) (s2 : szR p0 68719476736) (s3 : szR (1 - a0) 68719476736) (s4 : szR (p0 * (1 - a0)) 68719476736) (s5 : szR a1 68719476736) (s6 : szR p1 68719476736) (s7 : szR (1 - a1) 68719476736) (s8 : szR (p1 * (1 - a1)) 68719476736) (s9 : szR q0 68719476736) (s10 : szR q1 68719476736) (s11 : szR (-q1) 68719476736) (hcm : cmpR q0 q1 ≤ 0) :
    Calls Tryz.prog 125 #[vc, vr, .int .i64 z] w (RetRng (downQ q0 k) (upQ q1 k) w) := by
  obtain ⟨x, y, rfl, h1, h2⟩ := hc
  obtain ⟨x', y', rfl, h3, h4⟩ := hr
  have HX := Lib.hid (show IsRng w (rngV x y) a0 a1 from ⟨x, y, rfl, h1, h2⟩)
  have HY := Lib.hid (show IsRng w (rngV x' y') p0 p1 from ⟨x', y', rfl, h3, h4⟩)
  clear h1 h2 h3 h4
  have S1 := Lib.hid s1
  have S2 := Lib.hid s2
  have S3 := Lib.hid s3
  have S4 := Lib.hid s4
  have S5 := Lib.hid s5
  have S6 := Lib.hid s6
  have S7 := Lib.hid s7
  have S8 := Lib.hid s8
  have S9 := Lib.hid s9
  have S10 := Lib.hid s10
  have S11 := Lib.hid s11
  have HK := Lib.hid hk
  have HZK := Lib.hid hz
  clear hz
  have HCM := Lib.hid hcm
  have HQ0 := Lib.hid hq0
  have HQ1 := Lib.hid hq1
  clear s1 s2 s3 s4 s5 s6 s7 s8 s9 s10 s11 hk hcm hq0 hq1
  have S12 : Hid (szR q0 274877906944) := ⟨Nat.le_trans S9.out.1 (by omega), Nat.le_trans S9.out.2 (by omega)⟩
  have S13 : Hid (szR q1 274877906944) := ⟨Nat.le_trans S10.out.1 (by omega), Nat.le_trans S10.out.2 (by omega)⟩
  go_enter Tryz.func125, Tryz.ntmps125
  go_wp2_with fail
  generalize hW0 : ((w.alloc (.cells (arr6 x y) 36)).alloc (.cells (arr6 x' y') 36)).alloc (.cells _ _) = W at *
  obtain ⟨hal, hB1, hB2, hB3, hWs⟩ := boxesS w _ _ _ _ _ _ W hW0.symm
  obtain ⟨x0, x1, x2, x3, x4, x5, _, _, _, _, _, _⟩ := fac6 (x := x) (y := y) hB1
  obtain ⟨y0, y1, y2, y3, y4, y5, _, _, _, _, _, _⟩ := fac6 (x := x') (y := y') hB2
  have HB3 := Lib.hid hB3
  have HAD := Lib.hid hal.drew
  have N3 : Hid (w.heap.size + 1 + 1 ≤ W.heap.size) := by show _ ≤ _; omega
  have N0 : Hid (w.heap.size < w.heap.size + 1 + 1) := by show _ < _; omega
  have N1 : Hid (w.heap.size + 1 < w.heap.size + 1 + 1) := by show _ < _; omega
  clear hW0 hal hB1 hB2 hB3 hWs
  refine wp_region_held_drew (S := (fun w' => Below (w.heap.size + 1 + 1) W w' ∧ w'.cell? ⟨w.heap.size, 0, none⟩ = some (.bool x.b) ∧ w'.cell? ⟨w.heap.size, 1, none⟩ = some (.slice x.a x.n x.c) ∧ w'.cell? ⟨w.heap.size, 2, none⟩ = some (.slice x.d x.m x.e) ∧ w'.cell? ⟨w.heap.size, 3, none⟩ = some (.bool y.b) ∧ w'.cell? ⟨w.heap.size, 4, none⟩ = some (.slice y.a y.n y.c) ∧ w'.cell? ⟨w.heap.size, 5, none⟩ = some (.slice y.d y.m y.e) ∧ w'.cell? ⟨w.heap.size + 1, 0, none⟩ = some (.bool x'.b) ∧ w'.cell? ⟨w.heap.size + 1, 1, none⟩ = some (.slice x'.a x'.n x'.c) ∧ w'.cell? ⟨w.heap.size + 1, 2, none⟩ = some (.slice x'.d x'.m x'.e) ∧ w'.cell? ⟨w.heap.size + 1, 3, none⟩ = some (.bool y'.b) ∧ w'.cell? ⟨w.heap.size + 1, 4, none⟩ = some (.slice y'.a y'.n y'.c) ∧ w'.cell? ⟨w.heap.size + 1, 5, none⟩ = some (.slice y'.d y'.m y'.e))) (by kernel_rfl) ⟨(Below.refl _ _).drew, x0, x1, x2, x3, x4, x5, y0, y1, y2, y3, y4, y5⟩ (fun hh => ?_)
  clear x0 x1 x2 x3 x4 x5 y0 y1 y2 y3 y4 y5
  refine tk0 (i := 0) (v := ?vp0) rfl (Or.inl ⟨by rfl, ?hyp0⟩) (by assumption) ?rep0
  case hyp0 => intro w hSw; (try dsimp only at hSw); first | (go_simp; done) | (go_simp; with_reducible rfl)
  try simp only [na1, na2, na3, Act.put, na4, na5, na6]
  refine tk0 (i := 1) (v := ?vp1) rfl (Or.inl ⟨by rfl, ?hyp1⟩) (by assumption) ?rep1
  case hyp1 => intro w hSw; (try dsimp only at hSw); first | (go_simp; done) | (go_simp; with_reducible rfl)
  try simp only [na1, na2, na3, Act.put, na4, na5, na6]
  refine tk0 (i := 3) (v := ?vp3) rfl (Or.inl ⟨by rfl, ?hyp3⟩) (by assumption) ?rep3
  case hyp3 => intro w hSw; (try dsimp only at hSw); first | (go_simp; done) | (go_simp; with_reducible rfl)
  try simp only [na1, na2, na3, Act.put, na4, na5, na6]
  refine tk0 (i := 6) (v := ?vp6) rfl (Or.inl ⟨by rfl, ?hyp6⟩) (by assumption) ?rep6
  case hyp6 => intro w hSw; (try dsimp only at hSw); first | (go_simp; done) | (go_simp; with_reducible rfl)
  try simp only [na1, na2, na3, Act.put, na4, na5, na6]
  refine tk0 (i := 7) (v := ?vp7) rfl (Or.inl ⟨by rfl, ?hyp7⟩) (by assumption) ?rep7
  case hyp7 => intro w hSw; (try dsimp only at hSw); first | (go_simp; done) | (go_simp; with_reducible rfl)
  try simp only [na1, na2, na3, Act.put, na4, na5, na6]
  refine tk0 (i := 9) (v := ?vp9) rfl (Or.inl ⟨by rfl, ?hyp9⟩) (by assumption) ?rep9
  case hyp9 => intro w hSw; (try dsimp only at hSw); first | (go_simp; done) | (go_simp; with_reducible rfl)
  try simp only [na1, na2, na3, Act.put, na4, na5, na6]
  refine tk0 (i := 13) (v := ?vp13) rfl (Or.inl ⟨by rfl, ?hyp13⟩) (by assumption) ?rep13
  case hyp13 => intro w hSw; (try dsimp only at hSw); first | (go_simp; done) | (go_simp; with_reducible rfl)
  try simp only [na1, na2, na3, Act.put, na4, na5, na6]
  refine rd1 (i := 2) rfl (fun K hK => ?_)
  go_simp
  go_wp2_with (go_at_call 79; (with_reducible refine (rlo_any a0 a1 _ _ (HX.out.below HAD.out)).mono ?_); rintro e wA ⟨vA, rfl, hvA, hbA⟩)
  refine hK.out _ _ (kd12 N3.out hbA hh) (fun hh => ?_)
  clear hK K
  try simp only [na1, na2, na3, Act.put, na4, na5, na6]
  have BA := Lib.hid (bt HAD.out hbA)
  refine rd1 (i := 4) rfl (fun K hK => ?_)
  go_simp
  go_wp2_with (go_at_call 79; (with_reducible refine (rlo_any p0 p1 _ _ (HY.out.below BA.out)).mono ?_); rintro e wB ⟨vB, rfl, hvB, hbB⟩)
  refine hK.out _ _ (kd12 N3.out hbB hh) (fun hh => ?_)
  clear hK K
  try simp only [na1, na2, na3, Act.put, na4, na5, na6]
  have BB := Lib.hid (bt BA.out hbB)
  refine rd1 (i := 5) rfl (fun K hK => ?_)
  go_simp
  go_wp2_with (go_at_call 174; (with_reducible refine (stepf_any a0 p0 _ _ _ (hvA.below hbB) hvB S1.out S2.out S3.out S4.out).mono ?_); rintro e wC ⟨vC, rfl, hvC, hbC⟩)
  refine hK.out _ _ (kd12 N3.out hbC hh) (fun hh => ?_)
  clear hK K
  try simp only [na1, na2, na3, Act.put, na4, na5, na6]
  have BC := Lib.hid (bt BB.out hbC)
  rw [HQ0.out] at hvC
  refine rd1 (i := 8) rfl (fun K hK => ?_)
  go_simp
  go_wp2_with (go_at_call 80; (with_reducible refine (rhi_any a0 a1 _ _ (HX.out.below BC.out)).mono ?_); rintro e wD ⟨vD, rfl, hvD, hbD⟩)
  refine hK.out _ _ (kd12 N3.out hbD hh) (fun hh => ?_)
  clear hK K
  try simp only [na1, na2, na3, Act.put, na4, na5, na6]
  have BD := Lib.hid (bt BC.out hbD)
  refine rd1 (i := 10) rfl (fun K hK => ?_)
  go_simp
  go_wp2_with (go_at_call 80; (with_reducible refine (rhi_any p0 p1 _ _ (HY.out.below BD.out)).mono ?_); rintro e wF ⟨vF, rfl, hvF, hbF⟩)
  refine hK.out _ _ (kd12 N3.out hbF hh) (fun hh => ?_)
  clear hK K
  try simp only [na1, na2, na3, Act.put, na4, na5, na6]
  have BF := Lib.hid (bt BD.out hbF)
  refine rd1 (i := 11) rfl (fun K hK => ?_)
  go_simp
  go_wp2_with (go_at_call 174; (with_reducible refine (stepf_any a1 p1 _ _ _ (hvD.below hbF) hvF S5.out S6.out S7.out S8.out).mono ?_); rintro e wG ⟨vG, rfl, hvG, hbG⟩)
  refine hK.out _ _ (kd12 N3.out hbG hh) (fun hh => ?_)
  clear hK K
  try simp only [na1, na2, na3, Act.put, na4, na5, na6]
  have BG := Lib.hid (bt BF.out hbG)
  rw [HQ1.out] at hvG
  refine rd1 (i := 12) rfl (fun K hK => ?_)
  go_simp
  go_wp2_with (go_at_call 148; (with_reducible refine (span_any q0 q1 _ _ _ (hvC.below (bt (bt hbD hbF) hbG)) hvG S12.out S13.out HCM.out).mono ?_); rintro e wI ⟨vI, rfl, hvI, hbI⟩)
  refine hK.out _ _ (kd12 N3.out hbI hh) (fun hh => ?_)
  clear hK K
  try simp only [na1, na2, na3, Act.put, na4, na5, na6]
  have BI := Lib.hid (bt BG.out hbI)
  refine rd1 (i := 14) rfl (fun K hK => ?_)
  go_simp
  go_wp2_with (go_at_call 54; (with_reducible refine (rround_any q0 q1 k HK.out z HZK.out _ _ hvI S9.out S11.out).mono ?_); rintro e wJ ⟨vJ, rfl, hvJ, hbJ⟩)
  refine hK.out _ _ (kd12 N3.out hbJ hh) (fun hh => ?_)
  clear hK K
  try simp only [na1, na2, na3, Act.put, na4, na5, na6]
  have BJ := Lib.hid (bt BI.out hbJ)
  obtain ⟨za, zb, rfl, hz1, hz2⟩ := hvJ
  have e0 : W.drew.heap[w.heap.size + 1 + 1]? = _ := HB3.out
  have eA := blk_keep e0 hbA (blk_lt e0)
  have eB := blk_keep eA hbB (blk_lt eA)
  have eC := blk_keep eB hbC (blk_lt eB)
  have eD := blk_keep eC hbD (blk_lt eC)
  have eF := blk_keep eD hbF (blk_lt eD)
  have eG := blk_keep eF hbG (blk_lt eF)
  have eI := blk_keep eG hbI (blk_lt eG)
  have eJ := blk_keep eI hbJ (blk_lt eI)
  have E : Hid (wJ.heap[w.heap.size + 1 + 1]? = some (.cells (arr6 r30 r30) 36 (0, 0))) := eJ
  have HV1 := Lib.hid hz1
  have HV2 := Lib.hid hz2
  obtain ⟨g0, g1, g2, g3, g4, g5, f0, f1, f2, f3, f4, f5⟩ := fac6 (x := r30) (y := r30) E.out
  clear e0 eA eB eC eD eF eG eI eJ hz1 hz2
  refine rd1 (i := 15) rfl (fun K hK => ?_)
  go_simp
  refine hK.out _ _ (ks12 (Nat.le_refl _) N0.out N0.out N0.out N0.out N0.out N0.out N1.out N1.out N1.out N1.out N1.out N1.out (below6r (Below.refl _ _) (Nat.le_refl _)) hh) (fun hh => ?_)
  clear hK K
  try simp only [na1, na2, na3, Act.put, na4, na5, na6]
  refine wpAnyH_done (by kernel_rfl) ?_ _
  obtain ⟨h0, h1, h2, h3, h4, h5, _, _, _, _, _, _⟩ := fac6 (x := za) (y := zb) (set6r (x := za) (y := zb) E.out)
  go_wp2_with fail
  refine bodyPost_ret (v := rngV za zb) (by simp [results, Tryz.results125, go_sem, h0, h1, h2, h3, h4, h5]) rfl ⟨_, rfl, ⟨za, zb, rfl, IsRat.set6r HV1.out E.out, IsRat.set6r HV2.out E.out⟩, below6r BJ.out (by omega)⟩
end Go.Proofs.YthdgeindjphklaaGreat

namespace Go.Proofs.YthdgeindjphklaaGreat
open Go.RowKit

set_option maxRecDepth 100000 in
set_option maxHeartbeats 2000000 in
theorem part_ok (lo hi : Rat) (v : Value) (w : World) (h : IsRng w v lo hi) (h0 : 0 ≤ sgnI (decide (lo.num < 0)) lo.num.natAbs) (h1 : cmpR hi 1 ≤ 0) (s1 : szR hi 274877906944) : Calls Tryz.prog 100 #[v] w (RetBool true w) := by
  have HR := Lib.hid h
  obtain ⟨x, y, rfl, _, _⟩ := h
  have c0 : decide (sgnI (decide (lo.num < 0)) lo.num.natAbs ≥ 0) = true := decide_eq_true h0
  have c1 : decide (cmpR hi 1 ≤ 0) = true := decide_eq_true h1
  have S1 := Lib.hid s1
  have H0 := Lib.hid h0
  have H1 := Lib.hid h1
  clear s1 h0 h1
  have S2 : Hid (szR 1 274877906944) := one_szR _ (by omega)
  go_enter Tryz.func100, Tryz.ntmps100
  go_wp2_with fail
  have hal := below1 w (.cells (arr6 x y) 36)
  generalize hW0 : w.alloc (.cells (arr6 x y) 36) = W at *
  have hB : W.heap[w.heap.size]? = some (.cells (arr6 x y) 36 (0, 0)) := by rw [← hW0]; exact blk_new _ _ _
  have HAL := Lib.hid hal
  clear hW0 hal
  refine (rlo_any lo hi _ _ (HR.out.below HAL.out)).mono ?_
  rintro e wA ⟨vA, rfl, hvA, hbA⟩
  have BA := Lib.hid (bt HAL.out hbA)
  have eA := blk_keep hB hbA (blk_lt hB)
  obtain ⟨a1, c1', a2, c2', rfl, _, _⟩ := hvA.opened
  clear hB hvA hbA
  go_wp2_with fail
  refine (sign_any _ _ lo.num.natAbs _ _ _ _ _).mono ?_
  rintro e wB ⟨rfl, hbB⟩
  have BB := Lib.hid (bt BA.out hbB)
  have eB := blk_keep eA hbB (blk_lt eA)
  obtain ⟨x0, x1, x2, x3, x4, x5, _, _, _, _, _, _⟩ := fac6 (x := x) (y := y) eB
  clear eA hbB
  go_wp2_with fail
  refine (rhi_any lo hi _ _ (HR.out.below BB.out)).mono ?_
  rintro e wC ⟨vC, rfl, hvC, hbC⟩
  have BC := Lib.hid (bt BB.out hbC)
  clear x0 x1 x2 x3 x4 x5 eB
  go_wp2_with fail
  refine (one_any _).mono ?_
  rintro e wD ⟨vD, rfl, hvD, hbD⟩
  have BD := Lib.hid (bt BC.out hbD)
  go_wp2_with fail
  refine (cmpRat_any hi 1 _ _ _ (hvC.below hbD) hvD S1.out S2.out).mono ?_
  rintro e wE ⟨rfl, hbE⟩
  have BE := Lib.hid (bt BD.out hbE)
  clear hvC hvD hbC hbD hbE
  go_wp2_with fail
  go_ret
  exact ⟨by simp [c1], BE.out⟩
set_option maxRecDepth 100000 in
set_option maxHeartbeats 2000000 in
theorem Step_ok (a0 a1 p0 p1 : Rat) (k : Nat) (vc vr : Value) (w : World) (hc : IsRng w vc a0 a1) (hr : IsRng w vr p0 p1) (q0 q1 : Rat)
    (P1 : Hid (∀ W v, IsRng W v a0 a1 → Calls Tryz.prog 100 #[v] W (RetBool true W))) (P2 : Hid (∀ W v, IsRng W v p0 p1 → Calls Tryz.prog 100 #[v] W (RetBool true W)))
    (HS : Hid (∀ W v u, IsRng W v a0 a1 → IsRng W u p0 p1 → Calls Tryz.prog 125 #[v, u, .int .i64 k] W (RetRng q0 q1 W))) :
    Calls Tryz.prog 62 #[vc, vr, .int .i64 k] w (RetRngE q0 q1 0 w) := by
  have HX := Lib.hid hc
  have HY := Lib.hid hr
  obtain ⟨x, y, rfl, _, _⟩ := hc
  obtain ⟨x', y', rfl, _, _⟩ := hr
  go_enter Tryz.func62, Tryz.ntmps62
  go_wp2_with fail
  generalize hW0 : ((w.alloc (.cells (arr6 x y) 36)).alloc (.cells (arr6 x' y') 36)).alloc (.cells _ _) = W at *
  obtain ⟨hal, hB1, hB2, hB3, hWs⟩ := boxesS w _ _ _ _ _ _ W hW0.symm
  have HAL := Lib.hid hal
  clear hW0 hal hWs
  refine (P1.out _ _ (HX.out.below HAL.out)).mono ?_
  rintro e wA ⟨rfl, hb⟩
  have e1 := blk_keep hB1 hb (blk_lt hB1)
  have e2 := blk_keep hB2 hb (blk_lt hB2)
  have e3 := blk_keep hB3 hb (blk_lt hB3)
  have BA := Lib.hid (bt HAL.out hb)
  obtain ⟨y0, y1, y2, y3, y4, y5, _, _, _, _, _, _⟩ := fac6 (x := x') (y := y') e2
  clear hB1 hB2 hB3 hb
  go_wp2_with fail
  refine (P2.out _ _ (HY.out.below BA.out)).mono ?_
  rintro e wB ⟨rfl, hb⟩
  have f1 := blk_keep e1 hb (blk_lt e1)
  have f2 := blk_keep e2 hb (blk_lt e2)
  have f3 := blk_keep e3 hb (blk_lt e3)
  have BB := Lib.hid (bt BA.out hb)
  clear e1 e2 e3 hb y0 y1 y2 y3 y4 y5
  obtain ⟨x0, x1, x2, x3, x4, x5, _, _, _, _, _, _⟩ := fac6 (x := x) (y := y) f1
  obtain ⟨y0, y1, y2, y3, y4, y5, _, _, _, _, _, _⟩ := fac6 (x := x') (y := y') f2
  go_wp2_with fail
  refine (HS.out _ _ _ (HX.out.below BB.out) (HY.out.below BB.out)).mono ?_
  rintro e wC ⟨v, rfl, ⟨za, zb, rfl, hz1, hz2⟩, hb⟩
  have E : Hid (wC.heap[w.heap.size + 1 + 1]? = some (.cells (arr6 r30 r30) 36 (0, 0))) := blk_keep f3 hb (blk_lt f3)
  have BC := Lib.hid (bt BB.out hb)
  have HV1 := Lib.hid hz1
  have HV2 := Lib.hid hz2
  clear x0 x1 x2 x3 x4 x5 y0 y1 y2 y3 y4 y5 f1 f2 f3 hz1 hz2 hb
  obtain ⟨g0, g1, g2, g3, g4, g5, f0, f1, f2, f3, f4, f5⟩ := fac6 (x := r30) (y := r30) E.out
  go_wp2_with fail
  obtain ⟨h0, h1, h2, h3, h4, h5, _, _, _, _, _, _⟩ := fac6 (x := za) (y := zb) (set6r (x := za) (y := zb) E.out)
  refine bodyPost_ret (v := .tuple #[rngV za zb, .int .i64 0]) (by simp [results, Tryz.results62, go_sem, h0, h1, h2, h3, h4, h5]) rfl ⟨_, rfl, ⟨za, zb, rfl, IsRat.set6r HV1.out E.out, IsRat.set6r HV2.out E.out⟩, below6r BC.out (by omega)⟩
theorem txt_half : strB (txtQ (1 / 2)) = { data := #[49, 47, 50] } := by decide +kernel
set_option maxRecDepth 100000 in
set_option maxHeartbeats 2000000 in
theorem rtext_half (v : Value) (w : World) (h : IsRng w v (1 / 2) (1 / 2)) : Calls Tryz.prog 55 #[v] w (fun e w' => e = .returned (.string { data := #[91, 49, 47, 50, 44, 49, 47, 50, 93] }) ∧ Below w.heap.size w w') := by
  have HT : Hid (∀ W v, IsRat W v (1 / 2) → Calls Tryz.prog 106 #[v] W (fun e w' => e = .returned (.string { data := #[49, 47, 50] }) ∧ Below W.heap.size W w')) := fun W v h => by
    have := textRat_any (1 / 2) v W h ⟨by decide +kernel, by decide +kernel⟩
    unfold RetStr at this
    rw [txt_half] at this
    exact this
  obtain ⟨x, y, rfl, h1, h2⟩ := h
  have HX := Lib.hid h1
  have HY := Lib.hid h2
  clear h1 h2
  go_enter Tryz.func55, Tryz.ntmps55
  go_wp2_with fail
  have hal := below1 w (.cells (arr6 x y) 36)
  generalize hW0 : w.alloc (.cells (arr6 x y) 36) = W at *
  have hB : W.heap[w.heap.size]? = some (.cells (arr6 x y) 36 (0, 0)) := by rw [← hW0]; exact blk_new _ _ _
  obtain ⟨x0, x1, x2, y0, y1, y2, _, _, _, _, _, _⟩ := fac6 (x := x) (y := y) hB
  have HAD := Lib.hid hal.drew
  have N3 : Hid (w.heap.size ≤ W.heap.size) := hal.size
  clear hW0 hal hB
  refine wp_region_held_drew (S := (fun w' => Below (w.heap.size) W w' ∧ w'.cell? ⟨w.heap.size, 0, none⟩ = some (.bool x.b) ∧ w'.cell? ⟨w.heap.size, 1, none⟩ = some (.slice x.a x.n x.c) ∧ w'.cell? ⟨w.heap.size, 2, none⟩ = some (.slice x.d x.m x.e) ∧ w'.cell? ⟨w.heap.size, 3, none⟩ = some (.bool y.b) ∧ w'.cell? ⟨w.heap.size, 4, none⟩ = some (.slice y.a y.n y.c) ∧ w'.cell? ⟨w.heap.size, 5, none⟩ = some (.slice y.d y.m y.e))) (by kernel_rfl) ⟨(Below.refl _ _).drew, x0, x1, x2, y0, y1, y2⟩ (fun hh => ?_)
  clear x0 x1 x2 y0 y1 y2
  refine tk0 (i := 0) (v := ?vp0) rfl (Or.inl ⟨by rfl, ?hyp0⟩) (by assumption) ?rep0
  case hyp0 => intro w hSw; (try dsimp only at hSw); first | (go_simp; done) | (go_simp; with_reducible rfl)
  try simp only [na1, na2, na3, Act.put, na4, na5, na6]
  refine tk0 (i := 1) (v := ?vp1) rfl (Or.inl ⟨by rfl, ?hyp1⟩) (by assumption) ?rep1
  case hyp1 => intro w hSw; (try dsimp only at hSw); first | (go_simp; done) | (go_simp; with_reducible rfl)
  try simp only [na1, na2, na3, Act.put, na4, na5, na6]
  refine tk0 (i := 5) (v := ?vp5) rfl (Or.inl ⟨by rfl, ?hyp5⟩) (by assumption) ?rep5
  case hyp5 => intro w hSw; (try dsimp only at hSw); first | (go_simp; done) | (go_simp; with_reducible rfl)
  try simp only [na1, na2, na3, Act.put, na4, na5, na6]
  refine tk0 (i := 6) (v := ?vp6) rfl (Or.inl ⟨by rfl, ?hyp6⟩) (by assumption) ?rep6
  case hyp6 => intro w hSw; (try dsimp only at hSw); first | (go_simp; done) | (go_simp; with_reducible rfl)
  try simp only [na1, na2, na3, Act.put, na4, na5, na6]
  refine rd1 (i := 2) rfl (fun K hK => ?_)
  go_simp
  go_wp2_with (go_at_call 106; (with_reducible refine (HT.out _ _ (HX.out.below HAD.out)).mono ?_); rintro e wA ⟨rfl, hbA⟩)
  refine hK.out _ _ (kd6 N3.out hbA hh) (fun hh => ?_)
  clear hK K
  try simp only [na1, na2, na3, Act.put, na4, na5, na6]
  have BA := Lib.hid (bt HAD.out hbA)
  refine tk0 (i := 3) (v := ?vp3) rfl (Or.inl ⟨by rfl, ?hyp3⟩) (by assumption) ?rep3
  case hyp3 => intro w hSw; (try dsimp only at hSw); first | (go_simp; done) | (go_simp; with_reducible rfl)
  try simp only [na1, na2, na3, Act.put, na4, na5, na6]
  refine tk0 (i := 4) (v := ?vp4) rfl (Or.inl ⟨by rfl, ?hyp4⟩) (by assumption) ?rep4
  case hyp4 => intro w hSw; (try dsimp only at hSw); first | (go_simp; done) | (go_simp; with_reducible rfl)
  try simp only [na1, na2, na3, Act.put, na4, na5, na6]
  refine rd1 (i := 7) rfl (fun K hK => ?_)
  go_simp
  go_wp2_with (go_at_call 106; (with_reducible refine (HT.out _ _ (HY.out.below BA.out)).mono ?_); rintro e wB ⟨rfl, hbB⟩)
  refine hK.out _ _ (kd6 N3.out hbB hh) (fun hh => ?_)
  clear hK K
  try simp only [na1, na2, na3, Act.put, na4, na5, na6]
  have BB := Lib.hid (bt BA.out hbB)
  refine tk0 (i := 8) (v := ?vp8) rfl (Or.inl ⟨by rfl, ?hyp8⟩) (by assumption) ?rep8
  case hyp8 => intro w hSw; (try dsimp only at hSw); first | (go_simp; done) | (go_simp; with_reducible rfl)
  try simp only [na1, na2, na3, Act.put, na4, na5, na6]
  refine tk0 (i := 9) (v := ?vp9) rfl (Or.inl ⟨by rfl, ?hyp9⟩) (by assumption) ?rep9
  case hyp9 => intro w hSw; (try dsimp only at hSw); first | (go_simp; done) | (go_simp; with_reducible rfl)
  try simp only [na1, na2, na3, Act.put, na4, na5, na6]
  refine tk0 (i := 10) (v := ?vp10) rfl (Or.inl ⟨by rfl, ?hyp10⟩) (by assumption) ?rep10
  case hyp10 => intro w hSw; (try dsimp only at hSw); first | (go_simp; done) | (go_simp; with_reducible rfl)
  try simp only [na1, na2, na3, Act.put, na4, na5, na6]
  refine wpAnyH_done (by kernel_rfl) ?_ _
  have hst : (({ data := #[91] } ++ { data := #[49, 47, 50] } ++ { data := #[44] } ++ { data := #[49, 47, 50] } ++ { data := #[93] } : ByteArray)) = { data := #[91, 49, 47, 50, 44, 49, 47, 50, 93] } := by decide +kernel
  go_wp2_with fail
  go_ret
  exact ⟨by rw [hst]; rfl, BB.out⟩
def ruA5 : Ru := ⟨1, 2, 1, 1, 0, 0, 0, 2, 0, 0, 0, 0, 0⟩
theorem play_A : playE ruA5 [1, 0, 2, 0, 3, 0, 0, 0] = (⟨5, 0, 0, 0, false, false, false, false⟩, 8, 0) := by kernel_rfl
theorem down_half : downQ (1 / 2) 4 = 1 / 2 := by decide +kernel
theorem up_half : upQ (1 / 2) 4 = 1 / 2 := by decide +kernel
theorem ints_new8 (w : World) (a b c d e f g h : Int) (t : TypeId) : IntsOf (w.alloc (.cells #[.int .i64 a, .int .i64 b, .int .i64 c, .int .i64 d, .int .i64 e, .int .i64 f, .int .i64 g, .int .i64 h] t)) (.slice (some ⟨w.heap.size, 0, none⟩) 8 8) [a, b, c, d, e, f, g, h] := by
  have hB := blk_new w #[.int .i64 a, .int .i64 b, .int .i64 c, .int .i64 d, .int .i64 e, .int .i64 f, .int .i64 g, .int .i64 h] t
  refine ⟨_, 8, rfl, fun _ => ⟨w.heap.size, 0, rfl, blk_lt hB, fun i hi => ?_⟩⟩
  match i, hi with
  | 0, _ => exact blk_cell hB 0 _ rfl
  | 1, _ => exact blk_cell hB 1 _ rfl
  | 2, _ => exact blk_cell hB 2 _ rfl
  | 3, _ => exact blk_cell hB 3 _ rfl
  | 4, _ => exact blk_cell hB 4 _ rfl
  | 5, _ => exact blk_cell hB 5 _ rfl
  | 6, _ => exact blk_cell hB 6 _ rfl
  | 7, _ => exact blk_cell hB 7 _ rfl
  | i + 8, hi => simp at hi; omega
set_option maxRecDepth 100000 in
set_option maxHeartbeats 2000000 in
theorem awake05_any (w : World) : Calls Tryz.prog 14 #[] w (RetBool true w) := by
  have HP : Hid (∀ W v, IsRng W v 0 0 → Calls Tryz.prog 100 #[v] W (RetBool true W)) := fun W v h => part_ok 0 0 v W h (by decide +kernel) (by decide +kernel) ⟨by decide +kernel, by decide +kernel⟩
  have HP2 : Hid (∀ W v, IsRng W v (1 / 2) (1 / 2) → Calls Tryz.prog 100 #[v] W (RetBool true W)) := fun W v h => part_ok _ _ v W h (by decide +kernel) (by decide +kernel) ⟨by decide +kernel, by decide +kernel⟩
  have HS : Hid (∀ W v u, IsRng W v 0 0 → IsRng W u (1 / 2) (1 / 2) → Calls Tryz.prog 125 #[v, u, .int .i64 (4 : Nat)] W (RetRng (1 / 2) (1 / 2) W)) := fun W v u h1 h2 => by
    have := step_any 0 0 (1 / 2) (1 / 2) 4 (by omega) 4 (by decide) v u W h1 h2 (1 / 2) (1 / 2) (by decide +kernel) (by decide +kernel) ⟨by decide +kernel, by decide +kernel⟩ ⟨by decide +kernel, by decide +kernel⟩ ⟨by decide +kernel, by decide +kernel⟩ ⟨by decide +kernel, by decide +kernel⟩ ⟨by decide +kernel, by decide +kernel⟩ ⟨by decide +kernel, by decide +kernel⟩ ⟨by decide +kernel, by decide +kernel⟩ ⟨by decide +kernel, by decide +kernel⟩ ⟨by decide +kernel, by decide +kernel⟩ ⟨by decide +kernel, by decide +kernel⟩ ⟨by decide +kernel, by decide +kernel⟩ (by decide +kernel)
    rw [down_half, up_half] at this
    exact this
  have HST : Hid (∀ W v u, IsRng W v 0 0 → IsRng W u (1 / 2) (1 / 2) → Calls Tryz.prog 62 #[v, u, .int .i64 4] W (RetRngE (1 / 2) (1 / 2) 0 W)) := fun W v u h1 h2 => Step_ok 0 0 (1 / 2) (1 / 2) 4 v u W h1 h2 _ _ HP HP2 HS
  have HPL : Hid (∀ W v, IntsOf W v [1, 0, 2, 0, 3, 0, 0, 0] → Calls Tryz.prog 63 #[ruV ruA5, v] W (RetPl (⟨5, 0, 0, 0, false, false, false, false⟩, 8, 0) W)) := fun W v h => by
    rw [← play_A]
    exact Play_any ruA5 _ v W h
  go_enter Tryz.func14, Tryz.ntmps14
  go_wp2_with fail
  refine (new_any 1 2 _ (by omega) (by omega) (by omega) (by omega) (by omega)).mono ?_
  rintro e w1 h1
  have h1' : ∃ v, e = .returned (.tuple #[v, .int .i64 0]) ∧ IsRat w1 v (1 / 2) ∧ Below w.heap.size w w1 := h1
  obtain ⟨v, rfl, hv, hb1⟩ := h1'
  obtain ⟨x, rfl⟩ := hv.open3
  have HV := Lib.hid (hv.below (below1 w1 (.cells x.arr 34)))
  have B1 := Lib.hid (ba (o := .cells x.arr 34) hb1)
  clear h1 hv hb1
  go_wp2_with fail
  refine (only_any (1 / 2) _ _ HV.out).mono ?_
  rintro e w2 ⟨v, rfl, hv, hb2⟩
  have B2 := Lib.hid (bt B1.out hb2)
  clear hb2
  go_wp2_with fail
  refine (HST.out _ _ _ ⟨r30, r30, rfl, IsRat.zero _, IsRat.zero _⟩ hv).mono ?_
  rintro e w3 ⟨v3, rfl, ⟨za, zb, rfl, hz1, hz2⟩, hb3⟩
  have B3 := Lib.hid (ba (o := .cells (arr6 za zb) 36) (bt B2.out hb3))
  have HZ : Hid (IsRng (w3.alloc (.cells (arr6 za zb) 36)) (rngV za zb) (1 / 2) (1 / 2)) := ⟨za, zb, rfl, hz1.below (below1 _ _), hz2.below (below1 _ _)⟩
  have E3 := Lib.hid (blk_new w3 (arr6 za zb) 36)
  clear hv hb3 hz1 hz2
  go_wp2_with fail
  have HI := ints_new8 ((w3.alloc (.cells (arr6 za zb) 36)).alloc (.cells (ruA ruA5) 173)) 1 0 2 0 3 0 0 0 3
  rw [World.size_alloc, World.size_alloc] at HI
  refine (HPL.out _ _ HI).mono ?_
  rintro e w4 ⟨rfl, hb4⟩
  have h5 : Below (w3.alloc (.cells (arr6 za zb) 36)).heap.size (w3.alloc (.cells (arr6 za zb) 36)) (w4.alloc (.cells (rnA ⟨5, 0, 0, 0, false, false, false, false⟩) 176)) := ba (bt (below2 _ _ _) hb4)
  have E5 := blk_keep E3.out h5 (blk_lt E3.out)
  have HZ5 := Lib.hid (HZ.out.below h5)
  have B5 := Lib.hid (bt B3.out h5)
  obtain ⟨x0, x1, x2, x3, x4, x5, _, _, _, _, _, _⟩ := fac6 (x := za) (y := zb) E5
  clear HI h5 E5 hb4
  go_wp2_with fail
  refine (rtext_half _ _ HZ5.out).mono ?_
  rintro e w6 ⟨rfl, hb6⟩
  have E6 := blk_keep (blk_new w4 (rnA ⟨5, 0, 0, 0, false, false, false, false⟩) 176) hb6 (by rw [World.size_alloc]; omega)
  have B6 := Lib.hid (bt B5.out hb6)
  obtain ⟨g0, _, _, _, _, _, _, _⟩ := rn8 E6
  clear x0 x1 x2 x3 x4 x5 hb6 E6
  go_wp2_with fail
  go_ret
  exact ⟨rfl, B6.out⟩
end Go.Proofs.YthdgeindjphklaaGreat
