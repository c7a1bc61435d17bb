/- Part j of the lemmas and walks. -/
import Derived.Test.YtofijjomfhmbjaaGreatAi

namespace Go.Proofs.YtofijjomfhmbjaaGreat
open Go.RowKit

theorem LRow.capOk {w : World} {base : Nat} {e : TypeId} {size : Nat} {v : Value} {n : Nat} {xs : List Value} (h : LRow w base e size v n xs) : ∃ ao cap, v = .slice ao n cap ∧ n ≤ cap ∧ cap ≤ maxLen := by
 rcases h.1.2 with ⟨rfl, rfl⟩ | ⟨g, cap, cur, rfl, _, _, h1, h2, _⟩
 ·
  exact ⟨none, 0, rfl, Nat.le_refl _, by unfold maxLen; omega⟩
 ·
  exact ⟨_, _, rfl, h1, h2⟩
theorem LRow.lit {w : World} {base : Nat} {e : TypeId} {size : Nat} (hb : base ≤ w.heap.size) (cs : Array Value) (n : Nat) (hm : n ≤ maxLen) (hs : cs.size = n * size) (hd : ∀ u ∈ cs.toList, noDig u) :
  LRow (w.alloc (.cells cs e)) base e size (.slice (some ⟨w.heap.size, 0, none⟩) n n) n cs.toList := by
 refine ⟨⟨by simpa using hs, .inr ⟨w.heap.size, n, cs, rfl, hb, heap_alloc_new w _, Nat.le_refl _, hm, hs, List.take_of_length_le (by rw [Array.length_toList, hs]; exact Nat.le_refl _)⟩⟩, fun g hg => ?_⟩
 obtain rfl : w.heap.size = g := by simpa [Value.ownBlock] using hg
 exact NoDig.of_block (heap_alloc_new w _) hd

end Go.Proofs.YtofijjomfhmbjaaGreat

namespace Go.Proofs.YtofijjomfhmbjaaGreat
open Go.RowKit

theorem LRow.ordO {w : World} {base n : Nat} {v : Value} (h : LRow w base 3 1 v n (idxCells (List.range n))) :
  ∃ ao cap g, v = .slice ao n cap ∧ base ≤ g ∧ (0 < n → ao = some ⟨g, 0, none⟩ ∧ Own w g .i64 3 (ordL (fun j => j) n)) := by
 rcases Nat.eq_zero_or_pos n with h0 | hp
 ·
  rcases h.1.2 with ⟨rfl, _⟩ | ⟨g, cap, cur, rfl, hb, _⟩
  ·
   exact ⟨none, 0, base, by rw [h0], Nat.le_refl _, fun h => by omega⟩
  ·
   exact ⟨_, cap, g, rfl, hb, fun h => by omega⟩
 ·
  obtain ⟨g, cap, rfl⟩ := ownsRow_some h.1 hp
  rw [ordL_id]
  obtain ⟨ho, h1, h2, h3⟩ := Own.of_ownsRow (k := .i64) (ds := List.range n) (by simp) h.1
  exact ⟨_, cap, g, rfl, h3, fun _ => ⟨rfl, ho⟩⟩
theorem idx_range (n : Nat) : idxCells (List.range (n + 1)) = idxCells (List.range n) ++ [.int .i64 (n : Int)] := by simp [idxCells, List.range_succ]
theorem info_shelf : (Tryz.prog.info? 80).map (fun i => (i.zero, i.size, i.bytes)) = some (some (.agg #[.int .i64 0, .int .i64 0]), 2, 16) := by kernel_rfl
theorem info_pt : (Tryz.prog.info? 45).map (fun i => (i.zero, i.size, i.bytes)) = some (some (.agg #[.int .i64 0, .int .i64 0]), 2, 16) := by kernel_rfl
theorem LRow.oth {w : World} {base : Nat} {e : TypeId} {size : Nat} {v : Value} {n : Nat} {xs : List Value} (h : LRow w base e size v n xs) {a : Addr} (ha : a.block < base) (u : Value) : LRow (w.setCell a u) base e size v n xs :=
 h.keep fun g hg => heap_setCell_other _ _ _ _ (fun e => by have := (h.lt hg).2; omega)
theorem LRow.oth2 {w : World} {base : Nat} {e : TypeId} {size : Nat} {g n cap : Nat} {xs : List Value} (h : LRow w base e size (.slice (some ⟨g, 0, none⟩) n cap) n xs) {a : Addr} (ha : a.block ≠ g) (u : Value) : LRow (w.setCell a u) base e size (.slice (some ⟨g, 0, none⟩) n cap) n xs :=
 h.keep fun g' hg => heap_setCell_other _ _ _ _ (fun e => by simp [Value.ownBlock] at hg; exact ha (by rw [← e, hg]))
end Go.Proofs.YtofijjomfhmbjaaGreat

namespace Go.Proofs.YtofijjomfhmbjaaGreat
open Go.RowKit

def NS (l : List (Int × Int)) (m : Int) (f : Nat → Nat) (j : Nat) (sh out : List (Int × Int)) (e : Int) : Prop :=
 nestTo l m f j = ⟨sh, out, e⟩ ∧ NestOk l m j ⟨sh, out, e⟩
theorem ns_zero (l : List (Int × Int)) (m : Int) (f : Nat → Nat) : NS l m f 0 [] (List.replicate l.length (0, 0)) 0 := ⟨rfl, nestOk_zero l m f⟩
theorem ns_hw {l : List (Int × Int)} {m : Int} {f : Nat → Nat} {j : Nat} {sh out : List (Int × Int)} {e : Int} (H : NS l m f j sh out e) (k : Nat) (hk : k < sh.length) : 0 ≤ (sh.getD k (0, 0)).1 ∧ (sh.getD k (0, 0)).1 ≤ e ∧ 1 ≤ (sh.getD k (0, 0)).2 ∧ (sh.getD k (0, 0)).2 ≤ m := H.2.sh k hk
theorem ns_fit {l : List (Int × Int)} {m : Int} {f : Nat → Nat} {j : Nat} {sh out : List (Int × Int)} {e : Int} (H : NS l m f j sh out e) (hx : 1 ≤ (l.getD (f j) (0, 0)).1 ∧ (l.getD (f j) (0, 0)).1 ≤ 1000000) (hy : 1 ≤ (l.getD (f j) (0, 0)).2 ∧ (l.getD (f j) (0, 0)).2 ≤ m) {k : Nat} (hk : k < sh.length) (h : ∀ q, q < k → m < (sh.getD q (0, 0)).2 + (l.getD (f j) (0, 0)).2) (hf : (sh.getD k (0, 0)).2 + (l.getD (f j) (0, 0)).2 ≤ m) :
  NS l m f (j + 1) (sh.set k ((sh.getD k (0, 0)).1, (sh.getD k (0, 0)).2 + (l.getD (f j) (0, 0)).2)) (out.set (f j) (sh.getD k (0, 0))) e := by
 have e1 := nestStep_fit (l := l) (m := m) (i := f j) (s := ⟨sh, out, e⟩) hk h hf
 refine ⟨?_, by rw [← e1]; exact nestOk_step H.2 hx hy⟩
 rw [nestTo, H.1]
 exact e1
theorem ns_new {l : List (Int × Int)} {m : Int} {f : Nat → Nat} {j : Nat} {sh out : List (Int × Int)} {e : Int} (H : NS l m f j sh out e) (hx : 1 ≤ (l.getD (f j) (0, 0)).1 ∧ (l.getD (f j) (0, 0)).1 ≤ 1000000) (hy : 1 ≤ (l.getD (f j) (0, 0)).2 ∧ (l.getD (f j) (0, 0)).2 ≤ m) (h : ∀ q, q < sh.length → m < (sh.getD q (0, 0)).2 + (l.getD (f j) (0, 0)).2) :
  NS l m f (j + 1) (sh ++ [(e, (l.getD (f j) (0, 0)).2)]) (out.set (f j) (e, 0)) (e + (l.getD (f j) (0, 0)).1) := by
 have e1 := nestStep_new (l := l) (m := m) (i := f j) (s := ⟨sh, out, e⟩) h
 refine ⟨?_, by rw [← e1]; exact nestOk_step H.2 hx hy⟩
 rw [nestTo, H.1]
 exact e1
theorem nestTo_same (l : List (Int × Int)) (m : Int) {f g : Nat → Nat} : ∀ j, (∀ i, i < j → f i = g i) → nestTo l m f j = nestTo l m g j
 | 0, _ => rfl
 | j + 1, h => by rw [nestTo, nestTo, nestTo_same l m j (fun i hi => h i (by omega)), h j (by omega)]
def NestRes (l : List (Int × Int)) (m : Int) (out : List (Int × Int)) (n : Int) : Prop :=
 if pcsErr l m = 0 then ∃ f, PermI f l.length ∧ SortR (fun i => (gP l i).1) f 0 l.length ∧ out = (nestTo l m f l.length).out ∧ n = (nestTo l m f l.length).e else out = [] ∧ n = 0
theorem nestRes_one {l : List (Int × Int)} {m : Int} {o1 o2 : List (Int × Int)} {n1 n2 : Int} (h1 : NestRes l m o1 n1) (h2 : NestRes l m o2 n2) : o1 = o2 ∧ n1 = n2 := by
 unfold NestRes at h1 h2
 by_cases c : pcsErr l m = 0
 ·
  rw [if_pos c] at h1 h2
  obtain ⟨f, pf, sf, rfl, rfl⟩ := h1
  obtain ⟨g, pg, sg, rfl, rfl⟩ := h2
  rw [nestTo_same l m l.length (order_one pf pg sf sg)]
  exact ⟨rfl, rfl⟩
 ·
  rw [if_neg c] at h1 h2
  obtain ⟨rfl, rfl⟩ := h1
  obtain ⟨rfl, rfl⟩ := h2
  exact ⟨rfl, rfl⟩
def RetNestN (l : List (Int × Int)) (m : Int) (w : World) (e : Ending) (w' : World) : Prop :=
 ∃ (ov : Value) (out : List (Int × Int)) (n : Int), e = .returned (.tuple #[ov, .int .i64 n, .int .i64 (pcsErr l m)]) ∧ Hid (NestRes l m out n) ∧ PairsOf w' ov out ∧ CapOk ov ∧ Below w.heap.size w w'

set_option maxRecDepth 100000 in
set_option maxHeartbeats 4000000 in
theorem nestCmpE_any {l : List (Int × Int)} {m : Int} (i k bx tb : Nat) (v : Value) (w : World) (hg : OkPcs l m) (hi : i < l.length) (hk : k < l.length) (hv : PairsOf w v l) (hB : w.heap[bx]? = some (.cells #[v] tb (0, 0))) :
  Calls Tryz.prog 27 #[.int .i64 i, .int .i64 k, .pointer (some ⟨bx, 0, none⟩)] w (RetIntQ ((l.getD k (0, 0)).1 - (l.getD i (0, 0)).1) w) := by
 obtain ⟨ao, cap, rfl, hE⟩ := hv
 obtain ⟨b, off, rfl, hbl, hEE⟩ := hE (by omega)
 obtain ⟨i0, _⟩ := hEE i hi
 obtain ⟨k0, _⟩ := hEE k hk
 have a := hg.at hi
 have c := hg.at hk
 have hc := blk_cell hB 0 _ rfl
 have hi' : (i : Int) < l.length := by omega
 have hk' : (k : Int) < l.length := by omega
 have hi0 : (0 : Int) ≤ i := by omega
 have hk0 : (0 : Int) ≤ k := by omega
 have hlen := hg.len
 have hm2 := hg.m2
 clear hE hEE hg
 generalize (l.getD k (0, 0)).1 = x at *
 generalize (l.getD i (0, 0)).1 = y at *
 have hw : IntKind.i64.wrap (x - y) = x - y := IntWalk.i64_in _ (by omega)
 go_enter Tryz.func27, Tryz.ntmps27
 go_wp2_with fail
 go_region
 go_wp2_with fail
 go_ret
 exact ⟨rfl, 1, rfl⟩

set_option maxRecDepth 100000 in
set_option maxHeartbeats 16000000 in
theorem nestG_any {l : List (Int × Int)} {m : Int} (v : Value) (w : World) (hz : pcsErr l m = 0) (hv : PairsOf w v l) : Calls Tryz.prog 9 #[v, .int .i64 m] w (RetNestN l m w) := by
 have HZ := Lib.hid hz
 have hg := okPcs_of hz
 have HG := Lib.hid hg
 have HV := Lib.hid hv
 have hlen := hg.len
 have hm1 := hg.m1
 have hm2 := hg.m2
 obtain ⟨av, cv, rfl, hE⟩ := hv
 have HE := Lib.hid hE
 clear hE
 obtain ⟨iI, hiI, hzI0, hzI1, hzI2⟩ := info_parts info_int
 obtain ⟨iS, hiS, hzS0, hzS1, hzS2⟩ := info_parts info_shelf
 obtain ⟨iP, hiP, hzP0, hzP1, hzP2⟩ := info_parts info_pt
 have hzd : ∀ u ∈ (Value.int .i64 0).cells.toList, noDig u := by
  intro u hu
  simp [Value.cells] at hu
  rw [hu]
  exact noDig_i64 0
 have hzd2 := zd2
 have hB0 := blk_new w #[.slice av l.length cv] 23
 have hal0 := (Below.refl w.heap.size w).alloc (Nat.le_refl _) (.cells #[.slice av l.length cv] 23)
 have hc0 := blk_cell hB0 0 _ rfl
 clear hg hz
 go_enter Tryz.func9, Tryz.ntmps9
 go_wp2_with fail
 go_step3
 go_wp2_with fail
 refine (checkPieces_any _ _ (HV.out.below hal0)).mono ?_
 rw [HZ.out]
 rintro e w1 ⟨rfl, hb1⟩
 have hBx := blk_keep hB0 hb1 (blk_lt hB0)
 have hx1 := ext_trans hal0 hb1
 have HBlt := Lib.hid (blk_lt hBx)
 have HV1 := Lib.hid (HV.out.below hx1)
 have HBX := Lib.hid hBx
 have hcx := blk_cell hBx 0 _ rfl
 have hsz1 : w.heap.size ≤ w1.heap.size := hx1.size
 clear hB0 hal0 hb1 hc0
 go_wp2_with fail
 go_loopw [8, 26] (fun ov iv wr => ∃ (i : Nat), i ≤ l.length ∧ iv = .int .i64 i ∧ LRow wr w1.heap.size 3 1 ov i (idxCells (List.range i)) ∧ Below w1.heap.size w1 wr)
  (fun _ iv _ => l.length - (intOf iv).toNat)
 case atStart => exact ⟨0, Nat.zero_le _, rfl, LRow.nil _ _ _ _, Below.refl _ _⟩
 case round =>
  obtain ⟨i, hi, rfl, hL, hbel⟩ := hrel
  by_cases hlt : i < l.length
  ·
   have hlt' : (i : Int) < l.length := by omega
   have hge' : (0 : Int) ≤ i := by omega
   have hx2 := (Below.refl wr.heap.size wr).alloc (Nat.le_refl _) (.cells #[.int .i64 (i : Int)] 3)
   have HCN := Lib.hid (cell_one_new wr (.int .i64 (i : Int)) 3)
   have HL2 := Lib.hid (hL.below hx2)
   clear hL
   go_wp2_with (at_builtin; refine wpList_append_lrow _ rfl (.tmp 29) (.tmp 31) 72 rfl w1.heap.size 3 iI (.int .i64 0) 1 8 Tryz.underlying72 hiI hzI0 hzI1 hzI2 rfl (by decide) hzd _ _ _ rfl HL2.out ⟨wr.heap.size, 0, none⟩ 1 1 [.int .i64 (i : Int)] rfl rfl HCN.out (by simp [Value.oneCell']) (by intro u hu; simp at hu; rw [hu]; exact noDig_i64 _) (by omega) (by unfold maxLen; omega) (by omega) (by simp; have := hbel.size; omega) ?_)
   intro g cap' w3 hL3 hgr hat
   have hx3 : Below w1.heap.size w1 w3 := (hbel.trans (hx2.mono hbel.size)).grown hgr (by simp; have := hbel.size; omega) (ownBlock_base HL2.out.1)
   go_wp2_with fail
   exact ⟨⟨i + 1, by omega, by go_num, by rw [idx_range]; exact hL3, hx3⟩, meas_up hlt⟩
  ·
   obtain rfl : i = l.length := by omega
   obtain ⟨ao, cap, g, rfl, hgb, hO⟩ := hL.ordO
   clear hL
   go_wp2_with fail
   refine (sortStab_any l.length (fun i => (gP l i).1) g w.heap.size cap ao _ hlen hO (fun i hi => by have := HG.out.at hi; unfold gP; omega) (fun i k hi hk W hW => ?_)).mono ?_
   ·
    exact nestCmpE_any i k w.heap.size _ _ W HG.out hi hk (HV1.out.below (hbel.trans (hW.mono hgb))) (blk_keep HBX.out (hbel.trans (hW.mono hgb)) HBlt.out)
   rintro e w2 ⟨rfl, f, hP, hS, hO2, hb2⟩
   have HP := Lib.hid hP
   have HS := Lib.hid hS
   have hx2 := hbel.trans (hb2.mono hgb)
   have hcx2 := blk_cell (blk_keep HBX.out hx2 HBlt.out) 0 _ rfl
   clear hP hS hO hb2 hbel hcx hBx
   go_wp2_with (at_make; refine wpList_make_full _ rfl _ _ 22 rfl w2.heap.size 45 iP _ 2 Tryz.underlying22 hiP hzP0 hzP1 _ _ _ _ l.length rfl rfl (by omega) (by omega) (by rw [hzP2]; omega) (by unfold maxLen; omega) (by omega) ?_)
   intro w3 hown hgr
   have hR := LRow.madeP hown
   have hb3 : Below w2.heap.size w2 w3 := (Below.refl _ _).grown hgr (Nat.le_refl _) (by simp)
   have hG3 : w2.heap.size < w3.heap.size := (hR.lt rfl).1
   have Hxw2 := Lib.hid (hx1.trans (hx2.mono hsz1))
   have hgG : 0 < l.length → g < w2.heap.size := fun h => (hO2 h).2.lt
   have HG2 : Hid (w1.heap.size ≤ w2.heap.size) := hx2.size
   clear hown hgr hcx2
   have hwG : w.heap.size ≤ w2.heap.size := Hxw2.out.size
   generalize hGG : w2.heap.size = G2 at *
   go_wp2_with fail
   go_step3
   go_wp2_with fail
   go_loopw [11, 12, 42] (fun sv ev iv wr => ∃ (j : Nat) (sh out : List (Int × Int)) (e : Int), j ≤ l.length ∧ iv = .int .i64 j ∧ ev = .int .i64 e ∧ (0 ≤ e ∧ e ≤ 1000000 * j) ∧ LRow wr w3.heap.size 80 2 sv sh.length (pairCells sh) ∧ LRow wr G2 45 2 (.slice (some ⟨G2, 0, none⟩) l.length l.length) l.length (pairCells out) ∧ Hid (NS l m f j sh out e) ∧ w3.heap.size ≤ wr.heap.size ∧ Below G2 w2 wr)
    (fun _ _ iv _ => l.length - (intOf iv).toNat)
   case atStart => exact ⟨0, [], List.replicate l.length (0, 0), 0, Nat.zero_le _, rfl, rfl, ⟨by omega, by omega⟩, LRow.nil _ _ _ _, hR, ns_zero l m f, Nat.le_refl _, hb3⟩
   case round =>
    clear hR hb3
    obtain ⟨j, sh, out, e, hj, rfl, rfl, he, hLs, hLo, HN, h3P, hbel⟩ := hrel
    by_cases hlt : j < l.length
    ·
     replace hO2 := hO2 (by omega)
     obtain ⟨rfl, hOw⟩ := hO2
     obtain ⟨b, off, rfl, hbl, hEE⟩ := HE.out (by omega)
     have hiN := HP.out.lt j hlt
     have hgG := hgG (by omega)
     have hxw := Hxw2.out.trans (hbel.mono (by omega))
     have c0 := (hOw.below hbel hgG).cell j (by rw [ordL_length]; exact hlt)
     rw [ordL_get f hlt] at c0
     obtain ⟨q0, q1⟩ := (hEE (f j) hiN).below hxw hbl
     have hbx : wr.cell? ⟨w.heap.size, 0, none⟩ = some (.slice (some ⟨b, off, none⟩) l.length cv) := blk_cell (blk_keep (blk_keep HBX.out hx2 HBlt.out) hbel (Nat.lt_of_lt_of_le HBlt.out HG2.out)) 0 _ rfl
     have hp := HG.out.at hiN
     have HFIT : Hid (∀ k, k < sh.length → (∀ q, q < k → m < (sh.getD q (0, 0)).2 + (l.getD (f j) (0, 0)).2) → (sh.getD k (0, 0)).2 + (l.getD (f j) (0, 0)).2 ≤ m → NS l m f (j + 1) (sh.set k ((sh.getD k (0, 0)).1, (sh.getD k (0, 0)).2 + (l.getD (f j) (0, 0)).2)) (out.set (f j) (sh.getD k (0, 0))) e) := fun k hk h h2 => ns_fit HN.out hp.1 hp.2 hk h h2
     have HNEW : Hid ((∀ k, k < sh.length → m < (sh.getD k (0, 0)).2 + (l.getD (f j) (0, 0)).2) → NS l m f (j + 1) (sh ++ [(e, (l.getD (f j) (0, 0)).2)]) (out.set (f j) (e, 0)) (e + (l.getD (f j) (0, 0)).1)) := fun h => ns_new HN.out hp.1 hp.2 h
     have Hhw := Lib.hid (ns_hw HN.out)
     have Hol : Hid (out.length = l.length) := HN.out.2.outlen
     have hfew : sh.length ≤ 24 := by have := HN.out.2.few; (have : sh.length ≤ j := this); omega
     obtain ⟨ao3, cap3, rfl, _, _⟩ := hLs.capOk
     have hlt' : (j : Int) < l.length := by omega
     have hge' : (0 : Int) ≤ j := by omega
     clear hEE HN hOw
     generalize (l.getD (f j) (0, 0)).1 = x at *
     generalize (l.getD (f j) (0, 0)).2 = y at *
     generalize f j = i at *
     have hiN' : (i : Int) < l.length := by omega
     have hi0 : (0 : Int) ≤ i := by omega
     have hbl2 : b < wr.heap.size := Nat.lt_of_lt_of_le hbl hxw.size
     have hwx : w.heap.size < wr.heap.size := World.block_lt_of_cell? (h := hbx)
     have hgw : g < wr.heap.size := World.block_lt_of_cell? (h := c0)
     have hNb := blk_new wr #[.int .i64 x, .int .i64 y] 26
     have hal := (Below.refl wr.heap.size wr).alloc (Nat.le_refl _) (.cells #[.int .i64 x, .int .i64 y] 26)
     have hbel1 := hbel.alloc (by have := hLo.lt (g := G2) rfl; omega) (.cells #[.int .i64 x, .int .i64 y] 26)
     have hLs1 := hLs.below hal
     have hLo1 := hLo.below hal
     have HLP : Hid (∀ q, (Value.slice ao3 sh.length cap3).ownBlock = some q → q < wr.heap.size) := fun q hq => (hLs.lt hq).1
     have hPG : wr.heap.size ≠ G2 := fun h => by have := (hLo.lt (g := G2) rfl).1; omega
     go_wp2_with fail
     generalize hWP : wr.heap.size = P9 at *
     generalize wr.alloc (.cells #[.int .i64 x, .int .i64 y] 26) = W1 at *
     go_loopw [52] (fun kv wq => ∃ k : Nat, k ≤ sh.length ∧ kv = .int .i64 k ∧ Hid (∀ q, q < k → m < (sh.getD q (0, 0)).2 + y) ∧ Below W1.heap.size W1 wq)
      (fun kv _ => sh.length - (intOf kv).toNat)
     case atStart => exact ⟨0, Nat.zero_le _, rfl, fun q hq => by omega, Below.refl _ _⟩
     case round =>
      obtain ⟨k, hk, rfl, hno, hxq⟩ := hrel
      by_cases hkl : k < sh.length
      ·
       obtain ⟨g3, cap4, hv3⟩ := ownsRow_some hLs.1 (show 0 < sh.length by omega)
       simp only [Value.slice.injEq] at hv3
       obtain ⟨rfl, _, rfl⟩ := hv3
       have hLs2 := hLs1.below hxq
       have hLo2 := hLo1.below hxq
       obtain ⟨r0, r1⟩ := hLs2.cellP rfl hkl
       rw [Nat.zero_add] at r0 r1
       have hhw := Hhw.out k hkl
       have hNq := blk_keep hNb hxq (blk_lt hNb)
       have n1 := blk_cell hNq 1 (.int .i64 y) rfl
       have hg3 := (hLs2.lt rfl).1
       have hkl' : (k : Int) < sh.length := by omega
       have hkg' : (0 : Int) ≤ k := by omega
       have HF := Lib.hid (HFIT.out k hkl hno.out)
       generalize hsk : sh.getD k (0, 0) = sk at *
       obtain ⟨s0, s1⟩ := sk
       dsimp only at r0 r1 hhw HF
       have hws : IntKind.i64.wrap (s1 + y) = s1 + y := IntWalk.i64_in _ (by omega)
       have hal2 := (Below.refl wr.heap.size wr).alloc (Nat.le_refl _) (.cells #[.int .i64 s0, .int .i64 s1] 80)
       have hxe := hxq.alloc hxq.size (.cells #[.int .i64 s0, .int .i64 s1] 80)
       have hM := blk_new wr #[.int .i64 s0, .int .i64 s1] 80
       have m0 := blk_cell hM 0 (.int .i64 s0) rfl
       have m1 := blk_cell hM 1 (.int .i64 s1) rfl
       have a1 := (hal2.cell (p := ⟨P9, 1, none⟩) (blk_lt hNq)).trans n1
       by_cases c : s1 + y ≤ m
       ·
        have t : decide (s1 + y ≤ m) = true := decide_eq_true c
        have HI := Lib.hid (HF.out c)
        have hLo3 := hLo2.below hal2
        have hLs3 := hLs2.below hal2
        have fo0 := hLo3.frozenP (i * 2)
        have fo1 := hLo3.frozenP (i * 2 + 1)
        obtain ⟨p0, p1⟩ := hLo3.cellP Hol.out hiN
        rw [Nat.zero_add] at p0 p1
        have hL5 := (hLo3.setN (i * 2) (v := .int .i64 s0) (noDig_i64 s0)).setN (i * 2 + 1) (v := .int .i64 s1) (noDig_i64 s1)
        rw [pairCells_set12 out s0 s1 i (by rw [Hol.out]; exact hiN)] at hL5
        have hS5 := (hLs3.oth (a := ⟨G2, i * 2, none⟩) hG3 (.int .i64 s0)).oth (a := ⟨G2, i * 2 + 1, none⟩) hG3 (.int .i64 s1)
        have hN5 : (((wr.alloc (.cells #[.int .i64 s0, .int .i64 s1] 80)).setCell ⟨G2, i * 2, none⟩ (.int .i64 s0)).setCell ⟨G2, i * 2 + 1, none⟩ (.int .i64 s1)).heap[P9]? = some (.cells #[.int .i64 x, .int .i64 y] 26 (0, 0)) := by
         rw [heap_setCell_other _ _ _ _ hPG, heap_setCell_other _ _ _ _ hPG]
         exact blk_keep hNq hal2 (blk_lt hNq)
        have hB5 := ((hbel1.trans (hxe.mono (by rw [← hGG]; exact hbel1.size))).setCell (p := ⟨G2, i * 2, none⟩) (Nat.le_refl _) (.int .i64 s0)).setCell (p := ⟨G2, i * 2 + 1, none⟩) (Nat.le_refl _) (.int .i64 s1)
        go_wp2_with fail
        generalize (((wr.alloc (.cells #[.int .i64 s0, .int .i64 s1] 80)).setCell ⟨G2, i * 2, none⟩ (.int .i64 s0)).setCell ⟨G2, i * 2 + 1, none⟩ (.int .i64 s1)) = W5 at *
        obtain ⟨r0', r1'⟩ := hS5.cellP rfl hkl
        rw [hsk] at r0' r1'
        rw [Nat.zero_add] at r0' r1'
        dsimp only at r0' r1'
        have f5 := hS5.frozenP (k * 2 + 1)
        have n5 := blk_cell hN5 1 (.int .i64 y) rfl
        go_region
        go_wp2_with fail
        have hg3G : w3.heap.size ≤ g3 := (hS5.lt (g := g3) rfl).2
        have hgP : g3 < P9 := HLP.out g3 rfl
        have hS6 := hS5.setN (k * 2 + 1) (v := .int .i64 (s1 + y)) (noDig_i64 _)
        rw [pairCells_setB sh (s1 + y) k hkl, hsk] at hS6
        have hL6 := hL5.oth2 (a := ⟨g3, k * 2 + 1, none⟩) (show g3 ≠ G2 by omega) (.int .i64 (s1 + y))
        have hB6 := hB5.setCell (p := ⟨g3, k * 2 + 1, none⟩) (show G2 ≤ g3 by omega) (.int .i64 (s1 + y))
        have hP6 := blk_lt ((heap_setCell_other W5 ⟨g3, k * 2 + 1, none⟩ P9 (.int .i64 (s1 + y)) (show P9 ≠ g3 by omega)).trans hN5)
        generalize W5.setCell ⟨g3, k * 2 + 1, none⟩ (.int .i64 (s1 + y)) = W6 at *
        exact ⟨⟨j + 1, sh.set k (s0, s1 + y), out.set i (s0, s1), e, by omega, by go_num, rfl, ⟨by omega, by omega⟩, by rw [List.length_set]; exact hS6.below (Below.refl _ _).drew, hL6.below (Below.refl _ _).drew, HI, (show w3.heap.size ≤ W6.heap.size by omega), hB6.drew⟩, meas_up hlt⟩
       ·
        have t : decide (s1 + y ≤ m) = false := decide_eq_false c
        have Hno : Hid (∀ q, q < k + 1 → m < (sh.getD q (0, 0)).2 + y) := fun q hq => by
         rcases Nat.lt_or_ge q k with h | h
         ·
          exact hno.out q h
         ·
          obtain rfl : q = k := by omega
          rw [hsk]
          show m < s1 + y
          omega
        go_wp2_with fail
        exact ⟨⟨k + 1, by omega, by go_num, Hno, hxe⟩, meas_up hkl⟩
      ·
       obtain rfl : k = sh.length := by omega
       have HI := Lib.hid (HNEW.out hno.out)
       have hLs2 := hLs1.below hxq
       have hLo2 := hLo1.below hxq
       have hNq := blk_keep hNb hxq (blk_lt hNb)
       have fo0 := hLo2.frozenP (i * 2)
       have fo1 := hLo2.frozenP (i * 2 + 1)
       obtain ⟨p0, p1⟩ := hLo2.cellP Hol.out hiN
       rw [Nat.zero_add] at p0 p1
       have hL5 := (hLo2.setN (i * 2) (v := .int .i64 e) (noDig_i64 e)).setN (i * 2 + 1) (v := .int .i64 0) (noDig_i64 0)
       rw [pairCells_set12 out e 0 i (by rw [Hol.out]; exact hiN)] at hL5
       have hS5 := (hLs2.oth (a := ⟨G2, i * 2, none⟩) hG3 (.int .i64 e)).oth (a := ⟨G2, i * 2 + 1, none⟩) hG3 (.int .i64 0)
       have hN5 : ((wr.setCell ⟨G2, i * 2, none⟩ (.int .i64 e)).setCell ⟨G2, i * 2 + 1, none⟩ (.int .i64 0)).heap[P9]? = some (.cells #[.int .i64 x, .int .i64 y] 26 (0, 0)) := by
        rw [heap_setCell_other _ _ _ _ hPG, heap_setCell_other _ _ _ _ hPG]
        exact hNq
       have hB5 := ((hbel1.trans (hxq.mono (by rw [← hGG]; exact hbel1.size))).setCell (p := ⟨G2, i * 2, none⟩) (Nat.le_refl _) (.int .i64 e)).setCell (p := ⟨G2, i * 2 + 1, none⟩) (Nat.le_refl _) (.int .i64 0)
       go_upto_region 26 with (fail)
       generalize ((wr.setCell ⟨G2, i * 2, none⟩ (.int .i64 e)).setCell ⟨G2, i * 2 + 1, none⟩ (.int .i64 0)) = W5 at *
       have n5 := blk_cell hN5 1 (.int .i64 y) rfl
       have hx5 := (Below.refl W5.heap.size W5).alloc (Nat.le_refl _) (.cells #[.int .i64 e, .int .i64 y] 80)
       have HL6 := Lib.hid (hS5.below hx5)
       have HCN := Lib.hid (cell_new2 W5 (.int .i64 e) (.int .i64 y) 80)
       have hPW := blk_lt hN5
       have hGW : w3.heap.size ≤ W5.heap.size := by omega
       go_wp2_with (at_builtin; refine wpList_append_lrow _ rfl (.tmp 88) (.tmp 93) 78 rfl w3.heap.size 80 iS _ 2 16 Tryz.underlying78 hiS hzS0 hzS1 hzS2 rfl (by decide) hzd2 _ _ _ rfl HL6.out ⟨W5.heap.size, 0, none⟩ 1 1 [.int .i64 e, .int .i64 y] rfl rfl HCN.out (one2 _ _) (nd2 _ _) (by omega) (by unfold maxLen; omega) (by omega) (by simp; omega) ?_)
       intro gs caps w6 hL7 hgr hat
       have hN7 : w6.heap[P9]? = some (.cells #[.int .i64 x, .int .i64 y] 26 (0, 0)) := by
        rw [hgr.block _ (by simp; omega) (fun e => by have := HLP.out _ e.symm; omega)]
        exact blk_keep hN5 hx5 (blk_lt hN5)
       have n7 := blk_cell hN7 0 (.int .i64 x) rfl
       have hwe : IntKind.i64.wrap (e + x) = e + x := IntWalk.i64_in _ (by omega)
       have hO7 := (hL5.below hx5).grown hgr (fun g' hg' e => by
        simp [Value.ownBlock] at hg'
        have := ownBlock_base HL6.out.1 g' e.symm
        omega)
       have hB7 : Below G2 w2 w6 := (hB5.trans (hx5.mono (by omega))).grown hgr (by simp; omega) (fun q hq => by have := ownBlock_base HL6.out.1 q hq; omega)
       go_wp2_with fail
       exact ⟨⟨j + 1, sh ++ [(e, y)], out.set i (e, 0), e + x, by omega, by go_num, rfl, ⟨by omega, by omega⟩, by rw [pairCells_append, List.length_append]; exact hL7, hO7, HI, (by have := blk_lt hN7; omega), hB7⟩, meas_up hlt⟩
    ·
     obtain rfl : j = l.length := by omega
     have hol : out.length = l.length := HN.out.2.outlen
     have HD : Hid (NestRes l m out e) := by
      show NestRes _ _ _ _
      unfold NestRes
      rw [if_pos HZ.out]
      exact ⟨f, HP.out, HS.out, by rw [HN.out.1], by rw [HN.out.1]⟩
     have HPO : Hid (PairsOf wr (.slice (some ⟨G2, 0, none⟩) l.length l.length) out) := by
      have h := hLo
      rw [← hol] at h ⊢
      exact PairsOf.ofRow h
     have hxw := Hxw2.out.trans (hbel.mono (by omega))
     go_wp2_with fail
     go_ret3
     exact ⟨_, out, e, by rw [HZ.out]; rfl, HD, HPO.out, ⟨_, _, _, rfl, Nat.le_refl _, by unfold maxLen; omega⟩, hxw⟩


set_option maxRecDepth 100000 in
set_option maxHeartbeats 8000000 in
theorem nestE_any {l : List (Int × Int)} {m : Int} (v : Value) (w : World) (hv : PairsOf w v l) : Calls Tryz.prog 9 #[v, .int .i64 m] w (RetNestN l m w) := by
 by_cases hz : pcsErr l m = 0
 ·
  exact nestG_any v w hz hv
 ·
  have te : (pcsErr l m != 0) = true := bne_iff_ne.2 hz
  have HR : Hid (NestRes l m [] 0) := by show NestRes _ _ _ _; unfold NestRes; rw [if_neg hz]; exact ⟨rfl, rfl⟩
  have HQ : Hid (∀ w', RetNestN l m w (.returned (.tuple #[.slice none 0 0, .int .i64 0, .int .i64 (pcsErr l m)])) w' ↔ Below w.heap.size w w') := fun w' => ⟨fun ⟨_, _, _, _, _, _, _, h⟩ => h, fun h => ⟨_, [], 0, rfl, HR, ⟨none, 0, rfl, fun h => absurd h (by simp)⟩, ⟨_, _, _, rfl, Nat.le_refl _, by unfold maxLen; omega⟩, h⟩⟩
  have HV := Lib.hid hv
  obtain ⟨av, cv, rfl, hE⟩ := hv
  have hB0 := blk_new w #[.slice av l.length cv] 23
  have hal0 := (Below.refl w.heap.size w).alloc (Nat.le_refl _) (.cells #[.slice av l.length cv] 23)
  have hc0 := blk_cell hB0 0 _ rfl
  have HP := checkPieces_any (m := m) _ _ (HV.out.below hal0)
  generalize hER : pcsErr l m = er at *
  clear hz hE HR
  go_enter Tryz.func9, Tryz.ntmps9
  go_wp2_with fail
  go_step3
  go_wp2_with fail
  refine HP.mono ?_
  rintro e w1 ⟨rfl, hb1⟩
  have hx1 := ext_trans hal0 hb1
  have hcx := blk_cell (blk_keep hB0 hb1 (blk_lt hB0)) 0 _ rfl
  go_wp2_with fail
  go_ret3
  exact (HQ.out _).2 hx1

end Go.Proofs.YtofijjomfhmbjaaGreat

namespace Go.Proofs.YtofijjomfhmbjaaGreat
open Go.RowKit

def intC (xs : List Int) : List Value := xs.map fun x => .int .i64 x
def boolC (d : Nat → Bool) (n : Nat) : List Value := (List.range n).map fun i => .bool (d i)
theorem set_last {n : Nat} : ∀ (xs : List Value) (a b : Value), xs.length = n → (xs ++ [a]).set n b = xs ++ [b] := by
 intro xs
 induction xs generalizing n with
 | nil => intro a b h; subst h; rfl
 | cons x xs ih =>
  intro a b h
  subst h
  have := ih (n := xs.length) a b rfl
  simp only [List.length_cons, List.cons_append, List.set_cons_succ, this]
theorem intC_len (xs : List Int) : (intC xs).length = xs.length := by simp [intC]
theorem boolC_len (d : Nat → Bool) (n : Nat) : (boolC d n).length = n := by simp [boolC]
theorem LRow.cellV {w : World} {base : Nat} {e : TypeId} {size g cap n : Nat} {xs : List Value} (h : LRow w base e size (.slice (some ⟨g, 0, none⟩) n cap) n xs) {k : Nat} {u : Value} (hk : xs[k]? = some u) : w.cell? ⟨g, k, none⟩ = some u := by
 have := h.1.cells (g := g) rfl k u hk
 have ea : (⟨g, 0, none⟩ : Addr).add k = ⟨g, k, none⟩ := by unfold Addr.add; split <;> simp_all
 rwa [ea] at this
theorem intC_get {xs : List Int} {k : Nat} (hk : k < xs.length) : (intC xs)[k]? = some (.int .i64 (xs.getD k 0)) := by simp [intC, List.getD, hk]
theorem boolC_get {d : Nat → Bool} {n k : Nat} (hk : k < n) : (boolC d n)[k]? = some (.bool (d k)) := by simp [boolC, hk]
theorem BoolsOf.ofRow {w : World} {base : Nat} {e : TypeId} {g cap n : Nat} {d : Nat → Bool} (h : LRow w base e 1 (.slice (some ⟨g, 0, none⟩) n cap) n (boolC d n)) : BoolsOf w (.slice (some ⟨g, 0, none⟩) n cap) n d :=
 ⟨_, _, rfl, fun _ => ⟨g, 0, rfl, (h.lt rfl).1, fun i hi => by rw [Nat.zero_add]; exact h.cellV (boolC_get hi)⟩⟩
theorem boolC_set (f : Nat → Nat) (j n : Nat) : (boolC (doneB f j) n).set (f j) (.bool true) = boolC (doneB f (j + 1)) n := by
 refine List.ext_getElem (by simp [boolC]) fun k h1 h2 => ?_
 simp only [boolC, List.getElem_set, List.getElem_map, List.getElem_range, doneB_succ]
 by_cases c : f j = k
 ·
  rw [if_pos c]; simp [c]
 ·
  rw [if_neg c]; simp [c]
theorem intC_set (xs : List Int) (k : Nat) (x : Int) : (intC xs).set k (.int .i64 x) = intC (xs.set k x) := by simp [intC, List.map_set]
theorem fst_set (sh : List (Int × Int)) (k : Nat) (z : Int) : (sh.set k ((sh.getD k (0, 0)).1, z)).map (·.1) = sh.map (·.1) := by
 refine List.ext_getElem (by simp) fun i h1 h2 => ?_
 have hi : i < sh.length := by simpa using h2
 simp only [List.getElem_map, List.getElem_set]
 split
 ·
  rename_i c; subst c; simp [List.getD, hi]
 ·
  rfl
theorem snd_set (sh : List (Int × Int)) (k : Nat) (x z : Int) : (sh.set k (x, z)).map (·.2) = (sh.map (·.2)).set k z := by rw [List.map_set]
theorem fst_get {sh : List (Int × Int)} {k : Nat} (hk : k < sh.length) : (sh.map (·.1)).getD k 0 = (sh.getD k (0, 0)).1 := by simp [List.getD, hk]
theorem snd_get {sh : List (Int × Int)} {k : Nat} (hk : k < sh.length) : (sh.map (·.2)).getD k 0 = (sh.getD k (0, 0)).2 := by simp [List.getD, hk]
theorem LRow.ofBlk {w : World} {base : Nat} {e : TypeId} {size g n : Nat} {cur : Array Value} {xs : List Value} (h : w.heap[g]? = some (.cells cur e (0, 0))) (hb : base ≤ g) (hn : n ≤ maxLen) (hc : cur.toList = xs) (hl : xs.length = n * size) (hd : ∀ u ∈ xs, noDig u) : LRow w base e size (.slice (some ⟨g, 0, none⟩) n n) n xs := by
 have hs : cur.size = n * size := by rw [← hl, ← hc]; simp
 refine ⟨⟨hl, .inr ⟨g, n, cur, rfl, hb, h, Nat.le_refl _, hn, hs, ?_⟩⟩, fun g' hg' => ?_⟩
 ·
  rw [hc, List.take_of_length_le (by omega)]
 ·
  simp [Value.ownBlock] at hg'
  subst hg'
  exact NoDig.of_block h fun u hu => hd u (by rwa [← hc])
theorem made_bools (n : Nat) : (madeCells #[Value.bool false] n).toList = boolC (fun _ => false) n := by
 refine List.ext_getElem (by simp [madeCells, boolC]) fun k h1 h2 => ?_
 simp [madeCells, boolC, Nat.mod_one]
theorem made_pts (n : Nat) : (madeCells #[Value.int .i64 0, Value.int .i64 0] (n * 2)).toList = pairCells (List.replicate n (0, 0)) := by
 have e1 : ∀ n : Nat, pairCells (List.replicate n (0, 0)) = List.replicate (n * 2) (Value.int .i64 0) := fun n => by
  induction n with
  | zero => rfl
  | succ n ih => rw [List.replicate_succ, show (n + 1) * 2 = n * 2 + 1 + 1 by omega, List.replicate_succ, List.replicate_succ, ← ih]; rfl
 rw [e1]
 refine List.ext_getElem (by simp [madeCells]) fun k h1 h2 => ?_
 have : k % 2 = 0 ∨ k % 2 = 1 := by omega
 rcases this with c | c <;> simp [madeCells, c]
theorem noDig_boolC {d : Nat → Bool} {n : Nat} : ∀ u ∈ boolC d n, noDig u := by
 intro u hu
 simp only [boolC, List.mem_map] at hu
 obtain ⟨i, _, rfl⟩ := hu
 exact noDig_bool _
theorem noDig_pairs : ∀ (ps : List (Int × Int)), ∀ u ∈ pairCells ps, noDig u
 | [], u, hu => by simp [pairCells] at hu
 | p :: ps, u, hu => by
  simp only [pairCells, List.mem_cons] at hu
  rcases hu with rfl | rfl | hu
  ·
   exact noDig_i64 _
  ·
   exact noDig_i64 _
  ·
   exact noDig_pairs ps u hu
theorem info_bool1 : (Tryz.prog.info? 4).map (fun i => (i.zero, i.size, i.bytes)) = some (some (.bool false), 1, 1) := by kernel_rfl
def MadeOB (n b0 : Nat) (ov dv : Value) (wx : World) : Prop :=
 ∃ g1 g2 : Nat, ov = .slice (some ⟨g1, 0, none⟩) n n ∧ dv = .slice (some ⟨g2, 0, none⟩) n n ∧ g1 ≠ g2 ∧ LRow wx b0 45 2 (.slice (some ⟨g1, 0, none⟩) n n) n (pairCells (List.replicate n (0, 0))) ∧ LRow wx b0 4 1 (.slice (some ⟨g2, 0, none⟩) n n) n (boolC (fun _ => false) n)
theorem madeOB_1 (W : World) (n b0 : Nat) (hn : n ≤ maxLen) (hb : b0 ≤ W.heap.size) : MadeOB n b0 (.slice (some ⟨W.heap.size, 0, none⟩) n n) (.slice (some ⟨W.heap.size + 1, 0, none⟩) n n) ((W.alloc (.cells (madeCells #[Value.int .i64 0, Value.int .i64 0] (n * 2)) 45)).alloc (.cells (madeCells #[Value.bool false] n) 4)) := by
 have h1 := blk_new W (madeCells #[Value.int .i64 0, Value.int .i64 0] (n * 2)) 45
 have h1' := blk_keep h1 ((Below.refl _ _).alloc (Nat.le_refl _) (.cells (madeCells #[Value.bool false] n) 4)) (blk_lt h1)
 have h2 := blk_new (W.alloc (.cells (madeCells #[Value.int .i64 0, Value.int .i64 0] (n * 2)) 45)) (madeCells #[Value.bool false] n) 4
 rw [World.size_alloc] at h2
 exact ⟨_, _, rfl, rfl, by omega, LRow.ofBlk h1' hb hn (made_pts n) (by rw [pairCells_len2]; simp) (noDig_pairs _), LRow.ofBlk h2 (by omega) hn (made_bools n) (by rw [boolC_len]; omega) noDig_boolC⟩
theorem madeOB_2 (W : World) (n b0 : Nat) (hn : n ≤ maxLen) (hb : b0 ≤ W.heap.size) : MadeOB n b0 (.slice (some ⟨W.heap.size + 1, 0, none⟩) n n) (.slice (some ⟨W.heap.size, 0, none⟩) n n) ((W.alloc (.cells (madeCells #[Value.bool false] n) 4)).alloc (.cells (madeCells #[Value.int .i64 0, Value.int .i64 0] (n * 2)) 45)) := by
 have h1 := blk_new W (madeCells #[Value.bool false] n) 4
 have h1' := blk_keep h1 ((Below.refl _ _).alloc (Nat.le_refl _) (.cells (madeCells #[Value.int .i64 0, Value.int .i64 0] (n * 2)) 45)) (blk_lt h1)
 have h2 := blk_new (W.alloc (.cells (madeCells #[Value.bool false] n) 4)) (madeCells #[Value.int .i64 0, Value.int .i64 0] (n * 2)) 45
 rw [World.size_alloc] at h2
 exact ⟨_, _, rfl, rfl, by omega, LRow.ofBlk h2 (by omega) hn (made_pts n) (by rw [pairCells_len2]; simp) (noDig_pairs _), LRow.ofBlk h1' hb hn (made_bools n) (by rw [boolC_len]; omega) noDig_boolC⟩

theorem MadeOB.drew {n b0 : Nat} {ov dv : Value} {w : World} (h : MadeOB n b0 ov dv w) : MadeOB n b0 ov dv w.drew := by
 obtain ⟨g1, g2, h1, h2, h3, h4, h5⟩ := h
 exact ⟨g1, g2, h1, h2, h3, h4.below (Below.refl _ _).drew, h5.below (Below.refl _ _).drew⟩
set_option maxRecDepth 100000 in
set_option maxHeartbeats 16000000 in
theorem qnestG_any {l : List (Int × Int)} {m : Int} {f : Nat → Nat} (v : Value) (w : World) (hz : pcsErr l m = 0) (hP : PermI f l.length) (hS : SortR (fun i => (gP l i).1) f 0 l.length) (hv : PairsOf w v l) : Calls Tryz.prog 10 #[v, .int .i64 m] w (RetNestN l m w) := by
 have HZ := Lib.hid hz
 have HG := Lib.hid (okPcs_of hz)
 have HP := Lib.hid hP
 have HS := Lib.hid hS
 have HV := Lib.hid hv
 have hlen := HG.out.len
 have hm1 := HG.out.m1
 have hm2 := HG.out.m2
 obtain ⟨av, cv, rfl, hE⟩ := hv
 have HE := Lib.hid hE
 clear hE hz hP hS
 obtain ⟨iI, hiI, hzI0, hzI1, hzI2⟩ := info_parts info_int
 obtain ⟨iB, hiB, hzB0, hzB1, hzB2⟩ := info_parts info_bool1
 obtain ⟨iP, hiP, hzP0, hzP1, hzP2⟩ := info_parts info_pt
 have hzd : ∀ u ∈ (Value.int .i64 0).cells.toList, noDig u := by
  intro u hu
  simp [Value.cells] at hu
  rw [hu]
  exact noDig_i64 0
 go_enter Tryz.func10, Tryz.ntmps10
 go_wp2_with fail
 refine (qpieces_any _ _ HV.out).mono ?_
 rw [HZ.out]
 rintro e w1 ⟨rfl, hb1⟩
 have HV1 := Lib.hid (HV.out.below hb1)
 go_upto_region 4 with fail
 go_cut [8, 9] (fun ov dv wx => Hid (MadeOB l.length w1.heap.size ov dv wx ∧ Below w1.heap.size w1 wx))
 case first =>
  have hmk1 : ∀ W, (Instr.makeSlice 22 (.int .i64 l.length) (.int .i64 l.length)).run Tryz.prog W = .ok (.slice (some ⟨W.heap.size, 0, none⟩) l.length l.length) (W.alloc (.cells (madeCells #[Value.int .i64 0, Value.int .i64 0] (l.length * 2)) 45)) := fun W => by
   have h := run_make (P := Tryz.prog) W 22 45 iP _ Tryz.underlying22 hiP hzP0 .i64 .i64 (l.length : Int) (l.length : Int) (by omega) (by omega) (by rw [hzP2]; omega) (by omega)
   rw [hzP1] at h
   simp only [Int.toNat_natCast] at h
   exact h
  have hmk2 : ∀ W, (Instr.makeSlice 82 (.int .i64 l.length) (.int .i64 l.length)).run Tryz.prog W = .ok (.slice (some ⟨W.heap.size, 0, none⟩) l.length l.length) (W.alloc (.cells (madeCells #[Value.bool false] l.length) 4)) := fun W => by
   have h := run_make (P := Tryz.prog) W 82 4 iB _ Tryz.underlying82 hiB hzB0 .i64 .i64 (l.length : Int) (l.length : Int) (by omega) (by omega) (by rw [hzB2]; omega) (by omega)
   rw [hzB1, Nat.mul_one] at h
   simp only [Int.toNat_natCast] at h
   exact h
  have HX1 : Hid (Below w1.heap.size w1 ((w1.alloc (.cells (madeCells #[Value.int .i64 0, Value.int .i64 0] (l.length * 2)) 45)).alloc (.cells (madeCells #[Value.bool false] l.length) 4)).drew) := by
   have h1 := (Below.refl w1.heap.size w1).alloc (Nat.le_refl _) (.cells (madeCells #[Value.int .i64 0, Value.int .i64 0] (l.length * 2)) 45)
   exact (h1.alloc h1.size (.cells (madeCells #[Value.bool false] l.length) 4)).drew
  have HX2 : Hid (Below w1.heap.size w1 ((w1.alloc (.cells (madeCells #[Value.bool false] l.length) 4)).alloc (.cells (madeCells #[Value.int .i64 0, Value.int .i64 0] (l.length * 2)) 45)).drew) := by
   have h1 := (Below.refl w1.heap.size w1).alloc (Nat.le_refl _) (.cells (madeCells #[Value.bool false] l.length) 4)
   exact (h1.alloc h1.size (.cells (madeCells #[Value.int .i64 0, Value.int .i64 0] (l.length * 2)) 45)).drew
  go_region
  all_goals
   go_wp2_with fail
   go_meet
   case rel => first | exact ⟨(madeOB_1 w1 l.length w1.heap.size (by unfold maxLen; omega) (Nat.le_refl _)).drew, HX1.out⟩ | exact ⟨(madeOB_2 w1 l.length w1.heap.size (by unfold maxLen; omega) (Nat.le_refl _)).drew, HX2.out⟩
 case rest =>
  obtain ⟨⟨g1, g2, rfl, rfl, hg12, hO0, hD0⟩, hbc⟩ := hcut.out
  clear hcut
  have hgO := hO0.lt (g := g1) rfl
  have hgD := hD0.lt (g := g2) rfl
  go_wp2_with fail
  go_loopw [10, 11, 12, 13] (fun bv uv ev iv wr => ∃ (j : Nat) (sh out : List (Int × Int)) (e : Int), j ≤ l.length ∧ iv = .int .i64 j ∧ ev = .int .i64 e ∧ (0 ≤ e ∧ e ≤ 1000000 * j) ∧ Hid (LRow wr wc.heap.size 3 1 bv sh.length (intC (sh.map (·.1))) ∧ LRow wr wc.heap.size 3 1 uv sh.length (intC (sh.map (·.2))) ∧ (∀ g, bv.ownBlock = some g → uv.ownBlock ≠ some g) ∧ LRow wr w1.heap.size 45 2 (.slice (some ⟨g1, 0, none⟩) l.length l.length) l.length (pairCells out) ∧ LRow wr w1.heap.size 4 1 (.slice (some ⟨g2, 0, none⟩) l.length l.length) l.length (boolC (doneB f j) l.length)) ∧ Hid (NS l m f j sh out e) ∧ wc.heap.size ≤ wr.heap.size ∧ Below w1.heap.size w1 wr)
   (fun _ _ _ iv _ => l.length - (intOf iv).toNat)
  case atStart => exact ⟨0, [], List.replicate l.length (0, 0), 0, Nat.zero_le _, rfl, rfl, ⟨by omega, by omega⟩, ⟨LRow.nil _ _ _ _, LRow.nil _ _ _ _, fun g h => by simp [Value.ownBlock] at h, hO0, hD0⟩, ns_zero l m f, Nat.le_refl _, hbc⟩
  case round =>
   clear hO0 hD0
   obtain ⟨j, sh, out, e, hj, rfl, rfl, he, HR, HN, hwc, hbel⟩ := hrel
   by_cases hlt : j < l.length
   ·
    have hlt' : (j : Int) < l.length := by omega
    have hge' : (0 : Int) ≤ j := by omega
    have hiN := HP.out.lt j hlt
    have hp := HG.out.at hiN
    obtain ⟨b, off, rfl, hbl, hEE⟩ := HE.out (by omega)
    have hbl1 : b < w1.heap.size := Nat.lt_of_lt_of_le hbl hb1.size
    have hQN := qnext_any _ _ wr (HV1.out.below hbel) (BoolsOf.ofRow HR.out.2.2.2.2) hlen
    rw [best_next HP.out HS.out hlt] at hQN
    have HQN : Hid (Calls Tryz.prog 29 #[.slice (some ⟨b, off, none⟩) l.length cv, .slice (some ⟨g2, 0, none⟩) l.length l.length] wr (RetInt ((f j : Nat) : Int) wr)) := hQN
    have HFIT : Hid (∀ k, k < sh.length → (∀ q, q < k → m < (sh.getD q (0, 0)).2 + (l.getD (f j) (0, 0)).2) → (sh.getD k (0, 0)).2 + (l.getD (f j) (0, 0)).2 ≤ m → NS l m f (j + 1) (sh.set k ((sh.getD k (0, 0)).1, (sh.getD k (0, 0)).2 + (l.getD (f j) (0, 0)).2)) (out.set (f j) (sh.getD k (0, 0))) e) := fun k hk h h2 => ns_fit HN.out hp.1 hp.2 hk h h2
    have HNEW : Hid ((∀ k, k < sh.length → m < (sh.getD k (0, 0)).2 + (l.getD (f j) (0, 0)).2) → NS l m f (j + 1) (sh ++ [(e, (l.getD (f j) (0, 0)).2)]) (out.set (f j) (e, 0)) (e + (l.getD (f j) (0, 0)).1)) := fun h => ns_new HN.out hp.1 hp.2 h
    have Hhw := Lib.hid (ns_hw HN.out)
    have Hol : Hid (out.length = l.length) := HN.out.2.outlen
    have hfew : sh.length ≤ 24 := by have := HN.out.2.few; (have : sh.length ≤ j := this); omega
    have HBS : Hid ((boolC (doneB f j) l.length).set (f j) (.bool true) = boolC (doneB f (j + 1)) l.length) := boolC_set f j l.length
    obtain ⟨q0, q1⟩ := (hEE (f j) hiN).below (hb1.trans (hbel.mono hb1.size)) hbl
    have c0 := HR.out.2.2.2.2.cellV (boolC_get (d := doneB f j) hiN)
    clear hQN hEE HN
    generalize hD2e : boolC (doneB f (j + 1)) l.length = D2 at *
    have HD2 := Lib.hid hD2e
    clear hD2e
    generalize boolC (doneB f j) l.length = D1 at *
    generalize doneB f j (f j) = db at *
    generalize (l.getD (f j) (0, 0)).1 = x at *
    generalize (l.getD (f j) (0, 0)).2 = y at *
    generalize f j = i at *
    have hiN' : (i : Int) < l.length := by omega
    have hi0 : (0 : Int) ≤ i := by omega
    obtain ⟨aoB, capB, hbv, _, _⟩ := HR.out.1.capOk
    obtain ⟨aoU, capU, huv, _, _⟩ := HR.out.2.1.capOk
    subst hbv huv
    go_wp2_with fail
    refine HQN.out.mono ?_
    rintro e2 w2 ⟨rfl, hb2⟩
    have hR2 := HR.out
    have hB2 := hR2.1.below hb2
    have hU2 := hR2.2.1.below hb2
    have hO2 := hR2.2.2.2.1.below hb2
    have hD2 := hR2.2.2.2.2.below hb2
    have HAP := Lib.hid hR2.2.2.1
    have d0 := (hb2.cell (p := ⟨g2, i, none⟩) (show g2 < wr.heap.size by omega)).trans c0
    have fd := hD2.frozenP i
    have hD3 := hD2.setN i (v := .bool true) (noDig_bool _)
    rw [HBS.out] at hD3
    have hO3 := hO2.oth2 (a := ⟨g2, i, none⟩) (fun h => hg12 h.symm) (.bool true)
    have hB3 := hB2.oth (a := ⟨g2, i, none⟩) (show g2 < wc.heap.size by omega) (.bool true)
    have hU3 := hU2.oth (a := ⟨g2, i, none⟩) (show g2 < wc.heap.size by omega) (.bool true)
    have hx3 := (hbel.trans (hb2.mono hbel.size)).setCell (p := ⟨g2, i, none⟩) hgD.2 (.bool true)
    have q0 := (hb2.cell (p := ⟨b, off + i * 2, none⟩) (World.block_lt_of_cell? (h := q0))).trans q0
    have q1 := (hb2.cell (p := ⟨b, off + i * 2 + 1, none⟩) (World.block_lt_of_cell? (h := q1))).trans q1
    have q0 := (World.cell?_setCell_far w2 ⟨g2, i, none⟩ ⟨b, off + i * 2, none⟩ (.bool true) (show g2 ≠ b by omega)).trans q0
    have q1 := (World.cell?_setCell_far w2 ⟨g2, i, none⟩ ⟨b, off + i * 2 + 1, none⟩ (.bool true) (show g2 ≠ b by omega)).trans q1
    have hwc3 : wc.heap.size ≤ (w2.setCell ⟨g2, i, none⟩ (.bool true)).heap.size := by have := ((Below.refl 0 w2).setCell (p := ⟨g2, i, none⟩) (Nat.zero_le _) (.bool true)).size; have := hb2.size; omega
    clear hR2 hB2 hU2 hO2 hD2 c0
    go_upto_region 12 with fail
    clear d0 fd
    generalize w2.setCell ⟨g2, i, none⟩ (.bool true) = W3 at *
    go_wp2_with fail
    go_loopw [15] (fun sv wq => ∃ s : Nat, s ≤ sh.length ∧ sv = .int .i64 s ∧ Hid (∀ q, q < s → m < (sh.getD q (0, 0)).2 + y) ∧ Below W3.heap.size W3 wq)
     (fun sv _ => sh.length - (intOf sv).toNat)
    case atStart => exact ⟨0, Nat.zero_le _, rfl, fun q hq => by omega, Below.refl _ _⟩
    case round =>
     obtain ⟨s, hs, rfl, hno, hxq⟩ := hrel
     have q1q := (hxq.cell (p := ⟨b, off + i * 2 + 1, none⟩) (World.block_lt_of_cell? (h := q1))).trans q1
     have q0q := (hxq.cell (p := ⟨b, off + i * 2, none⟩) (World.block_lt_of_cell? (h := q0))).trans q0
     by_cases hsl : s < sh.length
     ·
      obtain ⟨gb, cap4, hv4⟩ := ownsRow_some hB3.1 (show 0 < sh.length by omega)
      simp only [Value.slice.injEq] at hv4
      obtain ⟨rfl, _, rfl⟩ := hv4
      obtain ⟨gu, cap5, hv5⟩ := ownsRow_some hU3.1 (show 0 < sh.length by omega)
      simp only [Value.slice.injEq] at hv5
      obtain ⟨rfl, _, rfl⟩ := hv5
      have hsl' : (s : Int) < sh.length := by omega
      have hs0 : (0 : Int) ≤ s := by omega
      have u0 := (hU3.below hxq).cellV (intC_get (xs := sh.map (·.2)) (k := s) (by rw [List.length_map]; exact hsl))
      rw [snd_get hsl] at u0
      have b0 := (hB3.below hxq).cellV (intC_get (xs := sh.map (·.1)) (k := s) (by rw [List.length_map]; exact hsl))
      rw [fst_get hsl] at b0
      have hhw := Hhw.out s hsl
      have HF := Lib.hid (HFIT.out s hsl hno.out)
      have HBF : Hid (∀ z, (sh.set s ((sh.getD s (0, 0)).1, z)).map (·.1) = sh.map (·.1)) := fun z => fst_set sh s z
      have HSS : Hid (∀ x z, (sh.set s (x, z)).map (·.2) = (sh.map (·.2)).set s z) := fun x z => snd_set sh s x z
      generalize hsk : sh.getD s (0, 0) = sk at *
      obtain ⟨s0, s1⟩ := sk
      have HSK2 : Hid (sh.getD s (0, 0) = (s0, s1)) := hsk
      dsimp only at u0 b0 hhw HF HBF
      have hws : IntKind.i64.wrap (s1 + y) = s1 + y := IntWalk.i64_in _ (by omega)
      by_cases c : s1 + y > m
      ·
       have t : decide (s1 + y > m) = true := decide_eq_true c
       have Hno : Hid (∀ q, q < s + 1 → m < (sh.getD q (0, 0)).2 + y) := fun q hq => by
        rcases Nat.lt_or_ge q s with h | h
        ·
         exact hno.out q h
        ·
         obtain rfl : q = s := by omega
         rw [hsk]
         show m < s1 + y
         omega
       clear hsk b0 q0q
       go_wp2_with fail
       go_quiet (fail)
       go_wp2_with fail
       exact ⟨⟨s + 1, by omega, by go_num, Hno, below_dn hxq _⟩, meas_up hsl⟩
      ·
       have t : decide (s1 + y > m) = false := decide_eq_false c
       have tne : ((s : Int) == (sh.length : Int)) = false := by simp; omega
       have HI := Lib.hid (HF.out (by omega))
       clear hsk HF
       go_wp2_with fail
       go_quiet (fail)
       have hx4 := below_dn hxq nq
       have hB4 := hB3.below hx4
       have hU4 := hU3.below hx4
       have hO4 := hO3.below hx4
       have hD4 := hD3.below hx4
       have u04 : (wr.drewN nq).cell? ⟨gu, s, none⟩ = some (.int .i64 s1) := u0
       have b04 : (wr.drewN nq).cell? ⟨gb, s, none⟩ = some (.int .i64 s0) := b0
       have y04 : (wr.drewN nq).cell? ⟨b, off + i * 2 + 1, none⟩ = some (.int .i64 y) := q1q
       have hwc4 := Nat.le_trans hwc3 hx4.size
       clear u0 b0 q0q q1q hxq
       generalize wr.drewN nq = W4 at *
       have fo0 := hO4.frozenP (i * 2)
       have fo1 := hO4.frozenP (i * 2 + 1)
       obtain ⟨p0, p1⟩ := hO4.cellP Hol.out hiN
       rw [Nat.zero_add] at p0 p1
       go_wp2_with fail
       have hO5 := (hO4.setN (i * 2) (v := .int .i64 s0) (noDig_i64 s0)).setN (i * 2 + 1) (v := .int .i64 s1) (noDig_i64 s1)
       rw [pairCells_set12 out s0 s1 i (by rw [Hol.out]; exact hiN)] at hO5
       have hB5 := (hB4.oth (a := ⟨g1, i * 2, none⟩) (show g1 < wc.heap.size by omega) (.int .i64 s0)).oth (a := ⟨g1, i * 2 + 1, none⟩) (show g1 < wc.heap.size by omega) (.int .i64 s1)
       have hU5 := (hU4.oth (a := ⟨g1, i * 2, none⟩) (show g1 < wc.heap.size by omega) (.int .i64 s0)).oth (a := ⟨g1, i * 2 + 1, none⟩) (show g1 < wc.heap.size by omega) (.int .i64 s1)
       have hD5 := (hD4.oth2 (a := ⟨g1, i * 2, none⟩) hg12 (.int .i64 s0)).oth2 (a := ⟨g1, i * 2 + 1, none⟩) hg12 (.int .i64 s1)
       have hx5 := ((hx3.trans (hx4.mono (by have := hgD.2; omega))).setCell (p := ⟨g1, i * 2, none⟩) hgO.2 (.int .i64 s0)).setCell (p := ⟨g1, i * 2 + 1, none⟩) hgO.2 (.int .i64 s1)
       have y05 := (World.cell?_setCell_far (W4.setCell ⟨g1, i * 2, none⟩ (.int .i64 s0)) ⟨g1, i * 2 + 1, none⟩ ⟨b, off + i * 2 + 1, none⟩ (.int .i64 s1) (show g1 ≠ b by omega)).trans ((World.cell?_setCell_far W4 ⟨g1, i * 2, none⟩ ⟨b, off + i * 2 + 1, none⟩ (.int .i64 s0) (show g1 ≠ b by omega)).trans y04)
       have HD5 : Hid (∀ W, W = ((W4.setCell ⟨g1, i * 2, none⟩ (.int .i64 s0)).setCell ⟨g1, i * 2 + 1, none⟩ (.int .i64 s1)).drew → W.cell? ⟨b, off + i * 2 + 1, none⟩ = some (.int .i64 y) ∧ LRow W wc.heap.size 3 1 (.slice (some ⟨gb, 0, none⟩) sh.length capB) sh.length (intC (sh.map (·.1))) ∧ LRow W wc.heap.size 3 1 (.slice (some ⟨gu, 0, none⟩) sh.length capU) sh.length (intC (sh.map (·.2))) ∧ LRow W w1.heap.size 45 2 (.slice (some ⟨g1, 0, none⟩) l.length l.length) l.length (pairCells (out.set i (s0, s1))) ∧ LRow W w1.heap.size 4 1 (.slice (some ⟨g2, 0, none⟩) l.length l.length) l.length D2 ∧ Below w1.heap.size w1 W ∧ wc.heap.size ≤ W.heap.size) := fun W e => by
        subst e
        exact ⟨y05, hB5.below (Below.refl _ _).drew, hU5.below (Below.refl _ _).drew, hO5.below (Below.refl _ _).drew, hD5.below (Below.refl _ _).drew, hx5.drew, by
         have h1 := ((Below.refl 0 W4).setCell (p := ⟨g1, i * 2, none⟩) (Nat.zero_le _) (.int .i64 s0)).setCell (p := ⟨g1, i * 2 + 1, none⟩) (Nat.zero_le _) (.int .i64 s1)
         have := h1.drew.size
         omega⟩
       clear hB4 hU4 hO4 hD4 hO5 hB5 hU5 hD5 hx5 y05 hx4
       go_region
       generalize hW5 : ((W4.setCell ⟨g1, i * 2, none⟩ (.int .i64 s0)).setCell ⟨g1, i * 2 + 1, none⟩ (.int .i64 s1)).drew = W5 at *
       obtain ⟨y05, hB5, hU5, hO5, hD5, hx5, hwc5⟩ := HD5.out W5 rfl
       clear HD5 hW5 u04 b04 y04 p0 p1 fo0 fo1
       have u05 := hU5.cellV (intC_get (xs := sh.map (·.2)) (k := s) (by rw [List.length_map]; exact hsl))
       rw [snd_get hsl, HSK2.out] at u05
       dsimp only at u05
       have fu := hU5.frozenP s
       have hU6 := hU5.setN s (v := .int .i64 (s1 + y)) (noDig_i64 _)
       rw [intC_set] at hU6
       have hB6 := hB5.oth2 (a := ⟨gu, s, none⟩) (fun h => HAP.out gb rfl (congrArg some h)) (.int .i64 (s1 + y))
       have hguW := (hU5.lt (g := gu) rfl).2
       have hO6 := hO5.oth2 (a := ⟨gu, s, none⟩) (show gu ≠ g1 by omega) (.int .i64 (s1 + y))
       have hD6 := hD5.oth2 (a := ⟨gu, s, none⟩) (show gu ≠ g2 by omega) (.int .i64 (s1 + y))
       have hx6 := hx5.setCell (p := ⟨gu, s, none⟩) (show w1.heap.size ≤ gu by omega) (.int .i64 (s1 + y))
       have hwc6 : wc.heap.size ≤ (W5.setCell ⟨gu, s, none⟩ (.int .i64 (s1 + y))).heap.size := by
        have := ((Below.refl 0 W5).setCell (p := ⟨gu, s, none⟩) (Nat.zero_le _) (.int .i64 (s1 + y))).size
        omega
       go_wp2_with fail
       go_region
       go_wp2_with fail
       exact ⟨⟨j + 1, sh.set s (s0, s1 + y), out.set i (s0, s1), e, by omega, by go_num, rfl, ⟨by omega, by omega⟩, ⟨by rw [List.length_set, HBF.out]; exact hB6.below (Below.refl _ _).drew, by rw [List.length_set, HSS.out]; exact hU6.below (Below.refl _ _).drew, HAP.out, hO6.below (Below.refl _ _).drew, by rw [HD2.out]; exact hD6.below (Below.refl _ _).drew⟩, HI, Nat.le_trans hwc6 (Below.refl 0 _).drew.size, hx6.drew⟩, meas_up hlt⟩
     ·
      obtain rfl : s = sh.length := by omega
      have HI := Lib.hid (HNEW.out hno.out)
      go_wp2_with fail
      go_quiet (fail)
      have hx4 := below_dn hxq nq
      have hB4 := hB3.below hx4
      have hU4 := hU3.below hx4
      have hO4 := hO3.below hx4
      have hD4 := hD3.below hx4
      have x04 : (wr.drewN nq).cell? ⟨b, off + i * 2, none⟩ = some (.int .i64 x) := q0q
      have y04 : (wr.drewN nq).cell? ⟨b, off + i * 2 + 1, none⟩ = some (.int .i64 y) := q1q
      have hwc4 := Nat.le_trans hwc3 hx4.size
      have hx4' := hx3.trans (hx4.mono (show w1.heap.size ≤ W3.heap.size by have := hgD.2; omega))
      clear q0q q1q hxq hx4
      generalize wr.drewN nq = W4 at *
      have hal5 := (Below.refl W4.heap.size W4).alloc (Nat.le_refl _) (.cells #[.int .i64 e] 3)
      have HCN := Lib.hid (cell_one_new W4 (.int .i64 e) 3)
      have HB5 := Lib.hid (hB4.below hal5)
      have hg1b : ∀ q, (Value.slice aoB sh.length capB).ownBlock = some q → wc.heap.size ≤ q := fun q hq => (hB4.lt hq).2
      have hg1u : ∀ q, (Value.slice aoU sh.length capU).ownBlock = some q → wc.heap.size ≤ q := fun q hq => (hU4.lt hq).2
      have HLB := Lib.hid (fun q (hq : (Value.slice aoB sh.length capB).ownBlock = some q) => (hB4.lt hq).1)
      have HLU := Lib.hid (fun q (hq : (Value.slice aoU sh.length capU).ownBlock = some q) => (hU4.lt hq).1)
      have hbW : b < W4.heap.size := World.block_lt_of_cell? (h := x04)
      have tll : ((sh.length : Int) == (sh.length : Int)) = true := by simp
      go_wp2_with (at_builtin; refine wpList_append_lrow _ rfl (.tmp 64) (.tmp 66) 72 rfl wc.heap.size 3 iI (.int .i64 0) 1 8 Tryz.underlying72 hiI hzI0 hzI1 hzI2 rfl (by decide) hzd _ _ _ rfl HB5.out ⟨W4.heap.size, 0, none⟩ 1 1 [.int .i64 e] rfl rfl HCN.out (by simp [Value.oneCell']) (by intro u hu; simp at hu; rw [hu]; exact noDig_i64 _) (by omega) (by unfold maxLen; omega) (by omega) (by simp; omega) ?_)
      intro gb capb w5 hB6 hgr6 hat6
      have hU6 := (hU4.below hal5).grown hgr6 (fun q hq he => HAP.out q he.symm hq)
      have hO6 := (hO4.below hal5).grown hgr6 (fun q hq he => by simp [Value.ownBlock] at hq; have := hg1b q he.symm; omega)
      have hD6 := (hD4.below hal5).grown hgr6 (fun q hq he => by simp [Value.ownBlock] at hq; have := hg1b q he.symm; omega)
      have hx6 : Below w1.heap.size w1 w5 := (hx4'.alloc hx4'.size (.cells #[.int .i64 e] 3)).grown hgr6 (by simp; have := hx4'.size; omega) (fun q hq => by have := hg1b q hq; omega)
      have x06 : w5.cell? ⟨b, off + i * 2, none⟩ = some (.int .i64 x) := by
       rw [← x04, ← hal5.cell (p := ⟨b, off + i * 2, none⟩) hbW]
       exact World.cell?_of_block (a := ⟨b, off + i * 2, none⟩) (hgr6.block b (by simp; omega) (fun he => by have := hg1b b he.symm; omega))
      have y06 : w5.cell? ⟨b, off + i * 2 + 1, none⟩ = some (.int .i64 y) := by
       rw [← y04, ← hal5.cell (p := ⟨b, off + i * 2 + 1, none⟩) hbW]
       exact World.cell?_of_block (a := ⟨b, off + i * 2 + 1, none⟩) (hgr6.block b (by simp; omega) (fun he => by have := hg1b b he.symm; omega))
      have hwc6 : wc.heap.size ≤ w5.heap.size := by
       have h1 := hal5.size
       have h2 := hgr6.size
       omega
      have HGB : Hid (∀ q, (Value.slice aoU sh.length capU).ownBlock = some q → q ≠ gb) := fun q hq h => by
       subst h
       rcases hat6 with h | h
       ·
        exact HAP.out q h hq
       ·
        have := HLU.out q hq
        omega
      have hal6 := (Below.refl w5.heap.size w5).alloc (Nat.le_refl _) (.cells #[.int .i64 0] 3)
      have HCN6 := Lib.hid (cell_one_new w5 (.int .i64 0) 3)
      have HU7 := Lib.hid (hU6.below hal6)
      have hbW5 : b < w5.heap.size := World.block_lt_of_cell? (h := x06)
      go_wp2_with (at_builtin; refine wpList_append_lrow _ rfl (.tmp 68) (.tmp 69) 72 rfl wc.heap.size 3 iI (.int .i64 0) 1 8 Tryz.underlying72 hiI hzI0 hzI1 hzI2 rfl (by decide) hzd _ _ _ rfl HU7.out ⟨w5.heap.size, 0, none⟩ 1 1 [.int .i64 0] rfl rfl HCN6.out (by simp [Value.oneCell']) (by intro u hu; simp at hu; rw [hu]; exact noDig_i64 _) (by omega) (by unfold maxLen; omega) (by omega) (by simp; omega) ?_)
      intro gu capu w6 hU8 hgr8 hat8
      have hB8 := (hB6.below hal6).grown hgr8 (fun q hq he => by simp [Value.ownBlock] at hq; exact HGB.out q he.symm hq.symm)
      have hO8 := (hO6.below hal6).grown hgr8 (fun q hq he => by simp [Value.ownBlock] at hq; have := hg1u q he.symm; omega)
      have hD8 := (hD6.below hal6).grown hgr8 (fun q hq he => by simp [Value.ownBlock] at hq; have := hg1u q he.symm; omega)
      have hx8 : Below w1.heap.size w1 w6 := (hx6.alloc hx6.size (.cells #[.int .i64 0] 3)).grown hgr8 (by simp; have := hx6.size; omega) (fun q hq => by have := hg1u q hq; omega)
      have x08 : w6.cell? ⟨b, off + i * 2, none⟩ = some (.int .i64 x) := by
       rw [← x06, ← hal6.cell (p := ⟨b, off + i * 2, none⟩) hbW5]
       exact World.cell?_of_block (a := ⟨b, off + i * 2, none⟩) (hgr8.block b (by simp; omega) (fun he => by have := hg1u b he.symm; omega))
      have y08 : w6.cell? ⟨b, off + i * 2 + 1, none⟩ = some (.int .i64 y) := by
       rw [← y06, ← hal6.cell (p := ⟨b, off + i * 2 + 1, none⟩) hbW5]
       exact World.cell?_of_block (a := ⟨b, off + i * 2 + 1, none⟩) (hgr8.block b (by simp; omega) (fun he => by have := hg1u b he.symm; omega))
      have hwc8 : wc.heap.size ≤ w6.heap.size := by
       have h1 := hal6.size
       have h2 := hgr8.size
       omega
      have hgbl : wc.heap.size ≤ gb ∧ gb < w5.heap.size := ⟨(hB6.lt rfl).2, (hB6.lt rfl).1⟩
      have hgul : wc.heap.size ≤ gu := (hU8.lt rfl).2
      have hgbu : gb ≠ gu := fun h => by
       rcases hat8 with h2 | h2
       ·
        exact HGB.out gu h2 h.symm
       ·
        omega
      have HSF : Hid (intC ((sh ++ [(e, y)]).map (fun p : Int × Int => p.1)) = intC (sh.map (fun p : Int × Int => p.1)) ++ [Value.int .i64 e]) := by show _ = _; simp [intC]
      have HSS : Hid (intC ((sh ++ [(e, y)]).map (fun p : Int × Int => p.2)) = (intC (sh.map (fun p : Int × Int => p.2)) ++ [Value.int .i64 0]).set sh.length (Value.int .i64 y)) := by
       show _ = _
       rw [set_last _ _ _ (by rw [intC_len, List.length_map])]
       simp [intC]
      have HSL : Hid ((sh ++ [(e, y)]).length = sh.length + 1) := by show _ = _; simp
      have b08 := hB8.cellV (k := sh.length) (u := .int .i64 e) (by rw [List.getElem?_append_right (by rw [intC_len, List.length_map]; exact Nat.le_refl _), intC_len, List.length_map, Nat.sub_self]; rfl)
      have u08 := hU8.cellV (k := sh.length) (u := .int .i64 0) (by rw [List.getElem?_append_right (by rw [intC_len, List.length_map]; exact Nat.le_refl _), intC_len, List.length_map, Nat.sub_self]; rfl)
      clear hB6 hU6 hO6 hD6 hgr6 hat6 hgr8 hat8 HGB hx6 x06 y06 hal5 hal6 hg1b hg1u HCN HCN6 HB5 HU7 HLB HLU x04 y04 hB4 hU4 hO4 hD4 hwc6 hwc4 hx4' hbW hbW5
      generalize hL1 : sh.length + 1 = L1 at *
      have hL1i : (sh.length : Int) < L1 := by omega
      have hL10 : (0 : Int) ≤ sh.length := by omega
      clear hL1
      have hwe : IntKind.i64.wrap (e + x) = e + x := IntWalk.i64_in _ (by omega)
      have hwy1 : IntKind.i64.wrap (0 + y) = y := by rw [Int.zero_add]; exact IntWalk.i64_in _ (by omega)
      have hwy2 : IntKind.i64.wrap y = y := IntWalk.i64_in _ (by omega)
      have fo0 := hO8.frozenP (i * 2)
      have fo1 := hO8.frozenP (i * 2 + 1)
      obtain ⟨p0, p1⟩ := hO8.cellP Hol.out hiN
      rw [Nat.zero_add] at p0 p1
      go_wp2_with fail
      have hO9 := (hO8.setN (i * 2) (v := .int .i64 e) (noDig_i64 e)).setN (i * 2 + 1) (v := .int .i64 0) (noDig_i64 0)
      rw [pairCells_set12 out e 0 i (by rw [Hol.out]; exact hiN)] at hO9
      have hB9 := (hB8.oth (a := ⟨g1, i * 2, none⟩) (show g1 < wc.heap.size by omega) (.int .i64 e)).oth (a := ⟨g1, i * 2 + 1, none⟩) (show g1 < wc.heap.size by omega) (.int .i64 0)
      have hU9 := (hU8.oth (a := ⟨g1, i * 2, none⟩) (show g1 < wc.heap.size by omega) (.int .i64 e)).oth (a := ⟨g1, i * 2 + 1, none⟩) (show g1 < wc.heap.size by omega) (.int .i64 0)
      have hD9 := (hD8.oth2 (a := ⟨g1, i * 2, none⟩) hg12 (.int .i64 e)).oth2 (a := ⟨g1, i * 2 + 1, none⟩) hg12 (.int .i64 0)
      have hx9 := (hx8.setCell (p := ⟨g1, i * 2, none⟩) hgO.2 (.int .i64 e)).setCell (p := ⟨g1, i * 2 + 1, none⟩) hgO.2 (.int .i64 0)
      have y09 := (World.cell?_setCell_far (w6.setCell ⟨g1, i * 2, none⟩ (.int .i64 e)) ⟨g1, i * 2 + 1, none⟩ ⟨b, off + i * 2 + 1, none⟩ (.int .i64 0) (show g1 ≠ b by omega)).trans ((World.cell?_setCell_far w6 ⟨g1, i * 2, none⟩ ⟨b, off + i * 2 + 1, none⟩ (.int .i64 e) (show g1 ≠ b by omega)).trans y08)
      have HD9 : Hid (∀ W, W = ((w6.setCell ⟨g1, i * 2, none⟩ (.int .i64 e)).setCell ⟨g1, i * 2 + 1, none⟩ (.int .i64 0)).drew → W.cell? ⟨b, off + i * 2 + 1, none⟩ = some (.int .i64 y) ∧ LRow W wc.heap.size 3 1 (.slice (some ⟨gb, 0, none⟩) L1 capb) L1 (intC (sh.map (·.1)) ++ [.int .i64 e]) ∧ LRow W wc.heap.size 3 1 (.slice (some ⟨gu, 0, none⟩) L1 capu) L1 (intC (sh.map (·.2)) ++ [.int .i64 0]) ∧ LRow W w1.heap.size 45 2 (.slice (some ⟨g1, 0, none⟩) l.length l.length) l.length (pairCells (out.set i (e, 0))) ∧ LRow W w1.heap.size 4 1 (.slice (some ⟨g2, 0, none⟩) l.length l.length) l.length D2 ∧ Below w1.heap.size w1 W ∧ wc.heap.size ≤ W.heap.size) := fun W e1 => by
       subst e1
       exact ⟨y09, hB9.below (Below.refl _ _).drew, hU9.below (Below.refl _ _).drew, hO9.below (Below.refl _ _).drew, hD9.below (Below.refl _ _).drew, hx9.drew, by
        have h1 := ((Below.refl 0 w6).setCell (p := ⟨g1, i * 2, none⟩) (Nat.zero_le _) (.int .i64 e)).setCell (p := ⟨g1, i * 2 + 1, none⟩) (Nat.zero_le _) (.int .i64 0)
        have := h1.drew.size
        omega⟩
      clear hB8 hU8 hO8 hD8 hO9 hB9 hU9 hD9 hx9 y09 hx8
      go_region
      generalize hW5 : ((w6.setCell ⟨g1, i * 2, none⟩ (.int .i64 e)).setCell ⟨g1, i * 2 + 1, none⟩ (.int .i64 0)).drew = W9 at *
      obtain ⟨y09, hB9, hU9, hO9, hD9, hx9, hwc9⟩ := HD9.out W9 rfl
      clear HD9 hW5 u08 b08 y08 x08 p0 p1 fo0 fo1
      have u09 := hU9.cellV (k := sh.length) (u := .int .i64 0) (by rw [List.getElem?_append_right (by rw [intC_len, List.length_map]; exact Nat.le_refl _), intC_len, List.length_map, Nat.sub_self]; rfl)
      have fu := hU9.frozenP sh.length
      have hU10 := hU9.setN sh.length (v := .int .i64 y) (noDig_i64 _)
      have hB10 := hB9.oth2 (a := ⟨gu, sh.length, none⟩) (fun h => hgbu h.symm) (.int .i64 y)
      have hO10 := hO9.oth2 (a := ⟨gu, sh.length, none⟩) (show gu ≠ g1 by omega) (.int .i64 y)
      have hD10 := hD9.oth2 (a := ⟨gu, sh.length, none⟩) (show gu ≠ g2 by omega) (.int .i64 y)
      have hx10 := hx9.setCell (p := ⟨gu, sh.length, none⟩) (show w1.heap.size ≤ gu by omega) (.int .i64 y)
      have hwc10 : wc.heap.size ≤ (W9.setCell ⟨gu, sh.length, none⟩ (.int .i64 y)).heap.size := by
       have := ((Below.refl 0 W9).setCell (p := ⟨gu, sh.length, none⟩) (Nat.zero_le _) (.int .i64 y)).size
       omega
      have hgbu2 : ∀ g, (Value.slice (some ⟨gb, 0, none⟩) L1 capb).ownBlock = some g → (Value.slice (some ⟨gu, 0, none⟩) L1 capu).ownBlock ≠ some g := fun g h1 h2 => by
       simp [Value.ownBlock] at h1 h2
       omega
      have HAP2 := Lib.hid hgbu2
      clear hgbu2
      go_wp2_with fail
      go_region
      go_wp2_with fail
      exact ⟨⟨j + 1, sh ++ [(e, y)], out.set i (e, 0), e + x, by omega, by go_num, rfl, ⟨by omega, by omega⟩, ⟨by rw [HSL.out, HSF.out]; exact hB10.below (Below.refl _ _).drew, by rw [HSL.out, HSS.out]; exact hU10.below (Below.refl _ _).drew, HAP2.out, hO10.below (Below.refl _ _).drew, by rw [HD2.out]; exact hD10.below (Below.refl _ _).drew⟩, HI, Nat.le_trans hwc10 (Below.refl 0 _).drew.size, hx10.drew⟩, meas_up hlt⟩
   ·
    obtain rfl : j = l.length := by omega
    have HD : Hid (NestRes l m out e) := by
     show NestRes _ _ _ _
     unfold NestRes
     rw [if_pos HZ.out]
     exact ⟨f, HP.out, HS.out, by rw [HN.out.1], by rw [HN.out.1]⟩
    have hol : out.length = l.length := HN.out.2.outlen
    have HPO : Hid (PairsOf wr (.slice (some ⟨g1, 0, none⟩) l.length l.length) out) := by
     have h := HR.out.2.2.2.1
     rw [← hol] at h ⊢
     exact PairsOf.ofRow h
    have hxw := hb1.trans (hbel.mono hb1.size)
    obtain ⟨aoB, capB, hbv, _, _⟩ := HR.out.1.capOk
    obtain ⟨aoU, capU, huv, _, _⟩ := HR.out.2.1.capOk
    subst hbv huv
    clear hol
    go_wp2_with fail
    go_ret3
    exact ⟨_, out, e, by rw [HZ.out]; rfl, HD, HPO.out, ⟨_, _, _, rfl, Nat.le_refl _, by unfold maxLen; omega⟩, hxw⟩

set_option maxRecDepth 100000 in
set_option maxHeartbeats 8000000 in
theorem qnest_any {l : List (Int × Int)} {m : Int} (v : Value) (w : World) (hf : pcsErr l m = 0 → ∃ f, PermI f l.length ∧ SortR (fun i => (gP l i).1) f 0 l.length) (hv : PairsOf w v l) : Calls Tryz.prog 10 #[v, .int .i64 m] w (RetNestN l m w) := by
 by_cases hz : pcsErr l m = 0
 ·
  obtain ⟨f, hP, hS⟩ := hf hz
  exact qnestG_any v w hz hP hS hv
 ·
  have te : (pcsErr l m != 0) = true := bne_iff_ne.2 hz
  have HR : Hid (NestRes l m [] 0) := by show NestRes _ _ _ _; unfold NestRes; rw [if_neg hz]; exact ⟨rfl, rfl⟩
  have HQ : Hid (∀ w', RetNestN l m w (.returned (.tuple #[.slice none 0 0, .int .i64 0, .int .i64 (pcsErr l m)])) w' ↔ Below w.heap.size w w') := fun w' => ⟨fun ⟨_, _, _, _, _, _, _, h⟩ => h, fun h => ⟨_, [], 0, rfl, HR, ⟨none, 0, rfl, fun h => absurd h (by simp)⟩, ⟨_, _, _, rfl, Nat.le_refl _, by unfold maxLen; omega⟩, h⟩⟩
  have HP := qpieces_any (m := m) v w hv
  obtain ⟨av, cv, rfl, hE⟩ := hv
  clear hE hf
  generalize hER : pcsErr l m = er at *
  clear hz HR
  go_enter Tryz.func10, Tryz.ntmps10
  go_wp2_with fail
  refine HP.mono ?_
  rintro e w1 ⟨rfl, hb1⟩
  go_wp2_with fail
  go_ret3
  exact (HQ.out _).2 hb1

end Go.Proofs.YtofijjomfhmbjaaGreat

namespace Go.Proofs.YtofijjomfhmbjaaGreat
open Go.RowKit

theorem keepC6 {n : Nat} {W a b : World} {A0 A1 A2 A3 A4 A5 : Addr} {v0 v1 v2 v3 v4 v5 : Value} (hn : n ≤ W.heap.size) (hb : Below a.heap.size a b)
  (h : Below n W a ∧ a.cell? A0 = some v0 ∧ a.cell? A1 = some v1 ∧ a.cell? A2 = some v2 ∧ a.cell? A3 = some v3 ∧ a.cell? A4 = some v4 ∧ a.cell? A5 = some v5) :
  Below n W b ∧ b.cell? A0 = some v0 ∧ b.cell? A1 = some v1 ∧ b.cell? A2 = some v2 ∧ b.cell? A3 = some v3 ∧ b.cell? A4 = some v4 ∧ b.cell? A5 = some v5 := by
 obtain ⟨h0, h1, h2, h3, h4, h5, h6⟩ := h
 have e : ∀ A v, a.cell? A = some v → b.cell? A = some v := fun A v h => (hb.cell (World.block_lt_of_cell? (h := h))).trans h
 have := h0.size
 exact ⟨h0.trans (hb.mono (by omega)), e _ _ h1, e _ _ h2, e _ _ h3, e _ _ h4, e _ _ h5, e _ _ h6⟩
def sgI (z : Int) : Int := if z < 0 then -1 else if z = 0 then 0 else 1
theorem sgI_int (z : Int) : sgI z ≤ 0 ↔ z ≤ 0 := by
 unfold sgI
 split
 ·
  omega
 ·
  split <;> omega
theorem sgnI_int (z : Int) : sgnI (decide ((z : Rat).num < 0)) (z : Rat).num.natAbs = sgI z := by
 have e : (z : Rat).num = z := by simp
 rw [e]
 unfold sgnI sgI
 by_cases h : z < 0
 ·
  simp [h]
 ·
  by_cases h0 : z = 0
  ·
   simp [h0]
  ·
   simp [h, h0]
theorem sign_int (z : Int) (v : Value) (w : World) (h : IsRat w v (z : Rat)) : Calls Tryz.prog 38 #[v] w (RetInt (sgI z) w) := by
 obtain ⟨a5, c5, a6, c6, rfl, _, _⟩ := IsRat.opened h
 rw [← sgnI_int]
 exact sign_any _ _ _ _ _ _ _ _

def OkK (l : List Pt) (k : Nat) : Prop := ∀ k', k' < k → ∀ j, j < k' → ∀ i, i < j → 0 < crossI (ptAt l i) (ptAt l j) (ptAt l k')
def OkJ (l : List Pt) (k j : Nat) : Prop := ∀ j', j' < j → ∀ i, i < j' → 0 < crossI (ptAt l i) (ptAt l j') (ptAt l k)
def OkI (l : List Pt) (k j i : Nat) : Prop := ∀ i', i' < i → 0 < crossI (ptAt l i') (ptAt l j) (ptAt l k)
theorem OkI.step {l : List Pt} {k j i : Nat} (h : OkI l k j i) (h1 : 0 < crossI (ptAt l i) (ptAt l j) (ptAt l k)) : OkI l k j (i + 1) := fun i' hi => by
 rcases Nat.lt_or_ge i' i with h2 | h2
 ·
  exact h i' h2
 ·
  obtain rfl : i' = i := by omega
  exact h1
theorem OkJ.step {l : List Pt} {k j : Nat} (h : OkJ l k j) (h1 : OkI l k j j) : OkJ l k (j + 1) := fun j' hj => by
 rcases Nat.lt_or_ge j' j with h2 | h2
 ·
  exact h j' h2
 ·
  obtain rfl : j' = j := by omega
  exact h1
theorem OkK.step {l : List Pt} {k : Nat} (h : OkK l k) (h1 : OkJ l k k) : OkK l (k + 1) := fun k' hk => by
 rcases Nat.lt_or_ge k' k with h2 | h2
 ·
  exact h k' h2
 ·
  obtain rfl : k' = k := by omega
  exact h1

theorem outErr_size (l : List Pt) (h : l.length < 3 ∨ 16 < l.length) : outErr l = 4 := by unfold outErr; rw [if_pos h]
theorem outErr_arg (l : List Pt) (h : ¬ (l.length < 3 ∨ 16 < l.length)) (h1 : ptsOk l = false) : outErr l = 1 := by unfold outErr; rw [if_neg h, if_pos h1]
theorem outErr_ok (l : List Pt) (h : ¬ (l.length < 3 ∨ 16 < l.length)) (h1 : ptsOk l = true) (h2 : Round3 l) : outErr l = 0 := by unfold outErr; rw [if_neg h, if_neg (by rw [h1]; simp), if_pos h2]
theorem outErr_order (l : List Pt) (h : ¬ (l.length < 3 ∨ 16 < l.length)) (h1 : ptsOk l = true) (h2 : ¬ Round3 l) : outErr l = 7 := by unfold outErr; rw [if_neg h, if_neg (by rw [h1]; simp), if_neg h2]

set_option maxRecDepth 100000 in
set_option maxHeartbeats 8000000 in
theorem checkOutline_any (l : List Pt) (v : Value) (w : World) (h : PairsOf w v l) : Calls Tryz.prog 20 #[v] w (RetInt (outErr l) w) := by
 have H := Lib.hid h
 obtain ⟨ao, cap, rfl, hE⟩ := h
 have HE := Lib.hid hE
 clear hE
 by_cases c1 : l.length < 3
 ·
  have Hr := Lib.hid (outErr_size l (.inl c1))
  have t1 : decide ((l.length : Int) < 3) = true := by simp; omega
  clear c1
  go_enter Tryz.func20, Tryz.ntmps20
  go_wp2_with fail
  go_ret
  exact ⟨by rw [Hr.out]; rfl, Below.refl _ _⟩
 ·
  have t1 : decide ((l.length : Int) < 3) = false := by simp; omega
  by_cases c2 : 16 < l.length
  ·
   have Hr := Lib.hid (outErr_size l (.inr c2))
   have t2 : decide ((l.length : Int) > 16) = true := by simp; omega
   clear c1 c2
   go_enter Tryz.func20, Tryz.ntmps20
   go_wp2_with fail
   go_ret
   exact ⟨by rw [Hr.out]; rfl, Below.refl _ _⟩
  ·
   have t2 : decide ((l.length : Int) > 16) = false := by simp; omega
   have hl16 : l.length ≤ 16 := by omega
   have Hsz : Hid (¬ (l.length < 3 ∨ 16 < l.length)) := by show ¬ _; omega
   clear c1 c2
   cases hok : ptsOk l with
   | false =>
    have Hr := Lib.hid (outErr_arg l Hsz.out hok)
    have Hok := Lib.hid hok
    clear hok
    go_enter Tryz.func20, Tryz.ntmps20
    go_wp2_with fail
    refine (isRight_any l _ _ H.out (by omega)).mono ?_
    rw [Hok.out]
    rintro e w1 ⟨rfl, hb1⟩
    go_wp2_with fail
    go_ret
    exact ⟨by rw [Hr.out]; rfl, hb1⟩
   | true =>
    have Hok := Lib.hid hok
    clear hok
    go_enter Tryz.func20, Tryz.ntmps20
    go_wp2_with fail
    refine (isRight_any l _ _ H.out (by omega)).mono ?_
    rw [Hok.out]
    rintro e w1 ⟨rfl, hb1⟩
    clear t1 t2
    go_wp2_with fail
    go_loopw [19] (fun kv wr => ∃ (k : Nat), k ≤ l.length ∧ kv = .int .i64 k ∧ Hid (OkK l k) ∧ Below w.heap.size w wr) (fun kv _ => l.length - (intOf kv).toNat)
    case atStart => exact ⟨0, Nat.zero_le _, rfl, fun k' hk => absurd hk (by omega), hb1⟩
    case round =>
     clear hb1
     obtain ⟨k, hk, rfl, hK, hbel⟩ := hrel
     by_cases hlk : k < l.length
     ·
      have hlk' : (k : Int) < l.length := by omega
      generalize wr = wo at *
      go_wp2_with fail
      go_loopw [23] (fun jv wr => ∃ (j : Nat), j ≤ k ∧ jv = .int .i64 j ∧ Hid (OkJ l k j) ∧ Below w.heap.size w wr) (fun jv _ => k - (intOf jv).toNat)
      case atStart => exact ⟨0, Nat.zero_le _, rfl, fun k' hk => absurd hk (by omega), hbel⟩
      case round =>
       clear hbel
       obtain ⟨j, hj, rfl, hJ, hbel⟩ := hrel
       by_cases hlj : j < k
       ·
        have hlj' : (j : Int) < k := by omega
        generalize wr = wp at *
        go_wp2_with fail
        go_loopw [27] (fun iv wr => ∃ (i : Nat), i ≤ j ∧ iv = .int .i64 i ∧ Hid (OkI l k j i) ∧ Below w.heap.size w wr) (fun iv _ => j - (intOf iv).toNat)
        case atStart => exact ⟨0, Nat.zero_le _, rfl, fun k' hk => absurd hk (by omega), hbel⟩
        case round =>
         clear hbel
         obtain ⟨i, hi, rfl, hI, hbel⟩ := hrel
         by_cases hli : i < j
         ·
          obtain ⟨b, off, rfl, hbl, hLL⟩ := HE.out (by omega)
          obtain ⟨p0, p1⟩ := (hLL i (by omega)).below hbel hbl
          obtain ⟨p2, p3⟩ := (hLL j (by omega)).below hbel hbl
          obtain ⟨p4, p5⟩ := (hLL k (by omega)).below hbel hbl
          have hli' : (i : Int) < j := by omega
          have hil : (i : Int) < l.length := by omega
          have hjl : (j : Int) < l.length := by omega
          have hi0 : (0 : Int) ≤ i := by omega
          have hj0 : (0 : Int) ≤ j := by omega
          have hk0 : (0 : Int) ≤ k := by omega
          have hbl2 : b < wr.heap.size := Nat.lt_of_lt_of_le hbl hbel.size
          have HC : Hid (∀ W, Calls Tryz.prog 37 #[.agg #[.int .i64 (l.getD i (0, 0)).1, .int .i64 (l.getD i (0, 0)).2], .agg #[.int .i64 (l.getD j (0, 0)).1, .int .i64 (l.getD j (0, 0)).2], .agg #[.int .i64 (l.getD k (0, 0)).1, .int .i64 (l.getD k (0, 0)).2]] W (RetRat ((crossI (ptAt l i) (ptAt l j) (ptAt l k) : Int) : Rat) W)) :=
           fun W => cross_any (ptAt l i) (ptAt l j) (ptAt l k) W (ptsOk_get Hok.out i (by omega)) (ptsOk_get Hok.out j (by omega)) (ptsOk_get Hok.out k (by omega))
          have Hst : Hid (0 < crossI (ptAt l i) (ptAt l j) (ptAt l k) → OkI l k j (i + 1)) := fun h1 => hI.out.step h1
          have Hbad : Hid (¬ 0 < crossI (ptAt l i) (ptAt l j) (ptAt l k) → outErr l = 7) := fun h1 => outErr_order l Hsz.out Hok.out (fun hR => h1 (hR k hlk j hlj i hli))
          generalize crossI (ptAt l i) (ptAt l j) (ptAt l k) = z at *
          generalize (l.getD i (0, 0)).1 = ax at *
          generalize (l.getD i (0, 0)).2 = ay at *
          generalize (l.getD j (0, 0)).1 = bx at *
          generalize (l.getD j (0, 0)).2 = by' at *
          generalize (l.getD k (0, 0)).1 = cx at *
          generalize (l.getD k (0, 0)).2 = cy at *
          have Hsg := Lib.hid (sgI_int z)
          have HSI := Lib.hid (sign_int z)
          clear hLL hI hJ hK
          go_wp2_with fail
          go_region_held3 (fun w' => Below wr.heap.size wr w' ∧ w'.cell? ⟨b, off + i * 2, none⟩ = some (.int .i64 ax) ∧ w'.cell? ⟨b, off + i * 2 + 1, none⟩ = some (.int .i64 ay) ∧ w'.cell? ⟨b, off + j * 2, none⟩ = some (.int .i64 bx) ∧ w'.cell? ⟨b, off + j * 2 + 1, none⟩ = some (.int .i64 by') ∧ w'.cell? ⟨b, off + k * 2, none⟩ = some (.int .i64 cx) ∧ w'.cell? ⟨b, off + k * 2 + 1, none⟩ = some (.int .i64 cy))
           (first | exact ⟨(Below.refl _ _).drew, p0, p1, p2, p3, p4, p5⟩ | assumption | exact keepC6 (Nat.le_refl _) hbB (by assumption) | exact keepC6 (Nat.le_refl _) hbA (by assumption))
           (first
            | (go_at_call 37; refine (HC.out _).mono ?_; rintro e wA ⟨vA, rfl, hvA, hbA⟩)
            | (go_at_call 38; refine (HSI.out _ _ hvA).mono ?_; rintro e wB ⟨rfl, hbB⟩))
          rename_i hS
          have hx := ext_trans hbel hS.1
          clear hS p0 p1 p2 p3 p4 p5 hvA
          generalize sgI z = s at *
          by_cases hz : 0 < z
          ·
           have Hst2 := Lib.hid (Hst.out hz)
           have t7 : decide (s ≤ 0) = false := decide_eq_false (fun h => by have := Hsg.out.1 h; omega)
           rw [t7]
           clear hz
           go_wp2_with fail
           exact ⟨⟨i + 1, by omega, by go_num, Hst2.out, hx⟩, meas_up hli⟩
          ·
           have Hr : Hid (outErr l = 7) := Hbad.out (by omega)
           have t7 : decide (s ≤ 0) = true := decide_eq_true (Hsg.out.2 (by omega))
           rw [t7]
           clear hz
           go_wp2_with fail
           go_ret
           exact ⟨by rw [Hr.out]; rfl, hx⟩
         ·
          obtain rfl : i = j := by omega
          go_wp2_with fail
          exact ⟨⟨i + 1, by omega, by go_num, hJ.out.step hI.out, hbel⟩, meas_up hlj⟩
       ·
        obtain rfl : j = k := by omega
        go_wp2_with fail
        exact ⟨⟨j + 1, by omega, by go_num, hK.out.step hJ.out, hbel⟩, meas_up hlk⟩
     ·
      obtain rfl : k = l.length := by omega
      have Hr := Lib.hid (outErr_ok l Hsz.out Hok.out hK.out)
      go_wp2_with fail
      go_ret
      exact ⟨by rw [Hr.out]; rfl, hbel⟩

end Go.Proofs.YtofijjomfhmbjaaGreat

namespace Go.Proofs.YtofijjomfhmbjaaGreat
open Go.RowKit

def RetCut (l : List (Int × Int)) (w : World) (e : Ending) (w' : World) : Prop := e = .returned (.tuple #[.agg #[.int .i64 (cutX l), .int .i64 (cutY l)], .int .i64 (outErr l)]) ∧ Below w.heap.size w w'

theorem setC2 {w : World} {g : Nat} {e : TypeId} {a b x y : Value} (h : w.heap[g]? = some (.cells #[a, b] e (0, 0))) : ((w.setCell ⟨g, 0, none⟩ x).setCell ⟨g, 1, none⟩ y).heap[g]? = some (.cells #[x, y] e (0, 0)) := by
 rw [heap_setN (heap_setN h 0 x) 1 y]
 rfl
theorem setC2o {w : World} {g k : Nat} {x y : Value} {o : Obj} (h : w.heap[k]? = some o) (hne : k ≠ g) : ((w.setCell ⟨g, 0, none⟩ x).setCell ⟨g, 1, none⟩ y).heap[k]? = some o := by
 rw [heap_setCell_other _ _ _ _ hne, heap_setCell_other _ _ _ _ hne]
 exact h

set_option maxRecDepth 100000 in
set_option maxHeartbeats 8000000 in
theorem lcut_any (l : List (Int × Int)) (v : Value) (w : World) (hv : PairsOf w v l) : Calls Tryz.prog 5 #[v] w (RetCut l w) := by
 have HV := Lib.hid hv
 obtain ⟨ao, cap, rfl, hE⟩ := hv
 have HE := Lib.hid hE
 have hB0 := blk_new w #[.int .i64 0, .int .i64 0] 26
 have hal0 := (Below.refl w.heap.size w).alloc (Nat.le_refl _) (.cells #[.int .i64 0, .int .i64 0] 26)
 have hC := checkOutline_any l _ _ (HV.out.below hal0)
 clear hE
 by_cases hz : outErr l = 0
 ·
  have HZ := Lib.hid hz
  have hl3 := (outErr_zero hz).1
  have HPT : Hid (∀ i, i < l.length → (-4398046511104 ≤ (l.getD i (0, 0)).1 ∧ (l.getD i (0, 0)).1 ≤ 4398046511104) ∧ -4398046511104 ≤ (l.getD i (0, 0)).2 ∧ (l.getD i (0, 0)).2 ≤ 4398046511104) := fun i hi => outErr_pt hz i hi
  have HX : Hid (cutX l = hiF (fun i => (l.getD i (0, 0)).1) l.length - loF (fun i => (l.getD i (0, 0)).1) l.length) := by show _ = _; unfold cutX; rw [if_pos hz]
  have HY : Hid (cutY l = hiF (fun i => (l.getD i (0, 0)).2) l.length - loF (fun i => (l.getD i (0, 0)).2) l.length) := by show _ = _; unfold cutY; rw [if_pos hz]
  clear hz
  go_enter Tryz.func5, Tryz.ntmps5
  go_wp2_with fail
  refine hC.mono ?_
  rw [HZ.out]
  rintro e w1 ⟨rfl, hb1⟩
  have HB1 : Hid (w1.heap[w.heap.size]? = some (.cells #[.int .i64 0, .int .i64 0] 26 (0, 0))) := blk_keep hB0 hb1 (blk_lt hB0)
  have hx1 := ext_trans hal0 hb1
  obtain ⟨b, off, rfl, hbl, hEE⟩ := HE.out (by omega)
  obtain ⟨g0, g1⟩ := (hEE 0 (by omega)).below hx1 hbl
  rw [Nat.zero_mul, Nat.add_zero] at g0 g1
  have hl0 : (0 : Int) < l.length := by omega
  have hl0n : 0 < l.length := by omega
  have hlne : ¬ l = [] := fun h => by rw [h] at hl0n; exact absurd hl0n (by simp)
  have hbl1 : b < w1.heap.size := Nat.lt_of_lt_of_le hbl hx1.size
  clear hEE hB0 hal0 hb1 hC
  go_upto_region 4 with fail
  go_cut [5, 6] (fun lv hv wx => ∃ gl gh : Nat, lv = .pointer (some ⟨gl, 0, none⟩) ∧ hv = .pointer (some ⟨gh, 0, none⟩) ∧ gl ≠ gh ∧ Hid (wx.heap[gl]? = some (.cells #[.int .i64 (l.getD 0 (0, 0)).1, .int .i64 (l.getD 0 (0, 0)).2] 45 (0, 0))) ∧ Hid (wx.heap[gh]? = some (.cells #[.int .i64 (l.getD 0 (0, 0)).1, .int .i64 (l.getD 0 (0, 0)).2] 45 (0, 0))) ∧ w1.heap.size ≤ gl ∧ w1.heap.size ≤ gh ∧ Below w1.heap.size w1 wx)
  case first =>
   generalize (l.getD 0 (0, 0)).1 = x at *
   generalize (l.getD 0 (0, 0)).2 = y at *
   have hN := blk_new w1 #[.int .i64 x, .int .i64 y] 45
   have HA : Hid (((w1.alloc (.cells #[.int .i64 x, .int .i64 y] 45)).alloc (.cells #[.int .i64 x, .int .i64 y] 45)).drew.heap[w1.heap.size]? = some (.cells #[.int .i64 x, .int .i64 y] 45 (0, 0))) := blk_keep hN ((Below.refl _ _).alloc (Nat.le_refl _) (.cells #[.int .i64 x, .int .i64 y] 45)).drew (blk_lt hN)
   have HB : Hid (((w1.alloc (.cells #[.int .i64 x, .int .i64 y] 45)).alloc (.cells #[.int .i64 x, .int .i64 y] 45)).drew.heap[w1.heap.size + 1]? = some (.cells #[.int .i64 x, .int .i64 y] 45 (0, 0))) := by
    have h := blk_new (w1.alloc (.cells #[.int .i64 x, .int .i64 y] 45)) #[.int .i64 x, .int .i64 y] 45
    rw [World.size_alloc] at h
    exact h
   have HXX : Hid (Below w1.heap.size w1 ((w1.alloc (.cells #[.int .i64 x, .int .i64 y] 45)).alloc (.cells #[.int .i64 x, .int .i64 y] 45)).drew) := by
    have h1 := (Below.refl w1.heap.size w1).alloc (Nat.le_refl _) (.cells #[.int .i64 x, .int .i64 y] 45)
    exact (h1.alloc h1.size (.cells #[.int .i64 x, .int .i64 y] 45)).drew
   clear hN
   go_region_held3 (fun w' => w'.cell? ⟨b, off, none⟩ = some (.int .i64 x) ∧ w'.cell? ⟨b, off + 1, none⟩ = some (.int .i64 y)) (first | exact ⟨g0, g1⟩ | assumption | go_keep) (fail)
   all_goals
    go_wp2_with fail
    go_meet
    case rel => first | exact ⟨_, _, rfl, rfl, by omega, HA, HB, by omega, by omega, HXX.out⟩ | exact ⟨_, _, rfl, rfl, by omega, HB, HA, by omega, by omega, HXX.out⟩
  case rest =>
   obtain ⟨gl, gh, rfl, rfl, hne, HL, HH, h1, h2, hbel⟩ := hcut
   have hne2 : gh ≠ gl := fun h => hne h.symm
   go_wp2_with fail
   go_loopw [23] (fun iv wr => ∃ i : Nat, i ≤ l.length ∧ iv = .int .i64 i ∧ Hid (wr.heap[gl]? = some (.cells #[.int .i64 (loF (fun i => (l.getD i (0, 0)).1) i), .int .i64 (loF (fun i => (l.getD i (0, 0)).2) i)] 45 (0, 0))) ∧ Hid (wr.heap[gh]? = some (.cells #[.int .i64 (hiF (fun i => (l.getD i (0, 0)).1) i), .int .i64 (hiF (fun i => (l.getD i (0, 0)).2) i)] 45 (0, 0))) ∧ Below w1.heap.size w1 wr)
    (fun iv _ => l.length - (intOf iv).toNat)
   case atStart => exact ⟨0, Nat.zero_le _, rfl, HL, HH, hbel⟩
   case round =>
    clear HL HH hbel g0 g1
    obtain ⟨i, hi, rfl, HL, HH, hbel⟩ := hrel
    by_cases hlt : i < l.length
    ·
     obtain ⟨b', off', hq, _, hEE⟩ := HE.out (by omega)
     simp only [Option.some.injEq, Addr.mk.injEq] at hq
     obtain ⟨rfl, rfl, _⟩ := hq
     have hxw := hx1.trans (hbel.mono hx1.size)
     obtain ⟨g0, g1⟩ := (hEE i hlt).below hxw hbl
     have hlt' : (i : Int) < l.length := by omega
     have hge' : (0 : Int) ≤ i := by omega
     have hbl2 : b < wr.heap.size := Nat.lt_of_lt_of_le hbl hxw.size
     have HL1 : Hid (loF (fun i => (l.getD i (0, 0)).1) (i + 1) = min (loF (fun i => (l.getD i (0, 0)).1) i) (l.getD i (0, 0)).1 ∧ loF (fun i => (l.getD i (0, 0)).2) (i + 1) = min (loF (fun i => (l.getD i (0, 0)).2) i) (l.getD i (0, 0)).2) := ⟨rfl, rfl⟩
     have HH1 : Hid (hiF (fun i => (l.getD i (0, 0)).1) (i + 1) = max (hiF (fun i => (l.getD i (0, 0)).1) i) (l.getD i (0, 0)).1 ∧ hiF (fun i => (l.getD i (0, 0)).2) (i + 1) = max (hiF (fun i => (l.getD i (0, 0)).2) i) (l.getD i (0, 0)).2) := ⟨rfl, rfl⟩
     clear hEE
     generalize loF (fun i => (l.getD i (0, 0)).1) i = lx at *
     generalize loF (fun i => (l.getD i (0, 0)).2) i = ly at *
     generalize hiF (fun i => (l.getD i (0, 0)).1) i = hx at *
     generalize hiF (fun i => (l.getD i (0, 0)).2) i = hy at *
     generalize (l.getD i (0, 0)).1 = x at *
     generalize (l.getD i (0, 0)).2 = y at *
     have hN := blk_new wr #[.int .i64 x, .int .i64 y] 45
     have hal := (Below.refl wr.heap.size wr).alloc (Nat.le_refl _) (.cells #[.int .i64 x, .int .i64 y] 45)
     have hLn := blk_keep HL.out hal (blk_lt HL.out)
     have hHn := blk_keep HH.out hal (blk_lt HH.out)
     have hx1 := hbel.alloc hbel.size (.cells #[.int .i64 x, .int .i64 y] 45)
     have n0 := blk_cell hN 0 (.int .i64 x) rfl
     have n1 := blk_cell hN 1 (.int .i64 y) rfl
     have l0 := blk_cell hLn 0 (.int .i64 lx) rfl
     have l1 := blk_cell hLn 1 (.int .i64 ly) rfl
     have f0 := blk_frozen hLn 0
     have f1 := blk_frozen hLn 1
     go_upto_region 9 with fail
     have hL2 := setC2 (x := .int .i64 (min lx x)) (y := .int .i64 (min ly y)) hLn
     have hH2 := setC2o (g := gl) (x := .int .i64 (min lx x)) (y := .int .i64 (min ly y)) hHn hne2
     have hN2 := setC2o (g := gl) (x := .int .i64 (min lx x)) (y := .int .i64 (min ly y)) hN (by have := blk_lt HL.out; omega)
     have hx2 := (hx1.setCell (p := ⟨gl, 0, none⟩) h1 (.int .i64 (min lx x))).setCell (p := ⟨gl, 1, none⟩) h1 (.int .i64 (min ly y))
     clear n0 n1 l0 l1 f0 f1 hLn hHn hN hal hx1 g0 g1
     generalize hPP : wr.heap.size = PP at *
     generalize (((wr.alloc (.cells #[.int .i64 x, .int .i64 y] 45)).setCell ⟨gl, 0, none⟩ (.int .i64 (min lx x))).setCell ⟨gl, 1, none⟩ (.int .i64 (min ly y))) = W2 at *
     have n0 := blk_cell hN2 0 (.int .i64 x) rfl
     have n1 := blk_cell hN2 1 (.int .i64 y) rfl
     have l0 := blk_cell hH2 0 (.int .i64 hx) rfl
     have l1 := blk_cell hH2 1 (.int .i64 hy) rfl
     have f0 := blk_frozen hH2 0
     have f1 := blk_frozen hH2 1
     have hL3 := setC2o (g := gh) (x := .int .i64 (max hx x)) (y := .int .i64 (max hy y)) hL2 hne
     have hH3 := setC2 (x := .int .i64 (max hx x)) (y := .int .i64 (max hy y)) hH2
     have hx3 := (hx2.setCell (p := ⟨gh, 0, none⟩) h2 (.int .i64 (max hx x))).setCell (p := ⟨gh, 1, none⟩) h2 (.int .i64 (max hy y))
     go_wp2_with fail
     exact ⟨⟨i + 1, by omega, by go_num, by rw [HL1.out.1, HL1.out.2]; exact hL3, by rw [HH1.out.1, HH1.out.2]; exact hH3, hx3⟩, meas_up hlt⟩
    ·
     obtain rfl : i = l.length := by omega
     have hxw := hx1.trans (hbel.mono hx1.size)
     have hRB := blk_keep HB1.out hbel (blk_lt HB1.out)
     have r0 := blk_cell hRB 0 (.int .i64 0) rfl
     have r1 := blk_cell hRB 1 (.int .i64 0) rfl
     have q0 := blk_frozen hRB 0
     have q1 := blk_frozen hRB 1
     have hlx := loF_range (f := fun i => (l.getD i (0, 0)).1) (n := l.length) (A := 4398046511104) (by omega) (fun i hi => (HPT.out i hi).1) _ (Nat.le_refl _)
     have hly := loF_range (f := fun i => (l.getD i (0, 0)).2) (n := l.length) (A := 4398046511104) (by omega) (fun i hi => (HPT.out i hi).2) _ (Nat.le_refl _)
     have hhx := hiF_range (f := fun i => (l.getD i (0, 0)).1) (n := l.length) (A := 4398046511104) (by omega) (fun i hi => (HPT.out i hi).1) _ (Nat.le_refl _)
     have hhy := hiF_range (f := fun i => (l.getD i (0, 0)).2) (n := l.length) (A := 4398046511104) (by omega) (fun i hi => (HPT.out i hi).2) _ (Nat.le_refl _)
     generalize loF (fun i => (l.getD i (0, 0)).1) l.length = lx at *
     generalize loF (fun i => (l.getD i (0, 0)).2) l.length = ly at *
     generalize hiF (fun i => (l.getD i (0, 0)).1) l.length = hx at *
     generalize hiF (fun i => (l.getD i (0, 0)).2) l.length = hy at *
     have l0 := blk_cell HL.out 0 (.int .i64 lx) rfl
     have l1 := blk_cell HL.out 1 (.int .i64 ly) rfl
     have m0 := blk_cell HH.out 0 (.int .i64 hx) rfl
     have m1 := blk_cell HH.out 1 (.int .i64 hy) rfl
     have hw1 : IntKind.i64.wrap (hx - lx) = hx - lx := IntWalk.i64_in _ (by omega)
     have hw2 : IntKind.i64.wrap (hy - ly) = hy - ly := IntWalk.i64_in _ (by omega)
     have hR2 := setC2 (x := .int .i64 (hx - lx)) (y := .int .i64 (hy - ly)) hRB
     have hxe := (hxw.setCell (p := ⟨w.heap.size, 0, none⟩) (Nat.le_refl _) (.int .i64 (hx - lx))).setCell (p := ⟨w.heap.size, 1, none⟩) (Nat.le_refl _) (.int .i64 (hy - ly))
     have s0 := blk_cell hR2 0 (.int .i64 (hx - lx)) rfl
     have s1 := blk_cell hR2 1 (.int .i64 (hy - ly)) rfl
     go_wp2_with fail
     refine bodyPost_ret (v := .tuple #[.agg #[.int .i64 (hx - lx), .int .i64 (hy - ly)], .int .i64 0]) (by simp [results, Tryz.results5, go_sem, s0, s1]) rfl ⟨by rw [HX.out, HY.out, HZ.out], hxe⟩
 ·
  have te : (outErr l != 0) = true := bne_iff_ne.2 hz
  have HX : Hid (cutX l = 0) := by show _ = _; unfold cutX; rw [if_neg hz]
  have HY : Hid (cutY l = 0) := by show _ = _; unfold cutY; rw [if_neg hz]
  generalize hER : outErr l = er at *
  have HER := Lib.hid hER
  clear hz hER
  go_enter Tryz.func5, Tryz.ntmps5
  go_wp2_with fail
  refine hC.mono ?_
  rintro e w1 ⟨rfl, hb1⟩
  have hB1 := blk_keep hB0 hb1 (blk_lt hB0)
  have hx1 := ext_trans hal0 hb1
  have r0 := blk_cell hB1 0 (.int .i64 0) rfl
  have r1 := blk_cell hB1 1 (.int .i64 0) rfl
  have q0 := blk_frozen hB1 0
  have q1 := blk_frozen hB1 1
  have hR2 := setC2 (x := .int .i64 0) (y := .int .i64 0) hB1
  have s0 := blk_cell hR2 0 (.int .i64 0) rfl
  have s1 := blk_cell hR2 1 (.int .i64 0) rfl
  have hxe := (hx1.setCell (p := ⟨w.heap.size, 0, none⟩) (Nat.le_refl _) (.int .i64 0)).setCell (p := ⟨w.heap.size, 1, none⟩) (Nat.le_refl _) (.int .i64 0)
  go_wp2_with fail
  refine bodyPost_ret (v := .tuple #[.agg #[.int .i64 0, .int .i64 0], .int .i64 er]) (by simp [results, Tryz.results5, go_sem, s0, s1]) rfl ⟨by rw [HX.out, HY.out, HER.out], hxe⟩

end Go.Proofs.YtofijjomfhmbjaaGreat

namespace Go.Proofs.YtofijjomfhmbjaaGreat
open Go.RowKit

def SumBox (W0 : World) (q : Rat) (s : Value) (wx : World) : Prop :=
 ∃ (N : Nat) (b : Bool) (x : Option Addr) (i j : Nat) (y : Option Addr) (k l : Nat) (T : TypeId), s = .pointer (some ⟨N, 0, none⟩) ∧ W0.heap.size ≤ N ∧ Below W0.heap.size W0 wx ∧ wx.heap[N]? = some (.cells #[.bool b, .slice x i j, .slice y k l] T (0, 0)) ∧ IsRat wx (.agg #[.bool b, .slice x i j, .slice y k l]) q
theorem boxkeep {W w' : World} {cs : Array Value} {T : TypeId} (hb : Below (W.alloc (.cells cs T)).heap.size (W.alloc (.cells cs T)) w') : w'.heap[W.heap.size]? = some (.cells cs T (0, 0)) := blk_keep (blk_new W cs T) hb (by simp)
theorem boxkeepD {W w' : World} {cs : Array Value} {T : TypeId} (hb : Below (W.alloc (.cells cs T)).drew.heap.size (W.alloc (.cells cs T)).drew w') : w'.heap[W.heap.size]? = some (.cells cs T (0, 0)) := boxkeep (W := W) (cs := cs) (T := T) (w' := w') ⟨hb.os, hb.tape, hb.output, hb.size, hb.block⟩
theorem SumBox.of_alloc {W0 wB : World} {q : Rat} {b : Bool} {x y : Option Addr} {i j k l : Nat} {T : TypeId} (hb : Below W0.heap.size W0 (wB.alloc (.cells #[.bool b, .slice x i j, .slice y k l] T))) (hN : W0.heap.size ≤ wB.heap.size) (hv : IsRat wB (.agg #[.bool b, .slice x i j, .slice y k l]) q) :
  SumBox W0 q (.pointer (some ⟨wB.heap.size, 0, none⟩)) (wB.alloc (.cells #[.bool b, .slice x i j, .slice y k l] T)) :=
 ⟨_, b, x, i, j, y, k, l, T, rfl, hN, hb, blk_new _ _ _, hv.below ((Below.refl _ _).alloc (Nat.le_refl _) _)⟩
theorem SumBox.of_set {W0 wB : World} {q : Rat} {N : Nat} {b b0 : Bool} {x y x0 y0 : Option Addr} {i j k l i0 j0 k0 l0 : Nat} {T : TypeId} (hb : Below W0.heap.size W0 (((wB.setCell ⟨N, 0, none⟩ (.bool b)).setCell ⟨N, 1, none⟩ (.slice x i j)).setCell ⟨N, 2, none⟩ (.slice y k l))) (hN : W0.heap.size ≤ N) (hB : wB.heap[N]? = some (.cells #[.bool b0, .slice x0 i0 j0, .slice y0 k0 l0] T (0, 0))) (hv : IsRat wB (.agg #[.bool b, .slice x i j, .slice y k l]) q) :
  SumBox W0 q (.pointer (some ⟨N, 0, none⟩)) (((wB.setCell ⟨N, 0, none⟩ (.bool b)).setCell ⟨N, 1, none⟩ (.slice x i j)).setCell ⟨N, 2, none⟩ (.slice y k l)) := by
 obtain ⟨vn, vd, e, h1, h2⟩ := hv
 simp only [Value.agg.injEq, Array.mk.injEq, List.cons.injEq, Value.bool.injEq, and_true] at e
 obtain ⟨rfl, rfl, rfl⟩ := e
 exact ⟨N, _, x, i, j, y, k, l, T, rfl, hN, hb, by exact blk_set (blk_set (blk_set hB 0 _) 1 _) 2 _, ⟨_, _, rfl, store3 hB h1, store3 hB h2⟩⟩
set_option maxRecDepth 100000 in
set_option maxHeartbeats 2000000 in
theorem divRat_any (x y : Rat) (vx vy : Value) (w : World) (hx : IsRat w vx x) (hy : IsRat w vy y) (hlx : szR x 68719476736) (hly : szR y 68719476736) (hy0 : y.num.natAbs ≠ 0) : Calls Tryz.prog 72 #[vx, vy] w (RetRatE (x / y) 0 w) := by
 obtain ⟨a1, c1, a2, c2, rfl, n1, n2⟩ := hx.opened
 obtain ⟨a3, c3, a4, c4, rfl, n3, n4⟩ := hy.opened
 have HX := Lib.hid hx
 have HY := Lib.hid hy
 have HLX := Lib.hid hlx
 have HLY := Lib.hid hly
 have H0 := Lib.hid hy0
 have t0 : decide (y.num.natAbs = 0) = false := decide_eq_false hy0
 clear hx hy n1 n2 n3 n4 hlx hly hy0
 go_enter Tryz.func72, Tryz.ntmps72
 go_wp2_with fail
 generalize hW0 : ((w.alloc (.cells #[.bool (decide (x.num < 0)), .slice a1 (dig b64 x.num.natAbs).length c1, .slice a2 (dig b64 (dn x.den)).length c2] 54)).alloc (.cells #[.bool (decide (y.num < 0)), .slice a3 (dig b64 y.num.natAbs).length c3, .slice a4 (dig b64 (dn y.den)).length c4] 54)).alloc (.cells #[.bool false, .slice none 0 0, .slice none 0 0] 54) = W at *
 obtain ⟨hal, hB1, hB2, hB3⟩ := boxes3 w _ _ _ _ W hW0.symm
 clear hW0
 refine (zero_any _ _ y.num.natAbs _ _ _ _ _).mono ?_
 rw [t0]
 rintro e w1 ⟨rfl, hb1⟩
 have hB11 := blk_keep hB1 hb1 (blk_lt hB1)
 have hB21 := blk_keep hB2 hb1 (blk_lt hB2)
 have hB31 := blk_keep hB3 hb1 (blk_lt hB3)
 have hx1 := ext_trans hal hb1
 have p0 := blk_cell hB11 0 (.bool (decide (x.num < 0))) rfl
 have p1 := blk_cell hB11 1 (.slice a1 (dig b64 x.num.natAbs).length c1) rfl
 have p2 := blk_cell hB11 2 (.slice a2 (dig b64 (dn x.den)).length c2) rfl
 have r0 := blk_cell hB21 0 (.bool (decide (y.num < 0))) rfl
 have r1 := blk_cell hB21 1 (.slice a3 (dig b64 y.num.natAbs).length c3) rfl
 have r2 := blk_cell hB21 2 (.slice a4 (dig b64 (dn y.den)).length c4) rfl
 have HB : Hid (RB w1 (w.heap.size + 2)) := ⟨false, none, 0, 0, none, 0, 0, _, hB31⟩
 have hl3 := blk_lt hB31
 clear hB1 hB2 hB3 hB11 hB21 hB31 hb1 hal
 go_wp2_with fail
 refine (byRat_any x y _ _ _ (HX.out.below hx1) (HY.out.below hx1) HLX.out HLY.out H0.out).mono ?_
 rintro e w3 ⟨v, rfl, hv, hb⟩
 have hRB := HB.out.keep hb hl3
 obtain ⟨a5, c5, a6, c6, rfl, n5, n6⟩ := IsRat.opened hv
 have hx := ext_trans hx1 hb
 obtain ⟨g0, g1, g2, f0', f1', f2'⟩ := hRB.cell
 have hBl := hRB.lt
 generalize x / y = q at *
 clear hv hb hx1 p0 p1 p2 r0 r1 r2
 go_wp2_with fail
 refine bodyPost_ret (v := .tuple #[.agg #[.bool (decide (q.num < 0)), .slice a5 (dig b64 q.num.natAbs).length _, .slice a6 (dig b64 (dn q.den)).length _], .int .i64 0]) (by simp [results, Tryz.results72, go_sem, g0, g1, g2]; first | done | exact ⟨⟨rfl, rfl⟩, rfl⟩ | exact ⟨rfl, rfl⟩ | rfl) rfl ⟨_, rfl, ?_, below_store3 hx (by omega)⟩
 exact IsRat.stored hRB n5 n6 rfl rfl

theorem keepB3c {n : Nat} {W a b : World} {A0 A1 A2 : Addr} {v0 v1 v2 : Value} (hn : n ≤ W.heap.size) (hb : Below a.heap.size a b) (h : Below n W a ∧ a.cell? A0 = some v0 ∧ a.cell? A1 = some v1 ∧ a.cell? A2 = some v2) :
  Below n W b ∧ b.cell? A0 = some v0 ∧ b.cell? A1 = some v1 ∧ b.cell? A2 = some v2 := by
 obtain ⟨h0, h1, h2, h3⟩ := h
 have e : ∀ A v, a.cell? A = some v → b.cell? A = some v := fun A v h => (hb.cell (World.block_lt_of_cell? (h := h))).trans h
 have := h0.size
 exact ⟨h0.trans (hb.mono (by omega)), e _ _ h1, e _ _ h2, e _ _ h3⟩
theorem keepB3s {n : Nat} {W a : World} {N B1 j0 j1 j2 : Nat} {v0 v1 v2 u0 u1 u2 : Value} (hn : n ≤ N) (h1 : B1 ≠ N) (h : Below n W a ∧ a.cell? ⟨B1, j0, none⟩ = some v0 ∧ a.cell? ⟨B1, j1, none⟩ = some v1 ∧ a.cell? ⟨B1, j2, none⟩ = some v2) (b : World)
  (hb : b = ((a.setCell ⟨N, 0, none⟩ u0).setCell ⟨N, 1, none⟩ u1).setCell ⟨N, 2, none⟩ u2) : Below n W b ∧ b.cell? ⟨B1, j0, none⟩ = some v0 ∧ b.cell? ⟨B1, j1, none⟩ = some v1 ∧ b.cell? ⟨B1, j2, none⟩ = some v2 := by
 subst hb
 have e : ∀ B j v, B ≠ N → a.cell? ⟨B, j, none⟩ = some v → (((a.setCell ⟨N, 0, none⟩ u0).setCell ⟨N, 1, none⟩ u1).setCell ⟨N, 2, none⟩ u2).cell? ⟨B, j, none⟩ = some v := fun B j v hne h => by
  rw [World.cell?_setCell_other, World.cell?_setCell_other, World.cell?_setCell_other, h]
  all_goals intro e; cases e; exact hne rfl
 obtain ⟨h0, k0, k1, k2⟩ := h
 exact ⟨below_store3 h0 hn, e _ _ _ h1 k0, e _ _ _ h1 k1, e _ _ _ h1 k2⟩
theorem keepB3a {n : Nat} {W a : World} {o o' : Obj} {B1 j0 j1 j2 : Nat} {v0 v1 v2 : Value} (hn : n ≤ a.heap.size) (h1 : B1 < a.heap.size) (h : Below n W (a.alloc o) ∧ (a.alloc o).cell? ⟨B1, j0, none⟩ = some v0 ∧ (a.alloc o).cell? ⟨B1, j1, none⟩ = some v1 ∧ (a.alloc o).cell? ⟨B1, j2, none⟩ = some v2) :
  Below n W (a.alloc o') ∧ (a.alloc o').cell? ⟨B1, j0, none⟩ = some v0 ∧ (a.alloc o').cell? ⟨B1, j1, none⟩ = some v1 ∧ (a.alloc o').cell? ⟨B1, j2, none⟩ = some v2 := by
 have e : ∀ B j v, B < a.heap.size → (a.alloc o).cell? ⟨B, j, none⟩ = some v → (a.alloc o').cell? ⟨B, j, none⟩ = some v := fun B j v hB h => by
  rw [← h]
  exact World.cell?_of_block (a := ⟨B, j, none⟩) ((heap_alloc_old a o' hB).trans (heap_alloc_old a o hB).symm)
 obtain ⟨h0, k0, k1, k2⟩ := h
 exact ⟨⟨h0.os, h0.tape, h0.output, by have := h0.size; simp at this ⊢; exact this, fun k hk => ((heap_alloc_old a o' (by omega)).trans (heap_alloc_old a o (by omega)).symm).trans (h0.block k hk)⟩, e _ _ _ h1 k0, e _ _ _ h1 k1, e _ _ _ h1 k2⟩

set_option maxRecDepth 100000 in
set_option maxHeartbeats 4000000 in
theorem half_any (x : Rat) (vx : Value) (w : World) (hx : IsRat w vx x) (hlx : szR x 68719476736) : Calls Tryz.prog 48 #[vx] w (RetRat (x / 2) w) := by
 obtain ⟨a1, c1, a2, c2, rfl, n1, n2⟩ := hx.opened
 have HX := Lib.hid hx
 have HLX := Lib.hid hlx
 have HS2 := Lib.hid (i64_szR 2 (by omega) (by omega) 68719476736 (by omega))
 have H20 : Hid ((((2 : Int) : Rat)).num.natAbs ≠ 0) := by show _ ≠ _; simp
 have HN2 : Hid (∀ W, Calls Tryz.prog 49 #[.int .i64 2] W (RetRat (((2 : Int) : Rat)) W)) := fun W => lwhole_any 2 W (by omega) (by omega)
 have He : Hid (x / (((2 : Int) : Rat)) = x / 2) := rfl
 have HD : Hid (∀ v W, IsRat W (.agg #[.bool (decide (x.num < 0)), .slice a1 (dig b64 x.num.natAbs).length c1, .slice a2 (dig b64 (dn x.den)).length c2]) x → IsRat W v (((2 : Int) : Rat)) → Calls Tryz.prog 72 #[.agg #[.bool (decide (x.num < 0)), .slice a1 (dig b64 x.num.natAbs).length c1, .slice a2 (dig b64 (dn x.den)).length c2], v] W (RetRatE (x / 2) 0 W)) := fun v W h1 h2 => by
  have := divRat_any x (((2 : Int) : Rat)) _ v W h1 h2 HLX.out HS2.out H20.out
  rw [He.out] at this
  exact this
 clear hx n1 n2 hlx H20 HS2 He HLX
 go_enter Tryz.func48, Tryz.ntmps48
 go_wp2_with fail
 generalize hsx : decide (x.num < 0) = sx at *
 clear hsx
 have hB1 := blk_new w #[.bool sx, .slice a1 (dig b64 x.num.natAbs).length c1, .slice a2 (dig b64 (dn x.den)).length c2] 54
 have hA1 := (Below.refl w.heap.size w).alloc (Nat.le_refl _) (.cells #[.bool sx, .slice a1 (dig b64 x.num.natAbs).length c1, .slice a2 (dig b64 (dn x.den)).length c2] 54)
 have hB2 := blk_new (w.alloc (.cells #[.bool sx, .slice a1 (dig b64 x.num.natAbs).length c1, .slice a2 (dig b64 (dn x.den)).length c2] 54)) #[.bool false, .slice none 0 0, .slice none 0 0] 54
 rw [World.size_alloc] at hB2
 have hB12 := blk_keep hB1 ((Below.refl _ _).alloc (Nat.le_refl _) (.cells #[.bool false, .slice none 0 0, .slice none 0 0] 54)) (blk_lt hB1)
 have hA2 := hA1.alloc hA1.size (.cells #[.bool false, .slice none 0 0, .slice none 0 0] 54)
 generalize (w.alloc (.cells #[.bool sx, .slice a1 (dig b64 x.num.natAbs).length c1, .slice a2 (dig b64 (dn x.den)).length c2] 54)).alloc (.cells #[.bool false, .slice none 0 0, .slice none 0 0] 54) = W10 at *
 have HB : Hid (RB W10 (w.heap.size + 1)) := ⟨false, none, 0, 0, none, 0, 0, _, hB2⟩
 have hl1 := blk_lt hB12
 have hl2 := blk_lt hB2
 have HX10 := Lib.hid (HX.out.below hA2)
 have hZZ := (Below.refl W10.heap.size W10).alloc (Nat.le_refl _) (.cells #[.bool false, .slice none 0 0, .slice none 0 0] 54)
 have c1' : W10.drew.cell? ⟨w.heap.size, 0, none⟩ = some (.bool sx) := blk_cell hB12 0 _ rfl
 have c2' : W10.drew.cell? ⟨w.heap.size, 1, none⟩ = some (.slice a1 (dig b64 x.num.natAbs).length c1) := blk_cell hB12 1 _ rfl
 have c3' : W10.drew.cell? ⟨w.heap.size, 2, none⟩ = some (.slice a2 (dig b64 (dn x.den)).length c2) := blk_cell hB12 2 _ rfl
 have d1' : (W10.alloc (.cells #[.bool false, .slice none 0 0, .slice none 0 0] 54)).drew.cell? ⟨w.heap.size, 0, none⟩ = some (.bool sx) := blk_cell (blk_keep hB12 hZZ hl1) 0 _ rfl
 have d2' : (W10.alloc (.cells #[.bool false, .slice none 0 0, .slice none 0 0] 54)).drew.cell? ⟨w.heap.size, 1, none⟩ = some (.slice a1 (dig b64 x.num.natAbs).length c1) := blk_cell (blk_keep hB12 hZZ hl1) 1 _ rfl
 have d3' : (W10.alloc (.cells #[.bool false, .slice none 0 0, .slice none 0 0] 54)).drew.cell? ⟨w.heap.size, 2, none⟩ = some (.slice a2 (dig b64 (dn x.den)).length c2) := blk_cell (blk_keep hB12 hZZ hl1) 2 _ rfl
 have hds : W10.drew.heap.size = W10.heap.size := rfl
 have HDS := Lib.hid hds
 clear hds hZZ hB1 hB2 hA1 HX
 go_cut [3] from 3 to 10 (fun s wx => SumBox W10 (x / 2) s wx)
 case first =>
  go_region_held3 (fun w' => Below W10.heap.size W10 w' ∧ w'.cell? ⟨w.heap.size, 0, none⟩ = some (.bool sx) ∧ w'.cell? ⟨w.heap.size, 1, none⟩ = some (.slice a1 (dig b64 x.num.natAbs).length c1) ∧ w'.cell? ⟨w.heap.size, 2, none⟩ = some (.slice a2 (dig b64 (dn x.den)).length c2))
   (first | exact ⟨(Below.refl _ _).drew, c1', c2', c3'⟩ | exact ⟨((Below.refl _ _).alloc (Nat.le_refl _) _).drew, d1', d2', d3'⟩ | assumption | (refine keepB3c (Nat.le_refl _) hbB ?_; assumption) | (refine keepB3c (Nat.le_refl _) hbA ?_; assumption) | (refine keepB3c (Nat.le_refl _) ((Below.refl _ _).alloc (Nat.le_refl _) _) ?_; assumption) | exact keepB3a hWB (by omega) (by assumption) | (refine keepB3s hNN (by omega) (by assumption) _ rfl))
   (first
    | (go_at_call 49; refine (HN2.out _).mono ?_; rintro e wA ⟨vN, rfl, hvN, hbA⟩; obtain ⟨a7, k7, a8, k8, rfl, _, _⟩ := hvN.opened; have HVN := Lib.hid hvN; (first | (with_reducible have HNA := Lib.hid (boxkeepD hbA)) | (with_reducible have HNA := Lib.hid (boxkeep hbA)) | skip); clear hvN)
    | (go_at_call 72; (refine (HD.out _ _ (HX10.out.below (And.left (by assumption))) (by first | exact HVN.out | exact HVN.out.below ((Below.refl _ _).alloc (Nat.le_refl _) _))).mono ?_); rintro e wB ⟨vS, rfl, hvS, hbB⟩; obtain ⟨a9, k9, a10, k10, rfl, _, _⟩ := hvS.opened; have HVS := Lib.hid hvS; clear hvS; (have hWB : W10.heap.size ≤ wB.heap.size := by have q1 := hbA.size; have q2 := hbB.size; simp at q1 q2; omega); (first | ((with_reducible have hNB := boxkeep hbB); have hNN : W10.heap.size ≤ wA.heap.size := hbA.size) | (have hNB := blk_keep HNA.out hbB (blk_lt HNA.out); have hNN : W10.heap.size ≤ W10.heap.size := Nat.le_refl _) | skip); (try (have n0 := blk_cell hNB 0 _ rfl; have n1 := blk_cell hNB 1 _ rfl; have n2 := blk_cell hNB 2 _ rfl; have f0 := blk_frozen hNB 0; have f1 := blk_frozen hNB 1; have f2 := blk_frozen hNB 2))))
  all_goals
   rename_i hS
   have hbS := hS.1
   clear hS
   go_wp2_with fail
   go_meet
   first | exact SumBox.of_alloc hbS hWB HVS.out | exact SumBox.of_set hbS hNN hNB HVS.out
 case rest =>
  obtain ⟨N, b7, x7, i7, j7, y7, k7, l7, T7, rfl, hN, hbc, hNB, hvN⟩ := hcut
  have nn0 := blk_cell hNB 0 _ rfl
  have nn1 := blk_cell hNB 1 _ rfl
  have nn2 := blk_cell hNB 2 _ rfl
  have hRB := HB.out.keep hbc hl2
  have hxc := ext_trans hA2 hbc
  obtain ⟨g0, g1, g2, f0', f1', f2'⟩ := hRB.cell
  have hBl := hRB.lt
  have hneN : N ≠ w.heap.size + 1 := by omega
  obtain ⟨vn, vd, hag, n5, n6⟩ := hvN
  simp only [Value.agg.injEq, Array.mk.injEq, List.cons.injEq, and_true] at hag
  obtain ⟨hb7, rfl, rfl⟩ := hag
  have Hb7 := Lib.hid hb7
  generalize x / 2 = q at *
  clear hNB c1' c2' c3' d1' d2' d3' hb7
  go_wp2_with fail
  refine bodyPost_ret (v := .agg #[.bool b7, .slice x7 i7 j7, .slice y7 k7 l7]) (by simp [results, Tryz.results48, go_sem, g0, g1, g2]; first | done | exact ⟨rfl, rfl⟩ | rfl) rfl ⟨_, rfl, ?_, below_store3 hxc (by omega)⟩
  exact IsRat.stored hRB n5 n6 (by have := Hb7.out; simpa using this.symm) rfl

theorem dir_fields : (Tryz.prog.fieldsOf 50).toList = [{ name := "P", type := 3, offset := 0, embedded := false, tag := "", pkgPath := "", byteOffset := 0 }, { name := "Q", type := 3, offset := 1, embedded := false, tag := "", pkgPath := "", byteOffset := 8 }] := by kernel_rfl
theorem part2 (a b : Int) (w : World) : (part 3 #[Value.int .i64 a, .int .i64 b] 0).run Tryz.prog w = .ok (.int .i64 a) w ∧ (part 3 #[Value.int .i64 a, .int .i64 b] 1).run Tryz.prog w = .ok (.int .i64 b) w := ⟨by kernel_rfl, by kernel_rfl⟩
theorem eqInt (x y : Int) (w : World) : (Op.equalIn 9999 3 (.int .i64 x) (.int .i64 y)).run Tryz.prog w = .ok (x == y) w := by rw [run_equalIn_int w 9998 3 .i64 .i64 x y Tryz.underlying3]
set_option maxRecDepth 100000 in
theorem eql_dir (a b c d : Int) (w : World) : (binOp .eql 50 (.agg #[.int .i64 a, .int .i64 b]) (.agg #[.int .i64 c, .int .i64 d])).run Tryz.prog w = .ok (.bool (a == c && b == d)) w := by
 rw [run_eql_struct, run_equalIn_struct w 9999 50 _ _ (by kernel_rfl) (by kernel_rfl), dir_fields]
 have n0 : ("P" ≠ "_") := by decide
 have n1 : ("Q" ≠ "_") := by decide
 unfold Op.eqFields
 rw [if_pos n0]
 simp only [Sem.run_bind, (part2 _ _ _).1, eqInt, Result.andThen_ok, Sem.run_ite]
 cases a == c with
 | false => simp
 | true =>
  unfold Op.eqFields
  rw [if_pos n1]
  simp only [Sem.run_bind, (part2 _ _ _).2, eqInt, Result.andThen_ok, Sem.run_ite]
  unfold Op.eqFields
  by_cases h : b = d <;> simp [h]

set_option maxHeartbeats 2000000 in
theorem checkDir_ok (p q : Int) (w : World) (h0 : p ≠ 0 ∨ q ≠ 0) (h1 : inL p (-1048576) 1048576 = true) (h2 : inL q (-1048576) 1048576 = true) : Calls Tryz.prog 31 #[.agg #[.int .i64 p, .int .i64 q]] w (RetInt 0 w) := by
 have hal := (Below.refl w.heap.size w).alloc (Nat.le_refl _) (.cells #[.int .i64 p, .int .i64 q] 50)
 have hB0 := blk_new w #[.int .i64 p, .int .i64 q] 50
 have he := eql_dir p q 0 0
 have e0 : (p == 0 && q == 0) = false := by
  rcases h0 with h | h
  ·
   rw [beq_eq_false_iff_ne.2 h]; rfl
  ·
   rw [beq_eq_false_iff_ne.2 h]; simp
 rw [e0] at he
 have H1 := Lib.hid h1
 have H2 := Lib.hid h2
 clear h0 h1 h2 e0
 go_enter Tryz.func31, Tryz.ntmps31
 go_wp2_with fail
 refine (within_any p _ _ _).mono ?_
 rw [H1.out]
 rintro e w1 ⟨rfl, hb1⟩
 have c1 := blk_cell (blk_keep hB0 hb1 (blk_lt hB0)) 1 (.int .i64 q) rfl
 have hx1 := ext_trans hal hb1
 clear hal hB0 hb1
 go_wp2_with fail
 refine (within_any q _ _ _).mono ?_
 rw [H2.out]
 rintro e w2 ⟨rfl, hb2⟩
 go_wp2_with fail
 go_ret
 exact ⟨rfl, ext_trans hx1 hb2⟩

def RetPt (p : Pt) (w : World) (e : Ending) (w' : World) : Prop := e = .returned (.tuple #[.agg #[.int .i64 p.1, .int .i64 p.2], .int .i64 0]) ∧ Below w.heap.size w w'
set_option maxRecDepth 100000 in
set_option maxHeartbeats 4000000 in
theorem turned_ok (d p : Pt) (w : World) (h0 : d.1 ≠ 0 ∨ d.2 ≠ 0) (h1 : inL d.1 (-1048576) 1048576 = true) (h2 : inL d.2 (-1048576) 1048576 = true) (h3 : inL p.1 (-1048576) 1048576 = true) (h4 : inL p.2 (-1048576) 1048576 = true) :
  Calls Tryz.prog 16 #[.agg #[.int .i64 d.1, .int .i64 d.2], .agg #[.int .i64 p.1, .int .i64 p.2]] w (RetPt (turnI d p) w) := by
 have r1 : -1048576 ≤ d.1 ∧ d.1 ≤ 1048576 := by simpa [inL] using h1
 have r2 : -1048576 ≤ d.2 ∧ d.2 ≤ 1048576 := by simpa [inL] using h2
 have r3 : -1048576 ≤ p.1 ∧ p.1 ≤ 1048576 := by simpa [inL] using h3
 have r4 : -1048576 ≤ p.2 ∧ p.2 ≤ 1048576 := by simpa [inL] using h4
 have m1 := mul_absI r1 r3
 have m2 := mul_absI r2 r4
 have m3 := mul_absI r1 r4
 have m4 := mul_absI r2 r3
 have Hx : Hid ((turnI d p).1 = d.1 * p.1 + d.2 * p.2) := rfl
 have Hy : Hid ((turnI d p).2 = d.1 * p.2 - d.2 * p.1) := rfl
 have HC := Lib.hid (fun W => checkDir_ok d.1 d.2 W h0 h1 h2)
 have H3 := Lib.hid h3
 have H4 := Lib.hid h4
 clear h0 h1 h2 h3 h4 r1 r2 r3 r4
 obtain ⟨tx, htx⟩ : ∃ tx, tx = (turnI d p).1 := ⟨_, rfl⟩
 obtain ⟨ty, hty⟩ : ∃ ty, ty = (turnI d p).2 := ⟨_, rfl⟩
 rw [← htx] at Hx
 rw [← hty] at Hy
 have HTX := Lib.hid htx
 have HTY := Lib.hid hty
 clear htx hty
 generalize turnI d p = tp at *
 generalize d.1 = a at *
 generalize d.2 = b at *
 generalize p.1 = x at *
 generalize p.2 = y at *
 have e1 : IntKind.i64.wrap (a * x) = a * x := IntWalk.i64_in _ (by omega)
 have e2 : IntKind.i64.wrap (b * y) = b * y := IntWalk.i64_in _ (by omega)
 have e3 : IntKind.i64.wrap (a * y) = a * y := IntWalk.i64_in _ (by omega)
 have e4 : IntKind.i64.wrap (b * x) = b * x := IntWalk.i64_in _ (by omega)
 have e5 : IntKind.i64.wrap (a * x + b * y) = tx := by rw [Hx.out]; exact IntWalk.i64_in _ (by omega)
 have e6 : IntKind.i64.wrap (a * y - b * x) = ty := by rw [Hy.out]; exact IntWalk.i64_in _ (by omega)
 clear m1 m2 m3 m4
 have hA1 := (Below.refl w.heap.size w).alloc (Nat.le_refl _) (.cells #[.int .i64 a, .int .i64 b] 50)
 have hB1 := blk_new w #[.int .i64 a, .int .i64 b] 50
 have hA2 := hA1.alloc hA1.size (.cells #[.int .i64 x, .int .i64 y] 45)
 have hB1' := blk_keep hB1 ((Below.refl _ _).alloc (Nat.le_refl _) (.cells #[.int .i64 x, .int .i64 y] 45)) (blk_lt hB1)
 have hB2 := blk_new (w.alloc (.cells #[.int .i64 a, .int .i64 b] 50)) #[.int .i64 x, .int .i64 y] 45
 rw [World.size_alloc] at hB2
 have hA3 := hA2.alloc hA2.size (.cells #[.int .i64 0, .int .i64 0] 45)
 have hB1'' := blk_keep hB1' ((Below.refl _ _).alloc (Nat.le_refl _) (.cells #[.int .i64 0, .int .i64 0] 45)) (blk_lt hB1')
 have hB2' := blk_keep hB2 ((Below.refl _ _).alloc (Nat.le_refl _) (.cells #[.int .i64 0, .int .i64 0] 45)) (blk_lt hB2)
 have hB3 := blk_new ((w.alloc (.cells #[.int .i64 a, .int .i64 b] 50)).alloc (.cells #[.int .i64 x, .int .i64 y] 45)) #[.int .i64 0, .int .i64 0] 45
 rw [World.size_alloc, World.size_alloc] at hB3
 go_enter Tryz.func16, Tryz.ntmps16
 go_wp2_with fail
 generalize ((w.alloc (.cells #[.int .i64 a, .int .i64 b] 50)).alloc (.cells #[.int .i64 x, .int .i64 y] 45)).alloc (.cells #[.int .i64 0, .int .i64 0] 45) = W at *
 clear hA1 hA2 hB1 hB1' hB2
 refine (HC.out _).mono ?_
 rintro e w1 ⟨rfl, hb1⟩
 have k1 := blk_keep hB1'' hb1 (blk_lt hB1'')
 have k2 := blk_keep hB2' hb1 (blk_lt hB2')
 have k3 := blk_keep hB3 hb1 (blk_lt hB3)
 have hx1 := ext_trans hA3 hb1
 have q0 := blk_cell k2 0 (.int .i64 x) rfl
 clear hA3 hB1'' hB2' hB3 hb1
 go_wp2_with fail
 refine (within_any x _ _ _).mono ?_
 rw [H3.out]
 rintro e w2 ⟨rfl, hb2⟩
 have l1 := blk_keep k1 hb2 (blk_lt k1)
 have l2 := blk_keep k2 hb2 (blk_lt k2)
 have l3 := blk_keep k3 hb2 (blk_lt k3)
 have hx2 := ext_trans hx1 hb2
 have q1 := blk_cell l2 1 (.int .i64 y) rfl
 clear k1 k2 k3 hx1 hb2 q0
 go_wp2_with fail
 refine (within_any y _ _ _).mono ?_
 rw [H4.out]
 rintro e w3 ⟨rfl, hb3⟩
 have m1 := blk_keep l1 hb3 (blk_lt l1)
 have m2 := blk_keep l2 hb3 (blk_lt l2)
 have m3 := blk_keep l3 hb3 (blk_lt l3)
 have hx3 := ext_trans hx2 hb3
 have s0 := blk_cell m1 0 (.int .i64 a) rfl
 have s1 := blk_cell m1 1 (.int .i64 b) rfl
 have s2 := blk_cell m2 0 (.int .i64 x) rfl
 have s3 := blk_cell m2 1 (.int .i64 y) rfl
 have s4 := blk_cell m3 0 (.int .i64 0) rfl
 have s5 := blk_cell m3 1 (.int .i64 0) rfl
 have f0 := blk_frozen m3 0
 have f1 := blk_frozen m3 1
 have hl3 := blk_lt m3
 clear l1 l2 l3 hx2 hb3 q1 m1 m2 m3
 go_wp2_with fail
 refine bodyPost_ret (v := .tuple #[.agg #[.int .i64 tx, .int .i64 ty], .int .i64 0]) (by simp [results, Tryz.results16, go_sem, s4, s5]; first | done | exact ⟨rfl, rfl⟩ | rfl) rfl ⟨by rw [HTX.out, HTY.out], (hx3.setCell (p := ⟨w.heap.size + 2, 0, none⟩) (by show _ ≤ w.heap.size + 2; omega) _).setCell (p := ⟨w.heap.size + 2, 1, none⟩) (by show _ ≤ w.heap.size + 2; omega) _⟩

end Go.Proofs.YtofijjomfhmbjaaGreat
