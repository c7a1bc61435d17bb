/-
  No cell of these rows narrows 'for every input' (looked for: loops, veiled, ifaces, maps, wideKeys, modest, calm, conditions, laid).
  DERIVED. THE GIVEN ROWS OF THIS SEAT. 8 by the template 'for every input the law returns true; each argument reads behind the call as it read before'; 0 by the template 'total and deterministic' (their statements: YtdjdnfjgklaneaaTotals.lean).
  GIVEN WITH THE SEED: the statements are not yours to turn. If you find one false, say at which input.
  Laid BY PROGRAM, IN A SANDBOX (cutbox-rows.mjs): the forced cells as the released guide's own fill.sh prints them over the translation 5c2e4a4ca9a8b62c… (all of the seat's roots in one cut). By AI agents, Wed Nov 11 2026. No macro, syntax, notation, axiom, sorry.
-/
import Derived.Test.YtdjdnfjgklaneaaChecked
import GoSem.Claim
import GoSem.ClaimJoined
import GoSem.ClaimMapViews
import Derived.JoinedTies
import Derived.KernelRfl
namespace Go.Proofs.Ytdjdnfjgklaneaa
/- THE CELL 'sum', in the pinned program and in every row, IS THE sha256 OF THE DUMP (.gsa) THAT YtdjdnfjgklaneaaProg.lean LOADS. Nothing in Lean hashes anything: it is a label: what it is worth is what the hold of that sum in a sandbox is worth. -/
noncomputable def Try.pinned : Pinned := { name := "ytdjdnfjgklaneaa", sum := "5c2e4a4ca9a8b62cdec011917ab0506e7fd9cb22789e8f20cb6ea4939a3b7e63", checked := Try.checked }
namespace Rows
def none {H : Type} : Left H := { results := [], args := [] }

/-- 'wingworkslaw06.StoreUsed': WHATEVER THE INPUT: true; the input reads as it did. -/
def storeUsedSpec : ChangeSpec := { name := "storeUsed", fn := fun _ => fun
  | [d1, d2, d3, d4, d5] => { results := [.lit (.bool true)], args := [d1, d2, d3, d4, d5] }
  | _ => none }
def storeUsedRow : OpenClaim := { program := "ytdjdnfjgklaneaa", sum := "5c2e4a4ca9a8b62cdec011917ab0506e7fd9cb22789e8f20cb6ea4939a3b7e63", func := "wingworks/wingworkslaw06.StoreUsed", spec := "storeUsed", inPlace := ["math/bits.Add64", "math/bits.Sub64", "math.Float64bits", "math.Float64frombits"], unfollowed := true, recurses := true, named := ["math/bits.divideError", "math/bits.overflowError"], apart := false }
def StoreUsedSaid : Prop := storeUsedRow.holds Try.pinned (OpenSpec.ofChange storeUsedSpec)

/-- ITS FALSE NEIGHBOUR: 'it returns false'. Refute it at one input. -/
def storeUsedWrong : ChangeSpec := { name := "storeUsed", fn := fun _ => fun
  | [d1, d2, d3, d4, d5] => { results := [.lit (.bool false)], args := [d1, d2, d3, d4, d5] }
  | _ => none }
def StoreUsedWrongFalsely : Prop := storeUsedRow.holds Try.pinned (OpenSpec.ofChange storeUsedWrong)

/-- 'wingworkslaw06.StoreTables': WHATEVER THE INPUT: true; the input reads as it did. -/
def storeTablesSpec : ChangeSpec := { name := "storeTables", fn := fun _ => fun
  | [d1, d2] => { results := [.lit (.bool true)], args := [d1, d2] }
  | _ => none }
def storeTablesRow : OpenClaim := { program := "ytdjdnfjgklaneaa", sum := "5c2e4a4ca9a8b62cdec011917ab0506e7fd9cb22789e8f20cb6ea4939a3b7e63", func := "wingworks/wingworkslaw06.StoreTables", spec := "storeTables", inPlace := ["math/bits.Add64", "math/bits.Sub64", "math.Float64bits", "math.Float64frombits"], unfollowed := true, recurses := true, named := ["math/bits.divideError", "math/bits.overflowError"], apart := false }
def StoreTablesSaid : Prop := storeTablesRow.holds Try.pinned (OpenSpec.ofChange storeTablesSpec)

/-- ITS FALSE NEIGHBOUR: 'it returns false'. Refute it at one input. -/
def storeTablesWrong : ChangeSpec := { name := "storeTables", fn := fun _ => fun
  | [d1, d2] => { results := [.lit (.bool false)], args := [d1, d2] }
  | _ => none }
def StoreTablesWrongFalsely : Prop := storeTablesRow.holds Try.pinned (OpenSpec.ofChange storeTablesWrong)

/-- 'wingworkslaw06.StoreWorst': WHATEVER THE INPUT: true; the input reads as it did. -/
def storeWorstSpec : ChangeSpec := { name := "storeWorst", fn := fun _ => fun
  | [d1, d2, d3, d4] => { results := [.lit (.bool true)], args := [d1, d2, d3, d4] }
  | _ => none }
def storeWorstRow : OpenClaim := { program := "ytdjdnfjgklaneaa", sum := "5c2e4a4ca9a8b62cdec011917ab0506e7fd9cb22789e8f20cb6ea4939a3b7e63", func := "wingworks/wingworkslaw06.StoreWorst", spec := "storeWorst", inPlace := ["math/bits.Add64", "math.Float64bits", "math.Float64frombits", "math/bits.Sub64"], unfollowed := true, recurses := true, named := ["math/bits.divideError", "math/bits.overflowError"], apart := false }
def StoreWorstSaid : Prop := storeWorstRow.holds Try.pinned (OpenSpec.ofChange storeWorstSpec)

/-- ITS FALSE NEIGHBOUR: 'it returns false'. Refute it at one input. -/
def storeWorstWrong : ChangeSpec := { name := "storeWorst", fn := fun _ => fun
  | [d1, d2, d3, d4] => { results := [.lit (.bool false)], args := [d1, d2, d3, d4] }
  | _ => none }
def StoreWorstWrongFalsely : Prop := storeWorstRow.holds Try.pinned (OpenSpec.ofChange storeWorstWrong)

/-- 'wingworkslaw06.StoreOvens': WHATEVER THE INPUT: true; the input reads as it did. -/
def storeOvensSpec : ChangeSpec := { name := "storeOvens", fn := fun _ => fun
  | [d1, d2] => { results := [.lit (.bool true)], args := [d1, d2] }
  | _ => none }
def storeOvensRow : OpenClaim := { program := "ytdjdnfjgklaneaa", sum := "5c2e4a4ca9a8b62cdec011917ab0506e7fd9cb22789e8f20cb6ea4939a3b7e63", func := "wingworks/wingworkslaw06.StoreOvens", spec := "storeOvens", inPlace := ["math/bits.Add64", "math.Float64bits", "math.Float64frombits", "math/bits.Sub64"], unfollowed := true, recurses := true, named := ["math/bits.divideError", "math/bits.overflowError"], apart := false }
def StoreOvensSaid : Prop := storeOvensRow.holds Try.pinned (OpenSpec.ofChange storeOvensSpec)

/-- ITS FALSE NEIGHBOUR: 'it returns false'. Refute it at one input. -/
def storeOvensWrong : ChangeSpec := { name := "storeOvens", fn := fun _ => fun
  | [d1, d2] => { results := [.lit (.bool false)], args := [d1, d2] }
  | _ => none }
def StoreOvensWrongFalsely : Prop := storeOvensRow.holds Try.pinned (OpenSpec.ofChange storeOvensWrong)

/-- 'wingworkslaw06.StorePlans': WHATEVER THE INPUT: true; the input reads as it did. -/
def storePlansSpec : ChangeSpec := { name := "storePlans", fn := fun _ => fun
  | [d1, d2, d3] => { results := [.lit (.bool true)], args := [d1, d2, d3] }
  | _ => none }
def storePlansRow : OpenClaim := { program := "ytdjdnfjgklaneaa", sum := "5c2e4a4ca9a8b62cdec011917ab0506e7fd9cb22789e8f20cb6ea4939a3b7e63", func := "wingworks/wingworkslaw06.StorePlans", spec := "storePlans", inPlace := ["math/bits.Add64", "math.Float64bits", "math.Float64frombits", "math/bits.Sub64"], unfollowed := true, recurses := true, named := ["math/bits.divideError", "math/bits.overflowError"], apart := false }
def StorePlansSaid : Prop := storePlansRow.holds Try.pinned (OpenSpec.ofChange storePlansSpec)

/-- ITS FALSE NEIGHBOUR: 'it returns false'. Refute it at one input. -/
def storePlansWrong : ChangeSpec := { name := "storePlans", fn := fun _ => fun
  | [d1, d2, d3] => { results := [.lit (.bool false)], args := [d1, d2, d3] }
  | _ => none }
def StorePlansWrongFalsely : Prop := storePlansRow.holds Try.pinned (OpenSpec.ofChange storePlansWrong)

/-- 'wingworkslaw06.StoreWorks': WHATEVER THE INPUT: true; the input reads as it did. -/
def storeWorksSpec : ChangeSpec := { name := "storeWorks", fn := fun _ => fun
  | [d1, d2] => { results := [.lit (.bool true)], args := [d1, d2] }
  | _ => none }
def storeWorksRow : OpenClaim := { program := "ytdjdnfjgklaneaa", sum := "5c2e4a4ca9a8b62cdec011917ab0506e7fd9cb22789e8f20cb6ea4939a3b7e63", func := "wingworks/wingworkslaw06.StoreWorks", spec := "storeWorks", inPlace := ["math/bits.Add64", "math.Float64bits", "math.Float64frombits", "math/bits.Sub64"], unfollowed := true, recurses := true, named := ["math/bits.divideError", "math/bits.overflowError"], apart := false }
def StoreWorksSaid : Prop := storeWorksRow.holds Try.pinned (OpenSpec.ofChange storeWorksSpec)

/-- ITS FALSE NEIGHBOUR: 'it returns false'. Refute it at one input. -/
def storeWorksWrong : ChangeSpec := { name := "storeWorks", fn := fun _ => fun
  | [d1, d2] => { results := [.lit (.bool false)], args := [d1, d2] }
  | _ => none }
def StoreWorksWrongFalsely : Prop := storeWorksRow.holds Try.pinned (OpenSpec.ofChange storeWorksWrong)

/-- 'wingworkslaw06.StoreGraham': WHATEVER THE INPUT: true; the input reads as it did. -/
def storeGrahamSpec : ChangeSpec := { name := "storeGraham", fn := fun _ => fun
  | [d1, d2, d3, d4] => { results := [.lit (.bool true)], args := [d1, d2, d3, d4] }
  | _ => none }
def storeGrahamRow : OpenClaim := { program := "ytdjdnfjgklaneaa", sum := "5c2e4a4ca9a8b62cdec011917ab0506e7fd9cb22789e8f20cb6ea4939a3b7e63", func := "wingworks/wingworkslaw06.StoreGraham", spec := "storeGraham", inPlace := ["math/bits.Add64", "math.Float64bits", "math.Float64frombits", "math/bits.Sub64"], unfollowed := true, recurses := true, named := ["math/bits.divideError", "math/bits.overflowError"], apart := false }
def StoreGrahamSaid : Prop := storeGrahamRow.holds Try.pinned (OpenSpec.ofChange storeGrahamSpec)

/-- ITS FALSE NEIGHBOUR: 'it returns false'. Refute it at one input. -/
def storeGrahamWrong : ChangeSpec := { name := "storeGraham", fn := fun _ => fun
  | [d1, d2, d3, d4] => { results := [.lit (.bool false)], args := [d1, d2, d3, d4] }
  | _ => none }
def StoreGrahamWrongFalsely : Prop := storeGrahamRow.holds Try.pinned (OpenSpec.ofChange storeGrahamWrong)

/-- 'wingworkslaw06.StoreRooms': WHATEVER THE INPUT: true; the input reads as it did. -/
def storeRoomsSpec : ChangeSpec := { name := "storeRooms", fn := fun _ => fun
  | [d1, d2, d3, d4, d5, d6] => { results := [.lit (.bool true)], args := [d1, d2, d3, d4, d5, d6] }
  | _ => none }
def storeRoomsRow : OpenClaim := { program := "ytdjdnfjgklaneaa", sum := "5c2e4a4ca9a8b62cdec011917ab0506e7fd9cb22789e8f20cb6ea4939a3b7e63", func := "wingworks/wingworkslaw06.StoreRooms", spec := "storeRooms", inPlace := ["math/bits.Add64", "math.Float64bits", "math.Float64frombits", "math/bits.Sub64"], unfollowed := true, recurses := true, named := ["math/bits.divideError", "math/bits.overflowError"], apart := false }
def StoreRoomsSaid : Prop := storeRoomsRow.holds Try.pinned (OpenSpec.ofChange storeRoomsSpec)

/-- ITS FALSE NEIGHBOUR: 'it returns false'. Refute it at one input. -/
def storeRoomsWrong : ChangeSpec := { name := "storeRooms", fn := fun _ => fun
  | [d1, d2, d3, d4, d5, d6] => { results := [.lit (.bool false)], args := [d1, d2, d3, d4, d5, d6] }
  | _ => none }
def StoreRoomsWrongFalsely : Prop := storeRoomsRow.holds Try.pinned (OpenSpec.ofChange storeRoomsWrong)

/- THE SECOND FORM. 'bulk': how many values and letters a reading holds, each counted each time it is reached (what is shared counts as often as it is met; a slice's spare places count too). A statement '..UptoSaid' is the law's where the arguments, and the package variables that the reading takes, are together of bulk at most 1048576: NARROWER than '..Said'. Prove '..Said' where nothing that the law and all that it calls make is longer than what came in: it says more and counts as full. Else prove '..UptoSaid'. A law counts once. -/
mutual
def uptoBulk {H : Type} : DataW H → Nat
  | .lit (.string bytes) => bytes.length + 1
  | .lit _ => 1
  | .nil => 1
  | .ptr d => uptoBulk d + 1
  | .slice elems spare => uptoBulkAll elems + uptoBulkAll spare + 1
  | .agg parts => uptoBulkAll parts + 1
  | .iface _ d => uptoBulk d + 1
  | .map entries => uptoBulkEntries entries + 1
  | .held _ => 1
def uptoBulkAll {H : Type} : List (DataW H) → Nat
  | [] => 0
  | d :: r => uptoBulk d + uptoBulkAll r
def uptoBulkEntries {H : Type} : List (Lit × DataW H) → Nat
  | [] => 0
  | x :: r => uptoBulkEntry x + uptoBulkEntries r
def uptoBulkEntry {H : Type} : Lit × DataW H → Nat
  | (.string bytes, d) => bytes.length + uptoBulk d + 1
  | (_, d) => uptoBulk d + 1
 end
def uptoSmall : (H : Type) → List (DataW H) → Bool := fun _ ds => decide (uptoBulkAll ds ≤ 1048576)
def OpenSpec.upto (s : _root_.Go.ChangeSpec) : _root_.Go.OpenSpec := { _root_.Go.OpenSpec.ofChange s with cond := some uptoSmall }

/-- 'wingworkslaw06.StoreUsed', WHERE WHAT IT READS IS OF BULK AT MOST 1048576: true; the input reads as it did. -/
def storeUsedUptoRow : OpenClaim := { program := "ytdjdnfjgklaneaa", sum := "5c2e4a4ca9a8b62cdec011917ab0506e7fd9cb22789e8f20cb6ea4939a3b7e63", func := "wingworks/wingworkslaw06.StoreUsed", spec := "storeUsed", inPlace := ["math/bits.Add64", "math/bits.Sub64", "math.Float64bits", "math.Float64frombits"], unfollowed := true, recurses := true, named := ["math/bits.divideError", "math/bits.overflowError"], apart := false, narrowed := true }
def StoreUsedUptoSaid : Prop := storeUsedUptoRow.holds Try.pinned (OpenSpec.upto storeUsedSpec)

/-- 'wingworkslaw06.StoreTables', WHERE WHAT IT READS IS OF BULK AT MOST 1048576: true; the input reads as it did. -/
def storeTablesUptoRow : OpenClaim := { program := "ytdjdnfjgklaneaa", sum := "5c2e4a4ca9a8b62cdec011917ab0506e7fd9cb22789e8f20cb6ea4939a3b7e63", func := "wingworks/wingworkslaw06.StoreTables", spec := "storeTables", inPlace := ["math/bits.Add64", "math/bits.Sub64", "math.Float64bits", "math.Float64frombits"], unfollowed := true, recurses := true, named := ["math/bits.divideError", "math/bits.overflowError"], apart := false, narrowed := true }
def StoreTablesUptoSaid : Prop := storeTablesUptoRow.holds Try.pinned (OpenSpec.upto storeTablesSpec)

/-- 'wingworkslaw06.StoreWorst', WHERE WHAT IT READS IS OF BULK AT MOST 1048576: true; the input reads as it did. -/
def storeWorstUptoRow : OpenClaim := { program := "ytdjdnfjgklaneaa", sum := "5c2e4a4ca9a8b62cdec011917ab0506e7fd9cb22789e8f20cb6ea4939a3b7e63", func := "wingworks/wingworkslaw06.StoreWorst", spec := "storeWorst", inPlace := ["math/bits.Add64", "math.Float64bits", "math.Float64frombits", "math/bits.Sub64"], unfollowed := true, recurses := true, named := ["math/bits.divideError", "math/bits.overflowError"], apart := false, narrowed := true }
def StoreWorstUptoSaid : Prop := storeWorstUptoRow.holds Try.pinned (OpenSpec.upto storeWorstSpec)

/-- 'wingworkslaw06.StoreOvens', WHERE WHAT IT READS IS OF BULK AT MOST 1048576: true; the input reads as it did. -/
def storeOvensUptoRow : OpenClaim := { program := "ytdjdnfjgklaneaa", sum := "5c2e4a4ca9a8b62cdec011917ab0506e7fd9cb22789e8f20cb6ea4939a3b7e63", func := "wingworks/wingworkslaw06.StoreOvens", spec := "storeOvens", inPlace := ["math/bits.Add64", "math.Float64bits", "math.Float64frombits", "math/bits.Sub64"], unfollowed := true, recurses := true, named := ["math/bits.divideError", "math/bits.overflowError"], apart := false, narrowed := true }
def StoreOvensUptoSaid : Prop := storeOvensUptoRow.holds Try.pinned (OpenSpec.upto storeOvensSpec)

/-- 'wingworkslaw06.StorePlans', WHERE WHAT IT READS IS OF BULK AT MOST 1048576: true; the input reads as it did. -/
def storePlansUptoRow : OpenClaim := { program := "ytdjdnfjgklaneaa", sum := "5c2e4a4ca9a8b62cdec011917ab0506e7fd9cb22789e8f20cb6ea4939a3b7e63", func := "wingworks/wingworkslaw06.StorePlans", spec := "storePlans", inPlace := ["math/bits.Add64", "math.Float64bits", "math.Float64frombits", "math/bits.Sub64"], unfollowed := true, recurses := true, named := ["math/bits.divideError", "math/bits.overflowError"], apart := false, narrowed := true }
def StorePlansUptoSaid : Prop := storePlansUptoRow.holds Try.pinned (OpenSpec.upto storePlansSpec)

/-- 'wingworkslaw06.StoreWorks', WHERE WHAT IT READS IS OF BULK AT MOST 1048576: true; the input reads as it did. -/
def storeWorksUptoRow : OpenClaim := { program := "ytdjdnfjgklaneaa", sum := "5c2e4a4ca9a8b62cdec011917ab0506e7fd9cb22789e8f20cb6ea4939a3b7e63", func := "wingworks/wingworkslaw06.StoreWorks", spec := "storeWorks", inPlace := ["math/bits.Add64", "math.Float64bits", "math.Float64frombits", "math/bits.Sub64"], unfollowed := true, recurses := true, named := ["math/bits.divideError", "math/bits.overflowError"], apart := false, narrowed := true }
def StoreWorksUptoSaid : Prop := storeWorksUptoRow.holds Try.pinned (OpenSpec.upto storeWorksSpec)

/-- 'wingworkslaw06.StoreGraham', WHERE WHAT IT READS IS OF BULK AT MOST 1048576: true; the input reads as it did. -/
def storeGrahamUptoRow : OpenClaim := { program := "ytdjdnfjgklaneaa", sum := "5c2e4a4ca9a8b62cdec011917ab0506e7fd9cb22789e8f20cb6ea4939a3b7e63", func := "wingworks/wingworkslaw06.StoreGraham", spec := "storeGraham", inPlace := ["math/bits.Add64", "math.Float64bits", "math.Float64frombits", "math/bits.Sub64"], unfollowed := true, recurses := true, named := ["math/bits.divideError", "math/bits.overflowError"], apart := false, narrowed := true }
def StoreGrahamUptoSaid : Prop := storeGrahamUptoRow.holds Try.pinned (OpenSpec.upto storeGrahamSpec)

/-- 'wingworkslaw06.StoreRooms', WHERE WHAT IT READS IS OF BULK AT MOST 1048576: true; the input reads as it did. -/
def storeRoomsUptoRow : OpenClaim := { program := "ytdjdnfjgklaneaa", sum := "5c2e4a4ca9a8b62cdec011917ab0506e7fd9cb22789e8f20cb6ea4939a3b7e63", func := "wingworks/wingworkslaw06.StoreRooms", spec := "storeRooms", inPlace := ["math/bits.Add64", "math.Float64bits", "math.Float64frombits", "math/bits.Sub64"], unfollowed := true, recurses := true, named := ["math/bits.divideError", "math/bits.overflowError"], apart := false, narrowed := true }
def StoreRoomsUptoSaid : Prop := storeRoomsUptoRow.holds Try.pinned (OpenSpec.upto storeRoomsSpec)

end Rows
end Go.Proofs.Ytdjdnfjgklaneaa
