/-
  No cell of these rows narrows 'for every input' (looked for: loops, veiled, ifaces, maps, wideKeys, modest, calm, conditions, laid).
  DERIVED. THE GIVEN ROWS OF THIS SEAT. 5 by the template 'for every input the law returns true; each argument reads behind the call as it read before'; 0 by the template 'total and deterministic' (their statements: YtkdcgkafjkklcaaTotals.lean).
  GIVEN WITH THE SEED: the statements are not yours to turn. If you find one false, say at which input.
  Laid BY PROGRAM, IN A SANDBOX (cutbox-rows.mjs): the forced cells as the released guide's own fill.sh prints them over the translation 3f113e5e1a59cd6e… (all of the seat's roots in one cut). By AI agents, Wed Nov 11 2026. No macro, syntax, notation, axiom, sorry.
-/
import Derived.Test.YtkdcgkafjkklcaaChecked
import GoSem.Claim
import GoSem.ClaimJoined
import GoSem.ClaimMapViews
import Derived.JoinedTies
import Derived.KernelRfl
namespace Go.Proofs.Ytkdcgkafjkklcaa
/- THE CELL 'sum', in the pinned program and in every row, IS THE sha256 OF THE DUMP (.gsa) THAT YtkdcgkafjkklcaaProg.lean LOADS. Nothing in Lean hashes anything: it is a label: what it is worth is what the hold of that sum in a sandbox is worth. -/
noncomputable def Try.pinned : Pinned := { name := "ytkdcgkafjkklcaa", sum := "3f113e5e1a59cd6e09ff9b7c6add2962a34283c04e389233e259dcd8c164779b", checked := Try.checked }
namespace Rows
def none {H : Type} : Left H := { results := [], args := [] }

/-- 'wingworkslaw06.StoreNil': WHATEVER THE INPUT: true; the input reads as it did. -/
def storeNilSpec : ChangeSpec := { name := "storeNil", fn := fun _ => fun
  | [d] => { results := [.lit (.bool true)], args := [d] }
  | _ => none }
def storeNilRow : OpenClaim := { program := "ytkdcgkafjkklcaa", sum := "3f113e5e1a59cd6e09ff9b7c6add2962a34283c04e389233e259dcd8c164779b", func := "wingworks/wingworkslaw06.StoreNil", spec := "storeNil", inPlace := ["math/bits.Add64", "math.Float64bits", "math.Float64frombits", "math/bits.Sub64"], unfollowed := true, recurses := true, named := ["math/bits.divideError", "math/bits.overflowError"], apart := false }
def StoreNilSaid : Prop := storeNilRow.holds Try.pinned (OpenSpec.ofChange storeNilSpec)

/-- ITS FALSE NEIGHBOUR: 'it returns false'. Refute it at one input. -/
def storeNilWrong : ChangeSpec := { name := "storeNil", fn := fun _ => fun
  | [d] => { results := [.lit (.bool false)], args := [d] }
  | _ => none }
def StoreNilWrongFalsely : Prop := storeNilRow.holds Try.pinned (OpenSpec.ofChange storeNilWrong)

/-- 'wingworkslaw03.LayupLengths': WHATEVER THE INPUT: true; the input reads as it did. -/
def layupLengthsSpec : ChangeSpec := { name := "layupLengths", fn := fun _ => fun
  | [d1, d2, d3, d4, d5] => { results := [.lit (.bool true)], args := [d1, d2, d3, d4, d5] }
  | _ => none }
def layupLengthsRow : OpenClaim := { program := "ytkdcgkafjkklcaa", sum := "3f113e5e1a59cd6e09ff9b7c6add2962a34283c04e389233e259dcd8c164779b", func := "wingworks/wingworkslaw03.LayupLengths", spec := "layupLengths", inPlace := ["math/bits.Add64", "math/bits.Sub64", "internal/abi.NoEscape", "internal/bytealg.MakeNoZero"], unfollowed := true, recurses := true, named := ["math/bits.divideError", "math/bits.overflowError"], apart := false }
def LayupLengthsSaid : Prop := layupLengthsRow.holds Try.pinned (OpenSpec.ofChange layupLengthsSpec)

/-- ITS FALSE NEIGHBOUR: 'it returns false'. Refute it at one input. -/
def layupLengthsWrong : ChangeSpec := { name := "layupLengths", fn := fun _ => fun
  | [d1, d2, d3, d4, d5] => { results := [.lit (.bool false)], args := [d1, d2, d3, d4, d5] }
  | _ => none }
def LayupLengthsWrongFalsely : Prop := layupLengthsRow.holds Try.pinned (OpenSpec.ofChange layupLengthsWrong)

/-- 'wingworkslaw03.LayupTows': WHATEVER THE INPUT: true; the input reads as it did. -/
def layupTowsSpec : ChangeSpec := { name := "layupTows", fn := fun _ => fun
  | [d] => { results := [.lit (.bool true)], args := [d] }
  | _ => none }
def layupTowsRow : OpenClaim := { program := "ytkdcgkafjkklcaa", sum := "3f113e5e1a59cd6e09ff9b7c6add2962a34283c04e389233e259dcd8c164779b", func := "wingworks/wingworkslaw03.LayupTows", spec := "layupTows", inPlace := ["math/bits.Add64", "math/bits.Sub64", "internal/abi.NoEscape", "internal/bytealg.MakeNoZero"], unfollowed := true, recurses := true, named := ["math/bits.divideError", "math/bits.overflowError"], apart := false }
def LayupTowsSaid : Prop := layupTowsRow.holds Try.pinned (OpenSpec.ofChange layupTowsSpec)

/-- ITS FALSE NEIGHBOUR: 'it returns false'. Refute it at one input. -/
def layupTowsWrong : ChangeSpec := { name := "layupTows", fn := fun _ => fun
  | [d] => { results := [.lit (.bool false)], args := [d] }
  | _ => none }
def LayupTowsWrongFalsely : Prop := layupTowsRow.holds Try.pinned (OpenSpec.ofChange layupTowsWrong)

/-- 'wingworkslaw03.LayupCircles': WHATEVER THE INPUT: true; the input reads as it did. -/
def layupCirclesSpec : ChangeSpec := { name := "layupCircles", fn := fun _ => fun
  | [d1, d2, d3, d4, d5, d6, d7, d8] => { results := [.lit (.bool true)], args := [d1, d2, d3, d4, d5, d6, d7, d8] }
  | _ => none }
def layupCirclesRow : OpenClaim := { program := "ytkdcgkafjkklcaa", sum := "3f113e5e1a59cd6e09ff9b7c6add2962a34283c04e389233e259dcd8c164779b", func := "wingworks/wingworkslaw03.LayupCircles", spec := "layupCircles", inPlace := ["math/bits.Add64", "math/bits.Sub64", "internal/abi.NoEscape", "internal/bytealg.MakeNoZero"], unfollowed := true, recurses := true, named := ["math/bits.divideError", "math/bits.overflowError"], apart := false }
def LayupCirclesSaid : Prop := layupCirclesRow.holds Try.pinned (OpenSpec.ofChange layupCirclesSpec)

/-- ITS FALSE NEIGHBOUR: 'it returns false'. Refute it at one input. -/
def layupCirclesWrong : ChangeSpec := { name := "layupCircles", fn := fun _ => fun
  | [d1, d2, d3, d4, d5, d6, d7, d8] => { results := [.lit (.bool false)], args := [d1, d2, d3, d4, d5, d6, d7, d8] }
  | _ => none }
def LayupCirclesWrongFalsely : Prop := layupCirclesRow.holds Try.pinned (OpenSpec.ofChange layupCirclesWrong)

/-- 'wingworkslaw03.LayupSheared': WHATEVER THE INPUT: true; the input reads as it did. -/
def layupShearedSpec : ChangeSpec := { name := "layupSheared", fn := fun _ => fun
  | [d1, d2, d3, d4, d5] => { results := [.lit (.bool true)], args := [d1, d2, d3, d4, d5] }
  | _ => none }
def layupShearedRow : OpenClaim := { program := "ytkdcgkafjkklcaa", sum := "3f113e5e1a59cd6e09ff9b7c6add2962a34283c04e389233e259dcd8c164779b", func := "wingworks/wingworkslaw03.LayupSheared", spec := "layupSheared", inPlace := ["math/bits.Add64", "math/bits.Sub64", "internal/abi.NoEscape", "internal/bytealg.MakeNoZero"], unfollowed := true, recurses := true, named := ["math/bits.divideError", "math/bits.overflowError"], apart := false }
def LayupShearedSaid : Prop := layupShearedRow.holds Try.pinned (OpenSpec.ofChange layupShearedSpec)

/-- ITS FALSE NEIGHBOUR: 'it returns false'. Refute it at one input. -/
def layupShearedWrong : ChangeSpec := { name := "layupSheared", fn := fun _ => fun
  | [d1, d2, d3, d4, d5] => { results := [.lit (.bool false)], args := [d1, d2, d3, d4, d5] }
  | _ => none }
def LayupShearedWrongFalsely : Prop := layupShearedRow.holds Try.pinned (OpenSpec.ofChange layupShearedWrong)

/- THE SECOND FORM. 'bulk': how many values and letters a reading holds, each counted each time it is reached (what is shared counts as often as it is met; a slice's spare places count too). A statement '..UptoSaid' is the law's where the arguments, and the package variables that the reading takes, are together of bulk at most 1048576: NARROWER than '..Said'. Prove '..Said' where nothing that the law and all that it calls make is longer than what came in: it says more and counts as full. Else prove '..UptoSaid'. A law counts once. -/
mutual
def uptoBulk {H : Type} : DataW H → Nat
  | .lit (.string bytes) => bytes.length + 1
  | .lit _ => 1
  | .nil => 1
  | .ptr d => uptoBulk d + 1
  | .slice elems spare => uptoBulkAll elems + uptoBulkAll spare + 1
  | .agg parts => uptoBulkAll parts + 1
  | .iface _ d => uptoBulk d + 1
  | .map entries => uptoBulkEntries entries + 1
  | .held _ => 1
def uptoBulkAll {H : Type} : List (DataW H) → Nat
  | [] => 0
  | d :: r => uptoBulk d + uptoBulkAll r
def uptoBulkEntries {H : Type} : List (Lit × DataW H) → Nat
  | [] => 0
  | x :: r => uptoBulkEntry x + uptoBulkEntries r
def uptoBulkEntry {H : Type} : Lit × DataW H → Nat
  | (.string bytes, d) => bytes.length + uptoBulk d + 1
  | (_, d) => uptoBulk d + 1
 end
def uptoSmall : (H : Type) → List (DataW H) → Bool := fun _ ds => decide (uptoBulkAll ds ≤ 1048576)
def OpenSpec.upto (s : _root_.Go.ChangeSpec) : _root_.Go.OpenSpec := { _root_.Go.OpenSpec.ofChange s with cond := some uptoSmall }

/-- 'wingworkslaw06.StoreNil', WHERE WHAT IT READS IS OF BULK AT MOST 1048576: true; the input reads as it did. -/
def storeNilUptoRow : OpenClaim := { program := "ytkdcgkafjkklcaa", sum := "3f113e5e1a59cd6e09ff9b7c6add2962a34283c04e389233e259dcd8c164779b", func := "wingworks/wingworkslaw06.StoreNil", spec := "storeNil", inPlace := ["math/bits.Add64", "math.Float64bits", "math.Float64frombits", "math/bits.Sub64"], unfollowed := true, recurses := true, named := ["math/bits.divideError", "math/bits.overflowError"], apart := false, narrowed := true }
def StoreNilUptoSaid : Prop := storeNilUptoRow.holds Try.pinned (OpenSpec.upto storeNilSpec)

/-- 'wingworkslaw03.LayupLengths', WHERE WHAT IT READS IS OF BULK AT MOST 1048576: true; the input reads as it did. -/
def layupLengthsUptoRow : OpenClaim := { program := "ytkdcgkafjkklcaa", sum := "3f113e5e1a59cd6e09ff9b7c6add2962a34283c04e389233e259dcd8c164779b", func := "wingworks/wingworkslaw03.LayupLengths", spec := "layupLengths", inPlace := ["math/bits.Add64", "math/bits.Sub64", "internal/abi.NoEscape", "internal/bytealg.MakeNoZero"], unfollowed := true, recurses := true, named := ["math/bits.divideError", "math/bits.overflowError"], apart := false, narrowed := true }
def LayupLengthsUptoSaid : Prop := layupLengthsUptoRow.holds Try.pinned (OpenSpec.upto layupLengthsSpec)

/-- 'wingworkslaw03.LayupTows', WHERE WHAT IT READS IS OF BULK AT MOST 1048576: true; the input reads as it did. -/
def layupTowsUptoRow : OpenClaim := { program := "ytkdcgkafjkklcaa", sum := "3f113e5e1a59cd6e09ff9b7c6add2962a34283c04e389233e259dcd8c164779b", func := "wingworks/wingworkslaw03.LayupTows", spec := "layupTows", inPlace := ["math/bits.Add64", "math/bits.Sub64", "internal/abi.NoEscape", "internal/bytealg.MakeNoZero"], unfollowed := true, recurses := true, named := ["math/bits.divideError", "math/bits.overflowError"], apart := false, narrowed := true }
def LayupTowsUptoSaid : Prop := layupTowsUptoRow.holds Try.pinned (OpenSpec.upto layupTowsSpec)

/-- 'wingworkslaw03.LayupCircles', WHERE WHAT IT READS IS OF BULK AT MOST 1048576: true; the input reads as it did. -/
def layupCirclesUptoRow : OpenClaim := { program := "ytkdcgkafjkklcaa", sum := "3f113e5e1a59cd6e09ff9b7c6add2962a34283c04e389233e259dcd8c164779b", func := "wingworks/wingworkslaw03.LayupCircles", spec := "layupCircles", inPlace := ["math/bits.Add64", "math/bits.Sub64", "internal/abi.NoEscape", "internal/bytealg.MakeNoZero"], unfollowed := true, recurses := true, named := ["math/bits.divideError", "math/bits.overflowError"], apart := false, narrowed := true }
def LayupCirclesUptoSaid : Prop := layupCirclesUptoRow.holds Try.pinned (OpenSpec.upto layupCirclesSpec)

/-- 'wingworkslaw03.LayupSheared', WHERE WHAT IT READS IS OF BULK AT MOST 1048576: true; the input reads as it did. -/
def layupShearedUptoRow : OpenClaim := { program := "ytkdcgkafjkklcaa", sum := "3f113e5e1a59cd6e09ff9b7c6add2962a34283c04e389233e259dcd8c164779b", func := "wingworks/wingworkslaw03.LayupSheared", spec := "layupSheared", inPlace := ["math/bits.Add64", "math/bits.Sub64", "internal/abi.NoEscape", "internal/bytealg.MakeNoZero"], unfollowed := true, recurses := true, named := ["math/bits.divideError", "math/bits.overflowError"], apart := false, narrowed := true }
def LayupShearedUptoSaid : Prop := layupShearedUptoRow.holds Try.pinned (OpenSpec.upto layupShearedSpec)

end Rows
end Go.Proofs.Ytkdcgkafjkklcaa
