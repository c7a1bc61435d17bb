/-
  No cell of these rows narrows 'for every input' (looked for: loops, veiled, ifaces, maps, wideKeys, modest, calm, conditions, laid).
  DERIVED. THE GIVEN ROWS OF THIS SEAT. 4 by the template 'for every input the law returns true; each argument reads behind the call as it read before'; 0 by the template 'total and deterministic' (their statements: YtmfochplnchgcaaGreatTotals.lean).
  GIVEN WITH THE SEED: the statements are not yours to turn. If you find one false, say at which input.
  Laid BY PROGRAM, IN A SANDBOX (cutbox-rows.mjs): the forced cells as the released guide's own fill.sh prints them over the translation 62de9e77df6dc8d6… (all of the seat's roots in one cut). By AI agents, Wed Nov 11 2026. No macro, syntax, notation, axiom, sorry.
-/
import Derived.Test.YtmfochplnchgcaaGreatChecked
import GoSem.Claim
import GoSem.ClaimJoined
import GoSem.ClaimMapViews
import Derived.JoinedTies
import Derived.KernelRfl
namespace Go.Proofs.YtmfochplnchgcaaGreat
/- THE CELL 'sum', in the pinned program and in every row, IS THE sha256 OF THE DUMP (.gsa) THAT YtmfochplnchgcaaGreatProg.lean LOADS. Nothing in Lean hashes anything: it is a label: what it is worth is what the hold of that sum in a sandbox is worth. -/
noncomputable def Tryz.pinned : Pinned := { name := "ytmfochplnchgcaagreat", sum := "62de9e77df6dc8d6714ce43aba70cd2ca1e1b82c0fdff76aa184ab21e90af402", checked := Tryz.checked }
namespace Rows
def none {H : Type} : Left H := { results := [], args := [] }

/-- 'wingworkslaw05.CureVitrifies': WHATEVER THE INPUT: true; the input reads as it did. -/
def cureVitrifiesSpec : ChangeSpec := { name := "cureVitrifies", fn := fun _ => fun
  | [d1, d2, d3] => { results := [.lit (.bool true)], args := [d1, d2, d3] }
  | _ => none }
def cureVitrifiesRow : OpenClaim := { program := "ytmfochplnchgcaagreat", sum := "62de9e77df6dc8d6714ce43aba70cd2ca1e1b82c0fdff76aa184ab21e90af402", func := "wingworks/wingworkslaw05.CureVitrifies", spec := "cureVitrifies", inPlace := ["math/bits.Add64", "math/bits.Sub64", "internal/abi.NoEscape", "internal/bytealg.MakeNoZero"], unfollowed := true, recurses := true, named := ["math/bits.divideError", "math/bits.overflowError"], apart := false }
def CureVitrifiesSaid : Prop := cureVitrifiesRow.holds Tryz.pinned (OpenSpec.ofChange cureVitrifiesSpec)

/-- ITS FALSE NEIGHBOUR: 'it returns false'. Refute it at one input. -/
def cureVitrifiesWrong : ChangeSpec := { name := "cureVitrifies", fn := fun _ => fun
  | [d1, d2, d3] => { results := [.lit (.bool false)], args := [d1, d2, d3] }
  | _ => none }
def CureVitrifiesWrongFalsely : Prop := cureVitrifiesRow.holds Tryz.pinned (OpenSpec.ofChange cureVitrifiesWrong)

/-- 'wingworkslaw05.CureTables': WHATEVER THE INPUT: true; the input reads as it did. -/
def cureTablesSpec : ChangeSpec := { name := "cureTables", fn := fun _ => fun
  | [d1, d2, d3, d4, d5] => { results := [.lit (.bool true)], args := [d1, d2, d3, d4, d5] }
  | _ => none }
def cureTablesRow : OpenClaim := { program := "ytmfochplnchgcaagreat", sum := "62de9e77df6dc8d6714ce43aba70cd2ca1e1b82c0fdff76aa184ab21e90af402", func := "wingworks/wingworkslaw05.CureTables", spec := "cureTables", inPlace := ["math/bits.Add64", "math/bits.Sub64", "internal/abi.NoEscape", "internal/bytealg.MakeNoZero"], unfollowed := true, recurses := true, named := ["math/bits.divideError", "math/bits.overflowError"], apart := false }
def CureTablesSaid : Prop := cureTablesRow.holds Tryz.pinned (OpenSpec.ofChange cureTablesSpec)

/-- ITS FALSE NEIGHBOUR: 'it returns false'. Refute it at one input. -/
def cureTablesWrong : ChangeSpec := { name := "cureTables", fn := fun _ => fun
  | [d1, d2, d3, d4, d5] => { results := [.lit (.bool false)], args := [d1, d2, d3, d4, d5] }
  | _ => none }
def CureTablesWrongFalsely : Prop := cureTablesRow.holds Tryz.pinned (OpenSpec.ofChange cureTablesWrong)

/-- 'wingworkslaw05.CureLeaks': WHATEVER THE INPUT: true; the input reads as it did. -/
def cureLeaksSpec : ChangeSpec := { name := "cureLeaks", fn := fun _ => fun
  | [d1, d2, d3] => { results := [.lit (.bool true)], args := [d1, d2, d3] }
  | _ => none }
def cureLeaksRow : OpenClaim := { program := "ytmfochplnchgcaagreat", sum := "62de9e77df6dc8d6714ce43aba70cd2ca1e1b82c0fdff76aa184ab21e90af402", func := "wingworks/wingworkslaw05.CureLeaks", spec := "cureLeaks", inPlace := ["math/bits.Add64", "math/bits.Sub64", "internal/abi.NoEscape", "internal/bytealg.MakeNoZero"], unfollowed := true, recurses := true, named := ["math/bits.divideError", "math/bits.overflowError"], apart := false }
def CureLeaksSaid : Prop := cureLeaksRow.holds Tryz.pinned (OpenSpec.ofChange cureLeaksSpec)

/-- ITS FALSE NEIGHBOUR: 'it returns false'. Refute it at one input. -/
def cureLeaksWrong : ChangeSpec := { name := "cureLeaks", fn := fun _ => fun
  | [d1, d2, d3] => { results := [.lit (.bool false)], args := [d1, d2, d3] }
  | _ => none }
def CureLeaksWrongFalsely : Prop := cureLeaksRow.holds Tryz.pinned (OpenSpec.ofChange cureLeaksWrong)

/-- 'wingworkslaw05.CureMinutes': WHATEVER THE INPUT: true; the input reads as it did. -/
def cureMinutesSpec : ChangeSpec := { name := "cureMinutes", fn := fun _ => fun
  | [d1, d2, d3, d4, d5] => { results := [.lit (.bool true)], args := [d1, d2, d3, d4, d5] }
  | _ => none }
def cureMinutesRow : OpenClaim := { program := "ytmfochplnchgcaagreat", sum := "62de9e77df6dc8d6714ce43aba70cd2ca1e1b82c0fdff76aa184ab21e90af402", func := "wingworks/wingworkslaw05.CureMinutes", spec := "cureMinutes", inPlace := ["math/bits.Add64", "math/bits.Sub64", "internal/abi.NoEscape", "internal/bytealg.MakeNoZero"], unfollowed := true, recurses := true, named := ["math/bits.divideError", "math/bits.overflowError"], apart := false }
def CureMinutesSaid : Prop := cureMinutesRow.holds Tryz.pinned (OpenSpec.ofChange cureMinutesSpec)

/-- ITS FALSE NEIGHBOUR: 'it returns false'. Refute it at one input. -/
def cureMinutesWrong : ChangeSpec := { name := "cureMinutes", fn := fun _ => fun
  | [d1, d2, d3, d4, d5] => { results := [.lit (.bool false)], args := [d1, d2, d3, d4, d5] }
  | _ => none }
def CureMinutesWrongFalsely : Prop := cureMinutesRow.holds Tryz.pinned (OpenSpec.ofChange cureMinutesWrong)

/- THE SECOND FORM. 'bulk': how many values and letters a reading holds, each counted each time it is reached (what is shared counts as often as it is met; a slice's spare places count too). A statement '..UptoSaid' is the law's where the arguments, and the package variables that the reading takes, are together of bulk at most 1048576: NARROWER than '..Said'. Prove '..Said' where nothing that the law and all that it calls make is longer than what came in: it says more and counts as full. Else prove '..UptoSaid'. A law counts once. -/
mutual
def uptoBulk {H : Type} : DataW H → Nat
  | .lit (.string bytes) => bytes.length + 1
  | .lit _ => 1
  | .nil => 1
  | .ptr d => uptoBulk d + 1
  | .slice elems spare => uptoBulkAll elems + uptoBulkAll spare + 1
  | .agg parts => uptoBulkAll parts + 1
  | .iface _ d => uptoBulk d + 1
  | .map entries => uptoBulkEntries entries + 1
  | .held _ => 1
def uptoBulkAll {H : Type} : List (DataW H) → Nat
  | [] => 0
  | d :: r => uptoBulk d + uptoBulkAll r
def uptoBulkEntries {H : Type} : List (Lit × DataW H) → Nat
  | [] => 0
  | x :: r => uptoBulkEntry x + uptoBulkEntries r
def uptoBulkEntry {H : Type} : Lit × DataW H → Nat
  | (.string bytes, d) => bytes.length + uptoBulk d + 1
  | (_, d) => uptoBulk d + 1
 end
def uptoSmall : (H : Type) → List (DataW H) → Bool := fun _ ds => decide (uptoBulkAll ds ≤ 1048576)
def OpenSpec.upto (s : _root_.Go.ChangeSpec) : _root_.Go.OpenSpec := { _root_.Go.OpenSpec.ofChange s with cond := some uptoSmall }

/-- 'wingworkslaw05.CureVitrifies', WHERE WHAT IT READS IS OF BULK AT MOST 1048576: true; the input reads as it did. -/
def cureVitrifiesUptoRow : OpenClaim := { program := "ytmfochplnchgcaagreat", sum := "62de9e77df6dc8d6714ce43aba70cd2ca1e1b82c0fdff76aa184ab21e90af402", func := "wingworks/wingworkslaw05.CureVitrifies", spec := "cureVitrifies", inPlace := ["math/bits.Add64", "math/bits.Sub64", "internal/abi.NoEscape", "internal/bytealg.MakeNoZero"], unfollowed := true, recurses := true, named := ["math/bits.divideError", "math/bits.overflowError"], apart := false, narrowed := true }
def CureVitrifiesUptoSaid : Prop := cureVitrifiesUptoRow.holds Tryz.pinned (OpenSpec.upto cureVitrifiesSpec)

/-- 'wingworkslaw05.CureTables', WHERE WHAT IT READS IS OF BULK AT MOST 1048576: true; the input reads as it did. -/
def cureTablesUptoRow : OpenClaim := { program := "ytmfochplnchgcaagreat", sum := "62de9e77df6dc8d6714ce43aba70cd2ca1e1b82c0fdff76aa184ab21e90af402", func := "wingworks/wingworkslaw05.CureTables", spec := "cureTables", inPlace := ["math/bits.Add64", "math/bits.Sub64", "internal/abi.NoEscape", "internal/bytealg.MakeNoZero"], unfollowed := true, recurses := true, named := ["math/bits.divideError", "math/bits.overflowError"], apart := false, narrowed := true }
def CureTablesUptoSaid : Prop := cureTablesUptoRow.holds Tryz.pinned (OpenSpec.upto cureTablesSpec)

/-- 'wingworkslaw05.CureLeaks', WHERE WHAT IT READS IS OF BULK AT MOST 1048576: true; the input reads as it did. -/
def cureLeaksUptoRow : OpenClaim := { program := "ytmfochplnchgcaagreat", sum := "62de9e77df6dc8d6714ce43aba70cd2ca1e1b82c0fdff76aa184ab21e90af402", func := "wingworks/wingworkslaw05.CureLeaks", spec := "cureLeaks", inPlace := ["math/bits.Add64", "math/bits.Sub64", "internal/abi.NoEscape", "internal/bytealg.MakeNoZero"], unfollowed := true, recurses := true, named := ["math/bits.divideError", "math/bits.overflowError"], apart := false, narrowed := true }
def CureLeaksUptoSaid : Prop := cureLeaksUptoRow.holds Tryz.pinned (OpenSpec.upto cureLeaksSpec)

/-- 'wingworkslaw05.CureMinutes', WHERE WHAT IT READS IS OF BULK AT MOST 1048576: true; the input reads as it did. -/
def cureMinutesUptoRow : OpenClaim := { program := "ytmfochplnchgcaagreat", sum := "62de9e77df6dc8d6714ce43aba70cd2ca1e1b82c0fdff76aa184ab21e90af402", func := "wingworks/wingworkslaw05.CureMinutes", spec := "cureMinutes", inPlace := ["math/bits.Add64", "math/bits.Sub64", "internal/abi.NoEscape", "internal/bytealg.MakeNoZero"], unfollowed := true, recurses := true, named := ["math/bits.divideError", "math/bits.overflowError"], apart := false, narrowed := true }
def CureMinutesUptoSaid : Prop := cureMinutesUptoRow.holds Tryz.pinned (OpenSpec.upto cureMinutesSpec)

end Rows
end Go.Proofs.YtmfochplnchgcaaGreat
