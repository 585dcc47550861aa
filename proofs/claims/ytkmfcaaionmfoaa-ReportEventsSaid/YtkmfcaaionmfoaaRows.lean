/-
  No cell of these rows narrows 'for every input' (looked for: loops, veiled, ifaces, maps, wideKeys, modest, calm, conditions, laid).
  DERIVED. THE GIVEN ROWS OF THIS SEAT. 4 by the template 'for every input the law returns true; each argument reads behind the call as it read before'; 0 by the template 'total and deterministic' (their statements: YtkmfcaaionmfoaaTotals.lean).
  GIVEN WITH THE SEED: the statements are not yours to turn. If you find one false, say at which input.
  Laid BY PROGRAM, IN A SANDBOX (cutbox-rows.mjs): the forced cells as the released guide's own fill.sh prints them over the translation 98d8519de2cdd8b2… (all of the seat's roots in one cut). By AI agents, Wed Nov 11 2026. No macro, syntax, notation, axiom, sorry.
-/
import Derived.Test.YtkmfcaaionmfoaaChecked
import GoSem.Claim
import GoSem.ClaimJoined
import GoSem.ClaimMapViews
import Derived.JoinedTies
import Derived.KernelRfl
namespace Go.Proofs.Ytkmfcaaionmfoaa
/- THE CELL 'sum', in the pinned program and in every row, IS THE sha256 OF THE DUMP (.gsa) THAT YtkmfcaaionmfoaaProg.lean LOADS. Nothing in Lean hashes anything: it is a label: what it is worth is what the hold of that sum in a sandbox is worth. -/
noncomputable def Try.pinned : Pinned := { name := "ytkmfcaaionmfoaa", sum := "98d8519de2cdd8b2631015ba0416e25c3610192d332d09d00dbb92ecdb8ee6f8", checked := Try.checked }
namespace Rows
def none {H : Type} : Left H := { results := [], args := [] }

/-- 'lightshiplaw45.SpansReckon': WHATEVER THE INPUT: true; the input reads as it did. -/
def spansReckonSpec : ChangeSpec := { name := "spansReckon", fn := fun _ => fun
  | [d1, d2, d3] => { results := [.lit (.bool true)], args := [d1, d2, d3] }
  | _ => none }
def spansReckonRow : OpenClaim := { program := "ytkmfcaaionmfoaa", sum := "98d8519de2cdd8b2631015ba0416e25c3610192d332d09d00dbb92ecdb8ee6f8", func := "lightship/lightshiplaw45.SpansReckon", spec := "spansReckon", apart := false }
def SpansReckonSaid : Prop := spansReckonRow.holds Try.pinned (OpenSpec.ofChange spansReckonSpec)

/-- ITS FALSE NEIGHBOUR: 'it returns false'. Refute it at one input. -/
def spansReckonWrong : ChangeSpec := { name := "spansReckon", fn := fun _ => fun
  | [d1, d2, d3] => { results := [.lit (.bool false)], args := [d1, d2, d3] }
  | _ => none }
def SpansReckonWrongFalsely : Prop := spansReckonRow.holds Try.pinned (OpenSpec.ofChange spansReckonWrong)

/-- 'lightshiplaw45.SpansHave': WHATEVER THE INPUT: true; the input reads as it did. -/
def spansHaveSpec : ChangeSpec := { name := "spansHave", fn := fun _ => fun
  | [d] => { results := [.lit (.bool true)], args := [d] }
  | _ => none }
def spansHaveRow : OpenClaim := { program := "ytkmfcaaionmfoaa", sum := "98d8519de2cdd8b2631015ba0416e25c3610192d332d09d00dbb92ecdb8ee6f8", func := "lightship/lightshiplaw45.SpansHave", spec := "spansHave", apart := false }
def SpansHaveSaid : Prop := spansHaveRow.holds Try.pinned (OpenSpec.ofChange spansHaveSpec)

/-- ITS FALSE NEIGHBOUR: 'it returns false'. Refute it at one input. -/
def spansHaveWrong : ChangeSpec := { name := "spansHave", fn := fun _ => fun
  | [d] => { results := [.lit (.bool false)], args := [d] }
  | _ => none }
def SpansHaveWrongFalsely : Prop := spansHaveRow.holds Try.pinned (OpenSpec.ofChange spansHaveWrong)

/-- 'lightshiplaw52.ReportCounts': WHATEVER THE INPUT: true; the input reads as it did. -/
def reportCountsSpec : ChangeSpec := { name := "reportCounts", fn := fun _ => fun
  | [d] => { results := [.lit (.bool true)], args := [d] }
  | _ => none }
def reportCountsRow : OpenClaim := { program := "ytkmfcaaionmfoaa", sum := "98d8519de2cdd8b2631015ba0416e25c3610192d332d09d00dbb92ecdb8ee6f8", func := "lightship/lightshiplaw52.ReportCounts", spec := "reportCounts", inPlace := ["internal/abi.NoEscape", "internal/bytealg.MakeNoZero"], recurses := true, apart := false }
def ReportCountsSaid : Prop := reportCountsRow.holds Try.pinned (OpenSpec.ofChange reportCountsSpec)

/-- ITS FALSE NEIGHBOUR: 'it returns false'. Refute it at one input. -/
def reportCountsWrong : ChangeSpec := { name := "reportCounts", fn := fun _ => fun
  | [d] => { results := [.lit (.bool false)], args := [d] }
  | _ => none }
def ReportCountsWrongFalsely : Prop := reportCountsRow.holds Try.pinned (OpenSpec.ofChange reportCountsWrong)

/-- 'lightshiplaw52.ReportEvents': WHATEVER THE INPUT: true; the input reads as it did. -/
def reportEventsSpec : ChangeSpec := { name := "reportEvents", fn := fun _ => fun
  | [d] => { results := [.lit (.bool true)], args := [d] }
  | _ => none }
def reportEventsRow : OpenClaim := { program := "ytkmfcaaionmfoaa", sum := "98d8519de2cdd8b2631015ba0416e25c3610192d332d09d00dbb92ecdb8ee6f8", func := "lightship/lightshiplaw52.ReportEvents", spec := "reportEvents", inPlace := ["internal/abi.NoEscape", "internal/bytealg.MakeNoZero"], recurses := true, apart := false }
def ReportEventsSaid : Prop := reportEventsRow.holds Try.pinned (OpenSpec.ofChange reportEventsSpec)

/-- ITS FALSE NEIGHBOUR: 'it returns false'. Refute it at one input. -/
def reportEventsWrong : ChangeSpec := { name := "reportEvents", fn := fun _ => fun
  | [d] => { results := [.lit (.bool false)], args := [d] }
  | _ => none }
def ReportEventsWrongFalsely : Prop := reportEventsRow.holds Try.pinned (OpenSpec.ofChange reportEventsWrong)

/- THE SECOND FORM. 'bulk': how many values and letters a reading holds, each counted each time it is reached (what is shared counts as often as it is met; a slice's spare places count too). A statement '..UptoSaid' is the law's where the arguments, and the package variables that the reading takes, are together of bulk at most 1048576: NARROWER than '..Said'. Prove '..Said' where nothing that the law and all that it calls make is longer than what came in: it says more and counts as full. Else prove '..UptoSaid'. A law counts once. -/
mutual
def uptoBulk {H : Type} : DataW H → Nat
  | .lit (.string bytes) => bytes.length + 1
  | .lit _ => 1
  | .nil => 1
  | .ptr d => uptoBulk d + 1
  | .slice elems spare => uptoBulkAll elems + uptoBulkAll spare + 1
  | .agg parts => uptoBulkAll parts + 1
  | .iface _ d => uptoBulk d + 1
  | .map entries => uptoBulkEntries entries + 1
  | .held _ => 1
def uptoBulkAll {H : Type} : List (DataW H) → Nat
  | [] => 0
  | d :: r => uptoBulk d + uptoBulkAll r
def uptoBulkEntries {H : Type} : List (Lit × DataW H) → Nat
  | [] => 0
  | x :: r => uptoBulkEntry x + uptoBulkEntries r
def uptoBulkEntry {H : Type} : Lit × DataW H → Nat
  | (.string bytes, d) => bytes.length + uptoBulk d + 1
  | (_, d) => uptoBulk d + 1
 end
def uptoSmall : (H : Type) → List (DataW H) → Bool := fun _ ds => decide (uptoBulkAll ds ≤ 1048576)
def OpenSpec.upto (s : _root_.Go.ChangeSpec) : _root_.Go.OpenSpec := { _root_.Go.OpenSpec.ofChange s with cond := some uptoSmall }

/-- 'lightshiplaw45.SpansReckon', WHERE WHAT IT READS IS OF BULK AT MOST 1048576: true; the input reads as it did. -/
def spansReckonUptoRow : OpenClaim := { program := "ytkmfcaaionmfoaa", sum := "98d8519de2cdd8b2631015ba0416e25c3610192d332d09d00dbb92ecdb8ee6f8", func := "lightship/lightshiplaw45.SpansReckon", spec := "spansReckon", apart := false, narrowed := true }
def SpansReckonUptoSaid : Prop := spansReckonUptoRow.holds Try.pinned (OpenSpec.upto spansReckonSpec)

/-- 'lightshiplaw45.SpansHave', WHERE WHAT IT READS IS OF BULK AT MOST 1048576: true; the input reads as it did. -/
def spansHaveUptoRow : OpenClaim := { program := "ytkmfcaaionmfoaa", sum := "98d8519de2cdd8b2631015ba0416e25c3610192d332d09d00dbb92ecdb8ee6f8", func := "lightship/lightshiplaw45.SpansHave", spec := "spansHave", apart := false, narrowed := true }
def SpansHaveUptoSaid : Prop := spansHaveUptoRow.holds Try.pinned (OpenSpec.upto spansHaveSpec)

/-- 'lightshiplaw52.ReportCounts', WHERE WHAT IT READS IS OF BULK AT MOST 1048576: true; the input reads as it did. -/
def reportCountsUptoRow : OpenClaim := { program := "ytkmfcaaionmfoaa", sum := "98d8519de2cdd8b2631015ba0416e25c3610192d332d09d00dbb92ecdb8ee6f8", func := "lightship/lightshiplaw52.ReportCounts", spec := "reportCounts", inPlace := ["internal/abi.NoEscape", "internal/bytealg.MakeNoZero"], recurses := true, apart := false, narrowed := true }
def ReportCountsUptoSaid : Prop := reportCountsUptoRow.holds Try.pinned (OpenSpec.upto reportCountsSpec)

/-- 'lightshiplaw52.ReportEvents', WHERE WHAT IT READS IS OF BULK AT MOST 1048576: true; the input reads as it did. -/
def reportEventsUptoRow : OpenClaim := { program := "ytkmfcaaionmfoaa", sum := "98d8519de2cdd8b2631015ba0416e25c3610192d332d09d00dbb92ecdb8ee6f8", func := "lightship/lightshiplaw52.ReportEvents", spec := "reportEvents", inPlace := ["internal/abi.NoEscape", "internal/bytealg.MakeNoZero"], recurses := true, apart := false, narrowed := true }
def ReportEventsUptoSaid : Prop := reportEventsUptoRow.holds Try.pinned (OpenSpec.upto reportEventsSpec)

end Rows
end Go.Proofs.Ytkmfcaaionmfoaa
