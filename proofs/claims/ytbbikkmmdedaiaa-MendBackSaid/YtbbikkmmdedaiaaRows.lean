/-
  No cell of these rows narrows 'for every input' (looked for: loops, veiled, ifaces, maps, wideKeys, modest, calm, conditions, laid).
  DERIVED. THE GIVEN ROWS OF THIS SEAT. 15 by the template 'for every input the law returns true; each argument reads behind the call as it read before'; 0 by the template 'total and deterministic' (their statements: YtbbikkmmdedaiaaTotals.lean).
  GIVEN WITH THE SEED: the statements are not yours to turn. If you find one false, say at which input.
  Laid BY PROGRAM, IN A SANDBOX (cutbox-rows.mjs): the forced cells as the released guide's own fill.sh prints them over the translation 1f11aa4303727c24… (all of the seat's roots in one cut). By AI agents, Wed Nov 11 2026. No macro, syntax, notation, axiom, sorry.
-/
import Derived.Test.YtbbikkmmdedaiaaChecked
import GoSem.Claim
import GoSem.ClaimJoined
import GoSem.ClaimMapViews
import Derived.JoinedTies
import Derived.KernelRfl
namespace Go.Proofs.Ytbbikkmmdedaiaa
/- THE CELL 'sum', in the pinned program and in every row, IS THE sha256 OF THE DUMP (.gsa) THAT YtbbikkmmdedaiaaProg.lean LOADS. Nothing in Lean hashes anything: it is a label: what it is worth is what the hold of that sum in a sandbox is worth. -/
noncomputable def Try.pinned : Pinned := { name := "ytbbikkmmdedaiaa", sum := "1f11aa4303727c242292fe2b993c1b1488e1e6758daf9de98dcb69c5e7b508d9", checked := Try.checked }
namespace Rows
def none {H : Type} : Left H := { results := [], args := [] }

/-- 'lightshiplaw02.VectorReckons': WHATEVER THE INPUT: true; the input reads as it did. -/
def vectorReckonsSpec : ChangeSpec := { name := "vectorReckons", fn := fun _ => fun
  | [d1, d2, d3] => { results := [.lit (.bool true)], args := [d1, d2, d3] }
  | _ => none }
def vectorReckonsRow : OpenClaim := { program := "ytbbikkmmdedaiaa", sum := "1f11aa4303727c242292fe2b993c1b1488e1e6758daf9de98dcb69c5e7b508d9", func := "lightship/lightshiplaw02.VectorReckons", spec := "vectorReckons", apart := false }
def VectorReckonsSaid : Prop := vectorReckonsRow.holds Try.pinned (OpenSpec.ofChange vectorReckonsSpec)

/-- ITS FALSE NEIGHBOUR: 'it returns false'. Refute it at one input. -/
def vectorReckonsWrong : ChangeSpec := { name := "vectorReckons", fn := fun _ => fun
  | [d1, d2, d3] => { results := [.lit (.bool false)], args := [d1, d2, d3] }
  | _ => none }
def VectorReckonsWrongFalsely : Prop := vectorReckonsRow.holds Try.pinned (OpenSpec.ofChange vectorReckonsWrong)

/-- 'lightshiplaw02.VectorBack': WHATEVER THE INPUT: true; the input reads as it did. -/
def vectorBackSpec : ChangeSpec := { name := "vectorBack", fn := fun _ => fun
  | [d1, d2, d3] => { results := [.lit (.bool true)], args := [d1, d2, d3] }
  | _ => none }
def vectorBackRow : OpenClaim := { program := "ytbbikkmmdedaiaa", sum := "1f11aa4303727c242292fe2b993c1b1488e1e6758daf9de98dcb69c5e7b508d9", func := "lightship/lightshiplaw02.VectorBack", spec := "vectorBack", apart := false }
def VectorBackSaid : Prop := vectorBackRow.holds Try.pinned (OpenSpec.ofChange vectorBackSpec)

/-- ITS FALSE NEIGHBOUR: 'it returns false'. Refute it at one input. -/
def vectorBackWrong : ChangeSpec := { name := "vectorBack", fn := fun _ => fun
  | [d1, d2, d3] => { results := [.lit (.bool false)], args := [d1, d2, d3] }
  | _ => none }
def VectorBackWrongFalsely : Prop := vectorBackRow.holds Try.pinned (OpenSpec.ofChange vectorBackWrong)

/-- 'lightshiplaw01.GfReckons': WHATEVER THE INPUT: true; the input reads as it did. -/
def gfReckonsSpec : ChangeSpec := { name := "gfReckons", fn := fun _ => fun
  | [d1, d2] => { results := [.lit (.bool true)], args := [d1, d2] }
  | _ => none }
def gfReckonsRow : OpenClaim := { program := "ytbbikkmmdedaiaa", sum := "1f11aa4303727c242292fe2b993c1b1488e1e6758daf9de98dcb69c5e7b508d9", func := "lightship/lightshiplaw01.GfReckons", spec := "gfReckons", apart := false }
def GfReckonsSaid : Prop := gfReckonsRow.holds Try.pinned (OpenSpec.ofChange gfReckonsSpec)

/-- ITS FALSE NEIGHBOUR: 'it returns false'. Refute it at one input. -/
def gfReckonsWrong : ChangeSpec := { name := "gfReckons", fn := fun _ => fun
  | [d1, d2] => { results := [.lit (.bool false)], args := [d1, d2] }
  | _ => none }
def GfReckonsWrongFalsely : Prop := gfReckonsRow.holds Try.pinned (OpenSpec.ofChange gfReckonsWrong)

/-- 'lightshiplaw01.GfPowers': WHATEVER THE INPUT: true; the input reads as it did. -/
def gfPowersSpec : ChangeSpec := { name := "gfPowers", fn := fun _ => fun
  | [d1, d2] => { results := [.lit (.bool true)], args := [d1, d2] }
  | _ => none }
def gfPowersRow : OpenClaim := { program := "ytbbikkmmdedaiaa", sum := "1f11aa4303727c242292fe2b993c1b1488e1e6758daf9de98dcb69c5e7b508d9", func := "lightship/lightshiplaw01.GfPowers", spec := "gfPowers", apart := false }
def GfPowersSaid : Prop := gfPowersRow.holds Try.pinned (OpenSpec.ofChange gfPowersSpec)

/-- ITS FALSE NEIGHBOUR: 'it returns false'. Refute it at one input. -/
def gfPowersWrong : ChangeSpec := { name := "gfPowers", fn := fun _ => fun
  | [d1, d2] => { results := [.lit (.bool false)], args := [d1, d2] }
  | _ => none }
def GfPowersWrongFalsely : Prop := gfPowersRow.holds Try.pinned (OpenSpec.ofChange gfPowersWrong)

/-- 'lightshiplaw01.GfField': WHATEVER THE INPUT: true; the input reads as it did. -/
def gfFieldSpec : ChangeSpec := { name := "gfField", fn := fun _ => fun
  | [d1, d2, d3] => { results := [.lit (.bool true)], args := [d1, d2, d3] }
  | _ => none }
def gfFieldRow : OpenClaim := { program := "ytbbikkmmdedaiaa", sum := "1f11aa4303727c242292fe2b993c1b1488e1e6758daf9de98dcb69c5e7b508d9", func := "lightship/lightshiplaw01.GfField", spec := "gfField", apart := false }
def GfFieldSaid : Prop := gfFieldRow.holds Try.pinned (OpenSpec.ofChange gfFieldSpec)

/-- ITS FALSE NEIGHBOUR: 'it returns false'. Refute it at one input. -/
def gfFieldWrong : ChangeSpec := { name := "gfField", fn := fun _ => fun
  | [d1, d2, d3] => { results := [.lit (.bool false)], args := [d1, d2, d3] }
  | _ => none }
def GfFieldWrongFalsely : Prop := gfFieldRow.holds Try.pinned (OpenSpec.ofChange gfFieldWrong)

/-- 'lightshiplaw01.GfLogs': WHATEVER THE INPUT: true; the input reads as it did. -/
def gfLogsSpec : ChangeSpec := { name := "gfLogs", fn := fun _ => fun
  | [d1, d2] => { results := [.lit (.bool true)], args := [d1, d2] }
  | _ => none }
def gfLogsRow : OpenClaim := { program := "ytbbikkmmdedaiaa", sum := "1f11aa4303727c242292fe2b993c1b1488e1e6758daf9de98dcb69c5e7b508d9", func := "lightship/lightshiplaw01.GfLogs", spec := "gfLogs", apart := false }
def GfLogsSaid : Prop := gfLogsRow.holds Try.pinned (OpenSpec.ofChange gfLogsSpec)

/-- ITS FALSE NEIGHBOUR: 'it returns false'. Refute it at one input. -/
def gfLogsWrong : ChangeSpec := { name := "gfLogs", fn := fun _ => fun
  | [d1, d2] => { results := [.lit (.bool false)], args := [d1, d2] }
  | _ => none }
def GfLogsWrongFalsely : Prop := gfLogsRow.holds Try.pinned (OpenSpec.ofChange gfLogsWrong)

/-- 'lightshiplaw40.PolyReckons': WHATEVER THE INPUT: true; the input reads as it did. -/
def polyReckonsSpec : ChangeSpec := { name := "polyReckons", fn := fun _ => fun
  | [d1, d2, d3] => { results := [.lit (.bool true)], args := [d1, d2, d3] }
  | _ => none }
def polyReckonsRow : OpenClaim := { program := "ytbbikkmmdedaiaa", sum := "1f11aa4303727c242292fe2b993c1b1488e1e6758daf9de98dcb69c5e7b508d9", func := "lightship/lightshiplaw40.PolyReckons", spec := "polyReckons", apart := false }
def PolyReckonsSaid : Prop := polyReckonsRow.holds Try.pinned (OpenSpec.ofChange polyReckonsSpec)

/-- ITS FALSE NEIGHBOUR: 'it returns false'. Refute it at one input. -/
def polyReckonsWrong : ChangeSpec := { name := "polyReckons", fn := fun _ => fun
  | [d1, d2, d3] => { results := [.lit (.bool false)], args := [d1, d2, d3] }
  | _ => none }
def PolyReckonsWrongFalsely : Prop := polyReckonsRow.holds Try.pinned (OpenSpec.ofChange polyReckonsWrong)

/-- 'lightshiplaw40.PolyDivides': WHATEVER THE INPUT: true; the input reads as it did. -/
def polyDividesSpec : ChangeSpec := { name := "polyDivides", fn := fun _ => fun
  | [d1, d2] => { results := [.lit (.bool true)], args := [d1, d2] }
  | _ => none }
def polyDividesRow : OpenClaim := { program := "ytbbikkmmdedaiaa", sum := "1f11aa4303727c242292fe2b993c1b1488e1e6758daf9de98dcb69c5e7b508d9", func := "lightship/lightshiplaw40.PolyDivides", spec := "polyDivides", apart := false }
def PolyDividesSaid : Prop := polyDividesRow.holds Try.pinned (OpenSpec.ofChange polyDividesSpec)

/-- ITS FALSE NEIGHBOUR: 'it returns false'. Refute it at one input. -/
def polyDividesWrong : ChangeSpec := { name := "polyDivides", fn := fun _ => fun
  | [d1, d2] => { results := [.lit (.bool false)], args := [d1, d2] }
  | _ => none }
def PolyDividesWrongFalsely : Prop := polyDividesRow.holds Try.pinned (OpenSpec.ofChange polyDividesWrong)

/-- 'lightshiplaw40.PolyValues': WHATEVER THE INPUT: true; the input reads as it did. -/
def polyValuesSpec : ChangeSpec := { name := "polyValues", fn := fun _ => fun
  | [d1, d2, d3] => { results := [.lit (.bool true)], args := [d1, d2, d3] }
  | _ => none }
def polyValuesRow : OpenClaim := { program := "ytbbikkmmdedaiaa", sum := "1f11aa4303727c242292fe2b993c1b1488e1e6758daf9de98dcb69c5e7b508d9", func := "lightship/lightshiplaw40.PolyValues", spec := "polyValues", apart := false }
def PolyValuesSaid : Prop := polyValuesRow.holds Try.pinned (OpenSpec.ofChange polyValuesSpec)

/-- ITS FALSE NEIGHBOUR: 'it returns false'. Refute it at one input. -/
def polyValuesWrong : ChangeSpec := { name := "polyValues", fn := fun _ => fun
  | [d1, d2, d3] => { results := [.lit (.bool false)], args := [d1, d2, d3] }
  | _ => none }
def PolyValuesWrongFalsely : Prop := polyValuesRow.holds Try.pinned (OpenSpec.ofChange polyValuesWrong)

/-- 'lightshiplaw41.LagrangeThrough': WHATEVER THE INPUT: true; the input reads as it did. -/
def lagrangeThroughSpec : ChangeSpec := { name := "lagrangeThrough", fn := fun _ => fun
  | [d1, d2, d3] => { results := [.lit (.bool true)], args := [d1, d2, d3] }
  | _ => none }
def lagrangeThroughRow : OpenClaim := { program := "ytbbikkmmdedaiaa", sum := "1f11aa4303727c242292fe2b993c1b1488e1e6758daf9de98dcb69c5e7b508d9", func := "lightship/lightshiplaw41.LagrangeThrough", spec := "lagrangeThrough", unfollowed := true, recurses := true, apart := false }
def LagrangeThroughSaid : Prop := lagrangeThroughRow.holds Try.pinned (OpenSpec.ofChange lagrangeThroughSpec)

/-- ITS FALSE NEIGHBOUR: 'it returns false'. Refute it at one input. -/
def lagrangeThroughWrong : ChangeSpec := { name := "lagrangeThrough", fn := fun _ => fun
  | [d1, d2, d3] => { results := [.lit (.bool false)], args := [d1, d2, d3] }
  | _ => none }
def LagrangeThroughWrongFalsely : Prop := lagrangeThroughRow.holds Try.pinned (OpenSpec.ofChange lagrangeThroughWrong)

/-- 'lightshiplaw41.LagrangeMeets': WHATEVER THE INPUT: true; the input reads as it did. -/
def lagrangeMeetsSpec : ChangeSpec := { name := "lagrangeMeets", fn := fun _ => fun
  | [d1, d2] => { results := [.lit (.bool true)], args := [d1, d2] }
  | _ => none }
def lagrangeMeetsRow : OpenClaim := { program := "ytbbikkmmdedaiaa", sum := "1f11aa4303727c242292fe2b993c1b1488e1e6758daf9de98dcb69c5e7b508d9", func := "lightship/lightshiplaw41.LagrangeMeets", spec := "lagrangeMeets", unfollowed := true, recurses := true, apart := false }
def LagrangeMeetsSaid : Prop := lagrangeMeetsRow.holds Try.pinned (OpenSpec.ofChange lagrangeMeetsSpec)

/-- ITS FALSE NEIGHBOUR: 'it returns false'. Refute it at one input. -/
def lagrangeMeetsWrong : ChangeSpec := { name := "lagrangeMeets", fn := fun _ => fun
  | [d1, d2] => { results := [.lit (.bool false)], args := [d1, d2] }
  | _ => none }
def LagrangeMeetsWrongFalsely : Prop := lagrangeMeetsRow.holds Try.pinned (OpenSpec.ofChange lagrangeMeetsWrong)

/-- 'lightshiplaw41.LagrangeZeros': WHATEVER THE INPUT: true; the input reads as it did. -/
def lagrangeZerosSpec : ChangeSpec := { name := "lagrangeZeros", fn := fun _ => fun
  | [d1, d2] => { results := [.lit (.bool true)], args := [d1, d2] }
  | _ => none }
def lagrangeZerosRow : OpenClaim := { program := "ytbbikkmmdedaiaa", sum := "1f11aa4303727c242292fe2b993c1b1488e1e6758daf9de98dcb69c5e7b508d9", func := "lightship/lightshiplaw41.LagrangeZeros", spec := "lagrangeZeros", unfollowed := true, recurses := true, apart := false }
def LagrangeZerosSaid : Prop := lagrangeZerosRow.holds Try.pinned (OpenSpec.ofChange lagrangeZerosSpec)

/-- ITS FALSE NEIGHBOUR: 'it returns false'. Refute it at one input. -/
def lagrangeZerosWrong : ChangeSpec := { name := "lagrangeZeros", fn := fun _ => fun
  | [d1, d2] => { results := [.lit (.bool false)], args := [d1, d2] }
  | _ => none }
def LagrangeZerosWrongFalsely : Prop := lagrangeZerosRow.holds Try.pinned (OpenSpec.ofChange lagrangeZerosWrong)

/-- 'lightshiplaw42.MendPuts': WHATEVER THE INPUT: true; the input reads as it did. -/
def mendPutsSpec : ChangeSpec := { name := "mendPuts", fn := fun _ => fun
  | [d1, d2] => { results := [.lit (.bool true)], args := [d1, d2] }
  | _ => none }
def mendPutsRow : OpenClaim := { program := "ytbbikkmmdedaiaa", sum := "1f11aa4303727c242292fe2b993c1b1488e1e6758daf9de98dcb69c5e7b508d9", func := "lightship/lightshiplaw42.MendPuts", spec := "mendPuts", unfollowed := true, recurses := true, apart := false }
def MendPutsSaid : Prop := mendPutsRow.holds Try.pinned (OpenSpec.ofChange mendPutsSpec)

/-- ITS FALSE NEIGHBOUR: 'it returns false'. Refute it at one input. -/
def mendPutsWrong : ChangeSpec := { name := "mendPuts", fn := fun _ => fun
  | [d1, d2] => { results := [.lit (.bool false)], args := [d1, d2] }
  | _ => none }
def MendPutsWrongFalsely : Prop := mendPutsRow.holds Try.pinned (OpenSpec.ofChange mendPutsWrong)

/-- 'lightshiplaw42.MendReads': WHATEVER THE INPUT: true; the input reads as it did. -/
def mendReadsSpec : ChangeSpec := { name := "mendReads", fn := fun _ => fun
  | [d1, d2] => { results := [.lit (.bool true)], args := [d1, d2] }
  | _ => none }
def mendReadsRow : OpenClaim := { program := "ytbbikkmmdedaiaa", sum := "1f11aa4303727c242292fe2b993c1b1488e1e6758daf9de98dcb69c5e7b508d9", func := "lightship/lightshiplaw42.MendReads", spec := "mendReads", unfollowed := true, recurses := true, apart := false }
def MendReadsSaid : Prop := mendReadsRow.holds Try.pinned (OpenSpec.ofChange mendReadsSpec)

/-- ITS FALSE NEIGHBOUR: 'it returns false'. Refute it at one input. -/
def mendReadsWrong : ChangeSpec := { name := "mendReads", fn := fun _ => fun
  | [d1, d2] => { results := [.lit (.bool false)], args := [d1, d2] }
  | _ => none }
def MendReadsWrongFalsely : Prop := mendReadsRow.holds Try.pinned (OpenSpec.ofChange mendReadsWrong)

/-- 'lightshiplaw42.MendBack': WHATEVER THE INPUT: true; the input reads as it did. -/
def mendBackSpec : ChangeSpec := { name := "mendBack", fn := fun _ => fun
  | [d1, d2, d3] => { results := [.lit (.bool true)], args := [d1, d2, d3] }
  | _ => none }
def mendBackRow : OpenClaim := { program := "ytbbikkmmdedaiaa", sum := "1f11aa4303727c242292fe2b993c1b1488e1e6758daf9de98dcb69c5e7b508d9", func := "lightship/lightshiplaw42.MendBack", spec := "mendBack", unfollowed := true, recurses := true, apart := false }
def MendBackSaid : Prop := mendBackRow.holds Try.pinned (OpenSpec.ofChange mendBackSpec)

/-- ITS FALSE NEIGHBOUR: 'it returns false'. Refute it at one input. -/
def mendBackWrong : ChangeSpec := { name := "mendBack", fn := fun _ => fun
  | [d1, d2, d3] => { results := [.lit (.bool false)], args := [d1, d2, d3] }
  | _ => none }
def MendBackWrongFalsely : Prop := mendBackRow.holds Try.pinned (OpenSpec.ofChange mendBackWrong)

/- THE SECOND FORM. 'bulk': how many values and letters a reading holds, each counted each time it is reached (what is shared counts as often as it is met; a slice's spare places count too). A statement '..UptoSaid' is the law's where the arguments, and the package variables that the reading takes, are together of bulk at most 1048576: NARROWER than '..Said'. Prove '..Said' where nothing that the law and all that it calls make is longer than what came in: it says more and counts as full. Else prove '..UptoSaid'. A law counts once. -/
mutual
def uptoBulk {H : Type} : DataW H → Nat
  | .lit (.string bytes) => bytes.length + 1
  | .lit _ => 1
  | .nil => 1
  | .ptr d => uptoBulk d + 1
  | .slice elems spare => uptoBulkAll elems + uptoBulkAll spare + 1
  | .agg parts => uptoBulkAll parts + 1
  | .iface _ d => uptoBulk d + 1
  | .map entries => uptoBulkEntries entries + 1
  | .held _ => 1
def uptoBulkAll {H : Type} : List (DataW H) → Nat
  | [] => 0
  | d :: r => uptoBulk d + uptoBulkAll r
def uptoBulkEntries {H : Type} : List (Lit × DataW H) → Nat
  | [] => 0
  | x :: r => uptoBulkEntry x + uptoBulkEntries r
def uptoBulkEntry {H : Type} : Lit × DataW H → Nat
  | (.string bytes, d) => bytes.length + uptoBulk d + 1
  | (_, d) => uptoBulk d + 1
 end
def uptoSmall : (H : Type) → List (DataW H) → Bool := fun _ ds => decide (uptoBulkAll ds ≤ 1048576)
def OpenSpec.upto (s : _root_.Go.ChangeSpec) : _root_.Go.OpenSpec := { _root_.Go.OpenSpec.ofChange s with cond := some uptoSmall }

/-- 'lightshiplaw02.VectorReckons', WHERE WHAT IT READS IS OF BULK AT MOST 1048576: true; the input reads as it did. -/
def vectorReckonsUptoRow : OpenClaim := { program := "ytbbikkmmdedaiaa", sum := "1f11aa4303727c242292fe2b993c1b1488e1e6758daf9de98dcb69c5e7b508d9", func := "lightship/lightshiplaw02.VectorReckons", spec := "vectorReckons", apart := false, narrowed := true }
def VectorReckonsUptoSaid : Prop := vectorReckonsUptoRow.holds Try.pinned (OpenSpec.upto vectorReckonsSpec)

/-- 'lightshiplaw02.VectorBack', WHERE WHAT IT READS IS OF BULK AT MOST 1048576: true; the input reads as it did. -/
def vectorBackUptoRow : OpenClaim := { program := "ytbbikkmmdedaiaa", sum := "1f11aa4303727c242292fe2b993c1b1488e1e6758daf9de98dcb69c5e7b508d9", func := "lightship/lightshiplaw02.VectorBack", spec := "vectorBack", apart := false, narrowed := true }
def VectorBackUptoSaid : Prop := vectorBackUptoRow.holds Try.pinned (OpenSpec.upto vectorBackSpec)

/-- 'lightshiplaw01.GfReckons', WHERE WHAT IT READS IS OF BULK AT MOST 1048576: true; the input reads as it did. -/
def gfReckonsUptoRow : OpenClaim := { program := "ytbbikkmmdedaiaa", sum := "1f11aa4303727c242292fe2b993c1b1488e1e6758daf9de98dcb69c5e7b508d9", func := "lightship/lightshiplaw01.GfReckons", spec := "gfReckons", apart := false, narrowed := true }
def GfReckonsUptoSaid : Prop := gfReckonsUptoRow.holds Try.pinned (OpenSpec.upto gfReckonsSpec)

/-- 'lightshiplaw01.GfPowers', WHERE WHAT IT READS IS OF BULK AT MOST 1048576: true; the input reads as it did. -/
def gfPowersUptoRow : OpenClaim := { program := "ytbbikkmmdedaiaa", sum := "1f11aa4303727c242292fe2b993c1b1488e1e6758daf9de98dcb69c5e7b508d9", func := "lightship/lightshiplaw01.GfPowers", spec := "gfPowers", apart := false, narrowed := true }
def GfPowersUptoSaid : Prop := gfPowersUptoRow.holds Try.pinned (OpenSpec.upto gfPowersSpec)

/-- 'lightshiplaw01.GfField', WHERE WHAT IT READS IS OF BULK AT MOST 1048576: true; the input reads as it did. -/
def gfFieldUptoRow : OpenClaim := { program := "ytbbikkmmdedaiaa", sum := "1f11aa4303727c242292fe2b993c1b1488e1e6758daf9de98dcb69c5e7b508d9", func := "lightship/lightshiplaw01.GfField", spec := "gfField", apart := false, narrowed := true }
def GfFieldUptoSaid : Prop := gfFieldUptoRow.holds Try.pinned (OpenSpec.upto gfFieldSpec)

/-- 'lightshiplaw01.GfLogs', WHERE WHAT IT READS IS OF BULK AT MOST 1048576: true; the input reads as it did. -/
def gfLogsUptoRow : OpenClaim := { program := "ytbbikkmmdedaiaa", sum := "1f11aa4303727c242292fe2b993c1b1488e1e6758daf9de98dcb69c5e7b508d9", func := "lightship/lightshiplaw01.GfLogs", spec := "gfLogs", apart := false, narrowed := true }
def GfLogsUptoSaid : Prop := gfLogsUptoRow.holds Try.pinned (OpenSpec.upto gfLogsSpec)

/-- 'lightshiplaw40.PolyReckons', WHERE WHAT IT READS IS OF BULK AT MOST 1048576: true; the input reads as it did. -/
def polyReckonsUptoRow : OpenClaim := { program := "ytbbikkmmdedaiaa", sum := "1f11aa4303727c242292fe2b993c1b1488e1e6758daf9de98dcb69c5e7b508d9", func := "lightship/lightshiplaw40.PolyReckons", spec := "polyReckons", apart := false, narrowed := true }
def PolyReckonsUptoSaid : Prop := polyReckonsUptoRow.holds Try.pinned (OpenSpec.upto polyReckonsSpec)

/-- 'lightshiplaw40.PolyDivides', WHERE WHAT IT READS IS OF BULK AT MOST 1048576: true; the input reads as it did. -/
def polyDividesUptoRow : OpenClaim := { program := "ytbbikkmmdedaiaa", sum := "1f11aa4303727c242292fe2b993c1b1488e1e6758daf9de98dcb69c5e7b508d9", func := "lightship/lightshiplaw40.PolyDivides", spec := "polyDivides", apart := false, narrowed := true }
def PolyDividesUptoSaid : Prop := polyDividesUptoRow.holds Try.pinned (OpenSpec.upto polyDividesSpec)

/-- 'lightshiplaw40.PolyValues', WHERE WHAT IT READS IS OF BULK AT MOST 1048576: true; the input reads as it did. -/
def polyValuesUptoRow : OpenClaim := { program := "ytbbikkmmdedaiaa", sum := "1f11aa4303727c242292fe2b993c1b1488e1e6758daf9de98dcb69c5e7b508d9", func := "lightship/lightshiplaw40.PolyValues", spec := "polyValues", apart := false, narrowed := true }
def PolyValuesUptoSaid : Prop := polyValuesUptoRow.holds Try.pinned (OpenSpec.upto polyValuesSpec)

/-- 'lightshiplaw41.LagrangeThrough', WHERE WHAT IT READS IS OF BULK AT MOST 1048576: true; the input reads as it did. -/
def lagrangeThroughUptoRow : OpenClaim := { program := "ytbbikkmmdedaiaa", sum := "1f11aa4303727c242292fe2b993c1b1488e1e6758daf9de98dcb69c5e7b508d9", func := "lightship/lightshiplaw41.LagrangeThrough", spec := "lagrangeThrough", unfollowed := true, recurses := true, apart := false, narrowed := true }
def LagrangeThroughUptoSaid : Prop := lagrangeThroughUptoRow.holds Try.pinned (OpenSpec.upto lagrangeThroughSpec)

/-- 'lightshiplaw41.LagrangeMeets', WHERE WHAT IT READS IS OF BULK AT MOST 1048576: true; the input reads as it did. -/
def lagrangeMeetsUptoRow : OpenClaim := { program := "ytbbikkmmdedaiaa", sum := "1f11aa4303727c242292fe2b993c1b1488e1e6758daf9de98dcb69c5e7b508d9", func := "lightship/lightshiplaw41.LagrangeMeets", spec := "lagrangeMeets", unfollowed := true, recurses := true, apart := false, narrowed := true }
def LagrangeMeetsUptoSaid : Prop := lagrangeMeetsUptoRow.holds Try.pinned (OpenSpec.upto lagrangeMeetsSpec)

/-- 'lightshiplaw41.LagrangeZeros', WHERE WHAT IT READS IS OF BULK AT MOST 1048576: true; the input reads as it did. -/
def lagrangeZerosUptoRow : OpenClaim := { program := "ytbbikkmmdedaiaa", sum := "1f11aa4303727c242292fe2b993c1b1488e1e6758daf9de98dcb69c5e7b508d9", func := "lightship/lightshiplaw41.LagrangeZeros", spec := "lagrangeZeros", unfollowed := true, recurses := true, apart := false, narrowed := true }
def LagrangeZerosUptoSaid : Prop := lagrangeZerosUptoRow.holds Try.pinned (OpenSpec.upto lagrangeZerosSpec)

/-- 'lightshiplaw42.MendPuts', WHERE WHAT IT READS IS OF BULK AT MOST 1048576: true; the input reads as it did. -/
def mendPutsUptoRow : OpenClaim := { program := "ytbbikkmmdedaiaa", sum := "1f11aa4303727c242292fe2b993c1b1488e1e6758daf9de98dcb69c5e7b508d9", func := "lightship/lightshiplaw42.MendPuts", spec := "mendPuts", unfollowed := true, recurses := true, apart := false, narrowed := true }
def MendPutsUptoSaid : Prop := mendPutsUptoRow.holds Try.pinned (OpenSpec.upto mendPutsSpec)

/-- 'lightshiplaw42.MendReads', WHERE WHAT IT READS IS OF BULK AT MOST 1048576: true; the input reads as it did. -/
def mendReadsUptoRow : OpenClaim := { program := "ytbbikkmmdedaiaa", sum := "1f11aa4303727c242292fe2b993c1b1488e1e6758daf9de98dcb69c5e7b508d9", func := "lightship/lightshiplaw42.MendReads", spec := "mendReads", unfollowed := true, recurses := true, apart := false, narrowed := true }
def MendReadsUptoSaid : Prop := mendReadsUptoRow.holds Try.pinned (OpenSpec.upto mendReadsSpec)

/-- 'lightshiplaw42.MendBack', WHERE WHAT IT READS IS OF BULK AT MOST 1048576: true; the input reads as it did. -/
def mendBackUptoRow : OpenClaim := { program := "ytbbikkmmdedaiaa", sum := "1f11aa4303727c242292fe2b993c1b1488e1e6758daf9de98dcb69c5e7b508d9", func := "lightship/lightshiplaw42.MendBack", spec := "mendBack", unfollowed := true, recurses := true, apart := false, narrowed := true }
def MendBackUptoSaid : Prop := mendBackUptoRow.holds Try.pinned (OpenSpec.upto mendBackSpec)

end Rows
end Go.Proofs.Ytbbikkmmdedaiaa
