/-
  No cell of these rows narrows 'for every input' (looked for: loops, veiled, ifaces, maps, wideKeys, modest, calm, conditions, laid).
  DERIVED. THE GIVEN ROWS OF THIS SEAT. 12 by the template 'for every input the law returns true; each argument reads behind the call as it read before'; 0 by the template 'total and deterministic' (their statements: YtfghllgkbdfedaaTotals.lean).
  GIVEN WITH THE SEED: the statements are not yours to turn. If you find one false, say at which input.
  Laid BY PROGRAM, IN A SANDBOX (cutbox-rows.mjs): the forced cells as the released guide's own fill.sh prints them over the translation 70e2ef1c3fff6995… (all of the seat's roots in one cut). By AI agents, Wed Nov 11 2026. No macro, syntax, notation, axiom, sorry.
-/
import Derived.Test.YtfghllgkbdfedaaChecked
import GoSem.Claim
import GoSem.ClaimJoined
import GoSem.ClaimMapViews
import Derived.JoinedTies
import Derived.KernelRfl
namespace Go.Proofs.Ytfghllgkbdfedaa
/- THE CELL 'sum', in the pinned program and in every row, IS THE sha256 OF THE DUMP (.gsa) THAT YtfghllgkbdfedaaProg.lean LOADS. Nothing in Lean hashes anything: it is a label: what it is worth is what the hold of that sum in a sandbox is worth. -/
noncomputable def Try.pinned : Pinned := { name := "ytfghllgkbdfedaa", sum := "70e2ef1c3fff6995b725bee2317d765d3efc4ab347ad2def8385c337a1c87513", checked := Try.checked }
namespace Rows
def none {H : Type} : Left H := { results := [], args := [] }

/-- 'lightshiplaw07.CrcSums': WHATEVER THE INPUT: true; the input reads as it did. -/
def crcSumsSpec : ChangeSpec := { name := "crcSums", fn := fun _ => fun
  | [d1, d2] => { results := [.lit (.bool true)], args := [d1, d2] }
  | _ => none }
def crcSumsRow : OpenClaim := { program := "ytfghllgkbdfedaa", sum := "70e2ef1c3fff6995b725bee2317d765d3efc4ab347ad2def8385c337a1c87513", func := "lightship/lightshiplaw07.CrcSums", spec := "crcSums", apart := false }
def CrcSumsSaid : Prop := crcSumsRow.holds Try.pinned (OpenSpec.ofChange crcSumsSpec)

/-- ITS FALSE NEIGHBOUR: 'it returns false'. Refute it at one input. -/
def crcSumsWrong : ChangeSpec := { name := "crcSums", fn := fun _ => fun
  | [d1, d2] => { results := [.lit (.bool false)], args := [d1, d2] }
  | _ => none }
def CrcSumsWrongFalsely : Prop := crcSumsRow.holds Try.pinned (OpenSpec.ofChange crcSumsWrong)

/-- 'lightshiplaw07.CrcParts': WHATEVER THE INPUT: true; the input reads as it did. -/
def crcPartsSpec : ChangeSpec := { name := "crcParts", fn := fun _ => fun
  | [d1, d2] => { results := [.lit (.bool true)], args := [d1, d2] }
  | _ => none }
def crcPartsRow : OpenClaim := { program := "ytfghllgkbdfedaa", sum := "70e2ef1c3fff6995b725bee2317d765d3efc4ab347ad2def8385c337a1c87513", func := "lightship/lightshiplaw07.CrcParts", spec := "crcParts", apart := false }
def CrcPartsSaid : Prop := crcPartsRow.holds Try.pinned (OpenSpec.ofChange crcPartsSpec)

/-- ITS FALSE NEIGHBOUR: 'it returns false'. Refute it at one input. -/
def crcPartsWrong : ChangeSpec := { name := "crcParts", fn := fun _ => fun
  | [d1, d2] => { results := [.lit (.bool false)], args := [d1, d2] }
  | _ => none }
def CrcPartsWrongFalsely : Prop := crcPartsRow.holds Try.pinned (OpenSpec.ofChange crcPartsWrong)

/-- 'lightshiplaw07.CrcOne': WHATEVER THE INPUT: true; the input reads as it did. -/
def crcOneSpec : ChangeSpec := { name := "crcOne", fn := fun _ => fun
  | [d1, d2, d3] => { results := [.lit (.bool true)], args := [d1, d2, d3] }
  | _ => none }
def crcOneRow : OpenClaim := { program := "ytfghllgkbdfedaa", sum := "70e2ef1c3fff6995b725bee2317d765d3efc4ab347ad2def8385c337a1c87513", func := "lightship/lightshiplaw07.CrcOne", spec := "crcOne", apart := false }
def CrcOneSaid : Prop := crcOneRow.holds Try.pinned (OpenSpec.ofChange crcOneSpec)

/-- ITS FALSE NEIGHBOUR: 'it returns false'. Refute it at one input. -/
def crcOneWrong : ChangeSpec := { name := "crcOne", fn := fun _ => fun
  | [d1, d2, d3] => { results := [.lit (.bool false)], args := [d1, d2, d3] }
  | _ => none }
def CrcOneWrongFalsely : Prop := crcOneRow.holds Try.pinned (OpenSpec.ofChange crcOneWrong)

/-- 'lightshiplaw53.VarintReads': WHATEVER THE INPUT: true; the input reads as it did. -/
def varintReadsSpec : ChangeSpec := { name := "varintReads", fn := fun _ => fun
  | [d1, d2] => { results := [.lit (.bool true)], args := [d1, d2] }
  | _ => none }
def varintReadsRow : OpenClaim := { program := "ytfghllgkbdfedaa", sum := "70e2ef1c3fff6995b725bee2317d765d3efc4ab347ad2def8385c337a1c87513", func := "lightship/lightshiplaw53.VarintReads", spec := "varintReads", recurses := true, apart := false }
def VarintReadsSaid : Prop := varintReadsRow.holds Try.pinned (OpenSpec.ofChange varintReadsSpec)

/-- ITS FALSE NEIGHBOUR: 'it returns false'. Refute it at one input. -/
def varintReadsWrong : ChangeSpec := { name := "varintReads", fn := fun _ => fun
  | [d1, d2] => { results := [.lit (.bool false)], args := [d1, d2] }
  | _ => none }
def VarintReadsWrongFalsely : Prop := varintReadsRow.holds Try.pinned (OpenSpec.ofChange varintReadsWrong)

/-- 'lightshiplaw53.VarintBack': WHATEVER THE INPUT: true; the input reads as it did. -/
def varintBackSpec : ChangeSpec := { name := "varintBack", fn := fun _ => fun
  | [d1, d2] => { results := [.lit (.bool true)], args := [d1, d2] }
  | _ => none }
def varintBackRow : OpenClaim := { program := "ytfghllgkbdfedaa", sum := "70e2ef1c3fff6995b725bee2317d765d3efc4ab347ad2def8385c337a1c87513", func := "lightship/lightshiplaw53.VarintBack", spec := "varintBack", apart := false }
def VarintBackSaid : Prop := varintBackRow.holds Try.pinned (OpenSpec.ofChange varintBackSpec)

/-- ITS FALSE NEIGHBOUR: 'it returns false'. Refute it at one input. -/
def varintBackWrong : ChangeSpec := { name := "varintBack", fn := fun _ => fun
  | [d1, d2] => { results := [.lit (.bool false)], args := [d1, d2] }
  | _ => none }
def VarintBackWrongFalsely : Prop := varintBackRow.holds Try.pinned (OpenSpec.ofChange varintBackWrong)

/-- 'lightshiplaw53.VarintZig': WHATEVER THE INPUT: true; the input reads as it did. -/
def varintZigSpec : ChangeSpec := { name := "varintZig", fn := fun _ => fun
  | [d1, d2] => { results := [.lit (.bool true)], args := [d1, d2] }
  | _ => none }
def varintZigRow : OpenClaim := { program := "ytfghllgkbdfedaa", sum := "70e2ef1c3fff6995b725bee2317d765d3efc4ab347ad2def8385c337a1c87513", func := "lightship/lightshiplaw53.VarintZig", spec := "varintZig", apart := false }
def VarintZigSaid : Prop := varintZigRow.holds Try.pinned (OpenSpec.ofChange varintZigSpec)

/-- ITS FALSE NEIGHBOUR: 'it returns false'. Refute it at one input. -/
def varintZigWrong : ChangeSpec := { name := "varintZig", fn := fun _ => fun
  | [d1, d2] => { results := [.lit (.bool false)], args := [d1, d2] }
  | _ => none }
def VarintZigWrongFalsely : Prop := varintZigRow.holds Try.pinned (OpenSpec.ofChange varintZigWrong)

/-- 'lightshiplaw54.ReplayTakes': WHATEVER THE INPUT: true; the input reads as it did. -/
def replayTakesSpec : ChangeSpec := { name := "replayTakes", fn := fun _ => fun
  | [d1, d2] => { results := [.lit (.bool true)], args := [d1, d2] }
  | _ => none }
def replayTakesRow : OpenClaim := { program := "ytfghllgkbdfedaa", sum := "70e2ef1c3fff6995b725bee2317d765d3efc4ab347ad2def8385c337a1c87513", func := "lightship/lightshiplaw54.ReplayTakes", spec := "replayTakes", apart := false }
def ReplayTakesSaid : Prop := replayTakesRow.holds Try.pinned (OpenSpec.ofChange replayTakesSpec)

/-- ITS FALSE NEIGHBOUR: 'it returns false'. Refute it at one input. -/
def replayTakesWrong : ChangeSpec := { name := "replayTakes", fn := fun _ => fun
  | [d1, d2] => { results := [.lit (.bool false)], args := [d1, d2] }
  | _ => none }
def ReplayTakesWrongFalsely : Prop := replayTakesRow.holds Try.pinned (OpenSpec.ofChange replayTakesWrong)

/-- 'lightshiplaw54.ReplayOnce': WHATEVER THE INPUT: true; the input reads as it did. -/
def replayOnceSpec : ChangeSpec := { name := "replayOnce", fn := fun _ => fun
  | [d1, d2] => { results := [.lit (.bool true)], args := [d1, d2] }
  | _ => none }
def replayOnceRow : OpenClaim := { program := "ytfghllgkbdfedaa", sum := "70e2ef1c3fff6995b725bee2317d765d3efc4ab347ad2def8385c337a1c87513", func := "lightship/lightshiplaw54.ReplayOnce", spec := "replayOnce", apart := false }
def ReplayOnceSaid : Prop := replayOnceRow.holds Try.pinned (OpenSpec.ofChange replayOnceSpec)

/-- ITS FALSE NEIGHBOUR: 'it returns false'. Refute it at one input. -/
def replayOnceWrong : ChangeSpec := { name := "replayOnce", fn := fun _ => fun
  | [d1, d2] => { results := [.lit (.bool false)], args := [d1, d2] }
  | _ => none }
def ReplayOnceWrongFalsely : Prop := replayOnceRow.holds Try.pinned (OpenSpec.ofChange replayOnceWrong)

/-- 'lightshiplaw46.PacerPlays': WHATEVER THE INPUT: true; the input reads as it did. -/
def pacerPlaysSpec : ChangeSpec := { name := "pacerPlays", fn := fun _ => fun
  | [d1, d2, d3] => { results := [.lit (.bool true)], args := [d1, d2, d3] }
  | _ => none }
def pacerPlaysRow : OpenClaim := { program := "ytfghllgkbdfedaa", sum := "70e2ef1c3fff6995b725bee2317d765d3efc4ab347ad2def8385c337a1c87513", func := "lightship/lightshiplaw46.PacerPlays", spec := "pacerPlays", unfollowed := true, recurses := true, apart := false }
def PacerPlaysSaid : Prop := pacerPlaysRow.holds Try.pinned (OpenSpec.ofChange pacerPlaysSpec)

/-- ITS FALSE NEIGHBOUR: 'it returns false'. Refute it at one input. -/
def pacerPlaysWrong : ChangeSpec := { name := "pacerPlays", fn := fun _ => fun
  | [d1, d2, d3] => { results := [.lit (.bool false)], args := [d1, d2, d3] }
  | _ => none }
def PacerPlaysWrongFalsely : Prop := pacerPlaysRow.holds Try.pinned (OpenSpec.ofChange pacerPlaysWrong)

/-- 'lightshiplaw46.PacerHolds': WHATEVER THE INPUT: true; the input reads as it did. -/
def pacerHoldsSpec : ChangeSpec := { name := "pacerHolds", fn := fun _ => fun
  | [d1, d2, d3] => { results := [.lit (.bool true)], args := [d1, d2, d3] }
  | _ => none }
def pacerHoldsRow : OpenClaim := { program := "ytfghllgkbdfedaa", sum := "70e2ef1c3fff6995b725bee2317d765d3efc4ab347ad2def8385c337a1c87513", func := "lightship/lightshiplaw46.PacerHolds", spec := "pacerHolds", unfollowed := true, recurses := true, apart := false }
def PacerHoldsSaid : Prop := pacerHoldsRow.holds Try.pinned (OpenSpec.ofChange pacerHoldsSpec)

/-- ITS FALSE NEIGHBOUR: 'it returns false'. Refute it at one input. -/
def pacerHoldsWrong : ChangeSpec := { name := "pacerHolds", fn := fun _ => fun
  | [d1, d2, d3] => { results := [.lit (.bool false)], args := [d1, d2, d3] }
  | _ => none }
def PacerHoldsWrongFalsely : Prop := pacerHoldsRow.holds Try.pinned (OpenSpec.ofChange pacerHoldsWrong)

/-- 'lightshiplaw57.DeltaPuts': WHATEVER THE INPUT: true; the input reads as it did. -/
def deltaPutsSpec : ChangeSpec := { name := "deltaPuts", fn := fun _ => fun
  | [d] => { results := [.lit (.bool true)], args := [d] }
  | _ => none }
def deltaPutsRow : OpenClaim := { program := "ytfghllgkbdfedaa", sum := "70e2ef1c3fff6995b725bee2317d765d3efc4ab347ad2def8385c337a1c87513", func := "lightship/lightshiplaw57.DeltaPuts", spec := "deltaPuts", inPlace := ["internal/abi.NoEscape"], unfollowed := true, recurses := true, apart := false }
def DeltaPutsSaid : Prop := deltaPutsRow.holds Try.pinned (OpenSpec.ofChange deltaPutsSpec)

/-- ITS FALSE NEIGHBOUR: 'it returns false'. Refute it at one input. -/
def deltaPutsWrong : ChangeSpec := { name := "deltaPuts", fn := fun _ => fun
  | [d] => { results := [.lit (.bool false)], args := [d] }
  | _ => none }
def DeltaPutsWrongFalsely : Prop := deltaPutsRow.holds Try.pinned (OpenSpec.ofChange deltaPutsWrong)

/-- 'lightshiplaw57.DeltaBack': WHATEVER THE INPUT: true; the input reads as it did. -/
def deltaBackSpec : ChangeSpec := { name := "deltaBack", fn := fun _ => fun
  | [d1, d2] => { results := [.lit (.bool true)], args := [d1, d2] }
  | _ => none }
def deltaBackRow : OpenClaim := { program := "ytfghllgkbdfedaa", sum := "70e2ef1c3fff6995b725bee2317d765d3efc4ab347ad2def8385c337a1c87513", func := "lightship/lightshiplaw57.DeltaBack", spec := "deltaBack", inPlace := ["internal/abi.NoEscape"], unfollowed := true, recurses := true, apart := false }
def DeltaBackSaid : Prop := deltaBackRow.holds Try.pinned (OpenSpec.ofChange deltaBackSpec)

/-- ITS FALSE NEIGHBOUR: 'it returns false'. Refute it at one input. -/
def deltaBackWrong : ChangeSpec := { name := "deltaBack", fn := fun _ => fun
  | [d1, d2] => { results := [.lit (.bool false)], args := [d1, d2] }
  | _ => none }
def DeltaBackWrongFalsely : Prop := deltaBackRow.holds Try.pinned (OpenSpec.ofChange deltaBackWrong)

/- THE SECOND FORM. 'bulk': how many values and letters a reading holds, each counted each time it is reached (what is shared counts as often as it is met; a slice's spare places count too). A statement '..UptoSaid' is the law's where the arguments, and the package variables that the reading takes, are together of bulk at most 1048576: NARROWER than '..Said'. Prove '..Said' where nothing that the law and all that it calls make is longer than what came in: it says more and counts as full. Else prove '..UptoSaid'. A law counts once. -/
mutual
def uptoBulk {H : Type} : DataW H → Nat
  | .lit (.string bytes) => bytes.length + 1
  | .lit _ => 1
  | .nil => 1
  | .ptr d => uptoBulk d + 1
  | .slice elems spare => uptoBulkAll elems + uptoBulkAll spare + 1
  | .agg parts => uptoBulkAll parts + 1
  | .iface _ d => uptoBulk d + 1
  | .map entries => uptoBulkEntries entries + 1
  | .held _ => 1
def uptoBulkAll {H : Type} : List (DataW H) → Nat
  | [] => 0
  | d :: r => uptoBulk d + uptoBulkAll r
def uptoBulkEntries {H : Type} : List (Lit × DataW H) → Nat
  | [] => 0
  | x :: r => uptoBulkEntry x + uptoBulkEntries r
def uptoBulkEntry {H : Type} : Lit × DataW H → Nat
  | (.string bytes, d) => bytes.length + uptoBulk d + 1
  | (_, d) => uptoBulk d + 1
 end
def uptoSmall : (H : Type) → List (DataW H) → Bool := fun _ ds => decide (uptoBulkAll ds ≤ 1048576)
def OpenSpec.upto (s : _root_.Go.ChangeSpec) : _root_.Go.OpenSpec := { _root_.Go.OpenSpec.ofChange s with cond := some uptoSmall }

/-- 'lightshiplaw07.CrcSums', WHERE WHAT IT READS IS OF BULK AT MOST 1048576: true; the input reads as it did. -/
def crcSumsUptoRow : OpenClaim := { program := "ytfghllgkbdfedaa", sum := "70e2ef1c3fff6995b725bee2317d765d3efc4ab347ad2def8385c337a1c87513", func := "lightship/lightshiplaw07.CrcSums", spec := "crcSums", apart := false, narrowed := true }
def CrcSumsUptoSaid : Prop := crcSumsUptoRow.holds Try.pinned (OpenSpec.upto crcSumsSpec)

/-- 'lightshiplaw07.CrcParts', WHERE WHAT IT READS IS OF BULK AT MOST 1048576: true; the input reads as it did. -/
def crcPartsUptoRow : OpenClaim := { program := "ytfghllgkbdfedaa", sum := "70e2ef1c3fff6995b725bee2317d765d3efc4ab347ad2def8385c337a1c87513", func := "lightship/lightshiplaw07.CrcParts", spec := "crcParts", apart := false, narrowed := true }
def CrcPartsUptoSaid : Prop := crcPartsUptoRow.holds Try.pinned (OpenSpec.upto crcPartsSpec)

/-- 'lightshiplaw07.CrcOne', WHERE WHAT IT READS IS OF BULK AT MOST 1048576: true; the input reads as it did. -/
def crcOneUptoRow : OpenClaim := { program := "ytfghllgkbdfedaa", sum := "70e2ef1c3fff6995b725bee2317d765d3efc4ab347ad2def8385c337a1c87513", func := "lightship/lightshiplaw07.CrcOne", spec := "crcOne", apart := false, narrowed := true }
def CrcOneUptoSaid : Prop := crcOneUptoRow.holds Try.pinned (OpenSpec.upto crcOneSpec)

/-- 'lightshiplaw53.VarintReads', WHERE WHAT IT READS IS OF BULK AT MOST 1048576: true; the input reads as it did. -/
def varintReadsUptoRow : OpenClaim := { program := "ytfghllgkbdfedaa", sum := "70e2ef1c3fff6995b725bee2317d765d3efc4ab347ad2def8385c337a1c87513", func := "lightship/lightshiplaw53.VarintReads", spec := "varintReads", recurses := true, apart := false, narrowed := true }
def VarintReadsUptoSaid : Prop := varintReadsUptoRow.holds Try.pinned (OpenSpec.upto varintReadsSpec)

/-- 'lightshiplaw53.VarintBack', WHERE WHAT IT READS IS OF BULK AT MOST 1048576: true; the input reads as it did. -/
def varintBackUptoRow : OpenClaim := { program := "ytfghllgkbdfedaa", sum := "70e2ef1c3fff6995b725bee2317d765d3efc4ab347ad2def8385c337a1c87513", func := "lightship/lightshiplaw53.VarintBack", spec := "varintBack", apart := false, narrowed := true }
def VarintBackUptoSaid : Prop := varintBackUptoRow.holds Try.pinned (OpenSpec.upto varintBackSpec)

/-- 'lightshiplaw53.VarintZig', WHERE WHAT IT READS IS OF BULK AT MOST 1048576: true; the input reads as it did. -/
def varintZigUptoRow : OpenClaim := { program := "ytfghllgkbdfedaa", sum := "70e2ef1c3fff6995b725bee2317d765d3efc4ab347ad2def8385c337a1c87513", func := "lightship/lightshiplaw53.VarintZig", spec := "varintZig", apart := false, narrowed := true }
def VarintZigUptoSaid : Prop := varintZigUptoRow.holds Try.pinned (OpenSpec.upto varintZigSpec)

/-- 'lightshiplaw54.ReplayTakes', WHERE WHAT IT READS IS OF BULK AT MOST 1048576: true; the input reads as it did. -/
def replayTakesUptoRow : OpenClaim := { program := "ytfghllgkbdfedaa", sum := "70e2ef1c3fff6995b725bee2317d765d3efc4ab347ad2def8385c337a1c87513", func := "lightship/lightshiplaw54.ReplayTakes", spec := "replayTakes", apart := false, narrowed := true }
def ReplayTakesUptoSaid : Prop := replayTakesUptoRow.holds Try.pinned (OpenSpec.upto replayTakesSpec)

/-- 'lightshiplaw54.ReplayOnce', WHERE WHAT IT READS IS OF BULK AT MOST 1048576: true; the input reads as it did. -/
def replayOnceUptoRow : OpenClaim := { program := "ytfghllgkbdfedaa", sum := "70e2ef1c3fff6995b725bee2317d765d3efc4ab347ad2def8385c337a1c87513", func := "lightship/lightshiplaw54.ReplayOnce", spec := "replayOnce", apart := false, narrowed := true }
def ReplayOnceUptoSaid : Prop := replayOnceUptoRow.holds Try.pinned (OpenSpec.upto replayOnceSpec)

/-- 'lightshiplaw46.PacerPlays', WHERE WHAT IT READS IS OF BULK AT MOST 1048576: true; the input reads as it did. -/
def pacerPlaysUptoRow : OpenClaim := { program := "ytfghllgkbdfedaa", sum := "70e2ef1c3fff6995b725bee2317d765d3efc4ab347ad2def8385c337a1c87513", func := "lightship/lightshiplaw46.PacerPlays", spec := "pacerPlays", unfollowed := true, recurses := true, apart := false, narrowed := true }
def PacerPlaysUptoSaid : Prop := pacerPlaysUptoRow.holds Try.pinned (OpenSpec.upto pacerPlaysSpec)

/-- 'lightshiplaw46.PacerHolds', WHERE WHAT IT READS IS OF BULK AT MOST 1048576: true; the input reads as it did. -/
def pacerHoldsUptoRow : OpenClaim := { program := "ytfghllgkbdfedaa", sum := "70e2ef1c3fff6995b725bee2317d765d3efc4ab347ad2def8385c337a1c87513", func := "lightship/lightshiplaw46.PacerHolds", spec := "pacerHolds", unfollowed := true, recurses := true, apart := false, narrowed := true }
def PacerHoldsUptoSaid : Prop := pacerHoldsUptoRow.holds Try.pinned (OpenSpec.upto pacerHoldsSpec)

/-- 'lightshiplaw57.DeltaPuts', WHERE WHAT IT READS IS OF BULK AT MOST 1048576: true; the input reads as it did. -/
def deltaPutsUptoRow : OpenClaim := { program := "ytfghllgkbdfedaa", sum := "70e2ef1c3fff6995b725bee2317d765d3efc4ab347ad2def8385c337a1c87513", func := "lightship/lightshiplaw57.DeltaPuts", spec := "deltaPuts", inPlace := ["internal/abi.NoEscape"], unfollowed := true, recurses := true, apart := false, narrowed := true }
def DeltaPutsUptoSaid : Prop := deltaPutsUptoRow.holds Try.pinned (OpenSpec.upto deltaPutsSpec)

/-- 'lightshiplaw57.DeltaBack', WHERE WHAT IT READS IS OF BULK AT MOST 1048576: true; the input reads as it did. -/
def deltaBackUptoRow : OpenClaim := { program := "ytfghllgkbdfedaa", sum := "70e2ef1c3fff6995b725bee2317d765d3efc4ab347ad2def8385c337a1c87513", func := "lightship/lightshiplaw57.DeltaBack", spec := "deltaBack", inPlace := ["internal/abi.NoEscape"], unfollowed := true, recurses := true, apart := false, narrowed := true }
def DeltaBackUptoSaid : Prop := deltaBackUptoRow.holds Try.pinned (OpenSpec.upto deltaBackSpec)

end Rows
end Go.Proofs.Ytfghllgkbdfedaa
