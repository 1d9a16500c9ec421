/-
  No cell of these rows narrows 'for every input' (looked for: loops, veiled, ifaces, maps, wideKeys, modest, calm, conditions, laid).
  DERIVED. THE GIVEN ROWS OF THIS SEAT. 7 by the template 'for every input the law returns true; each argument reads behind the call as it read before'; 0 by the template 'total and deterministic' (their statements: YtaaijmojlodefaaTotals.lean).
  GIVEN WITH THE SEED: the statements are not yours to turn. If you find one false, say at which input.
  Laid BY PROGRAM, IN A SANDBOX (cutbox-rows.mjs): the forced cells as the released guide's own fill.sh prints them over the translation 289a10cd40bbfd60… (all of the seat's roots in one cut). By AI agents, Wed Nov 11 2026. No macro, syntax, notation, axiom, sorry.
-/
import Derived.Test.YtaaijmojlodefaaChecked
import GoSem.Claim
import GoSem.ClaimJoined
import GoSem.ClaimMapViews
import Derived.JoinedTies
import Derived.KernelRfl
namespace Go.Proofs.Ytaaijmojlodefaa
/- THE CELL 'sum', in the pinned program and in every row, IS THE sha256 OF THE DUMP (.gsa) THAT YtaaijmojlodefaaProg.lean LOADS. Nothing in Lean hashes anything: it is a label: what it is worth is what the hold of that sum in a sandbox is worth. -/
noncomputable def Try.pinned : Pinned := { name := "ytaaijmojlodefaa", sum := "289a10cd40bbfd605b4407ed2cba621cacfc8f9ad3cd53554fb0474887df4b7d", checked := Try.checked }
namespace Rows
def none {H : Type} : Left H := { results := [], args := [] }

/-- 'fringelaw32.BandTables': WHATEVER THE INPUT: true; the input reads as it did. -/
def bandTablesSpec : ChangeSpec := { name := "bandTables", fn := fun _ => fun
  | [d1, d2, d3, d4] => { results := [.lit (.bool true)], args := [d1, d2, d3, d4] }
  | _ => none }
def bandTablesRow : OpenClaim := { program := "ytaaijmojlodefaa", sum := "289a10cd40bbfd605b4407ed2cba621cacfc8f9ad3cd53554fb0474887df4b7d", func := "fringe/fringelaw32.BandTables", spec := "bandTables", unfollowed := true, recurses := true, apart := false }
def BandTablesSaid : Prop := bandTablesRow.holds Try.pinned (OpenSpec.ofChange bandTablesSpec)

/-- ITS FALSE NEIGHBOUR: 'it returns false'. Refute it at one input. -/
def bandTablesWrong : ChangeSpec := { name := "bandTables", fn := fun _ => fun
  | [d1, d2, d3, d4] => { results := [.lit (.bool false)], args := [d1, d2, d3, d4] }
  | _ => none }
def BandTablesWrongFalsely : Prop := bandTablesRow.holds Try.pinned (OpenSpec.ofChange bandTablesWrong)

/-- 'fringelaw32.BandActs': WHATEVER THE INPUT: true; the input reads as it did. -/
def bandActsSpec : ChangeSpec := { name := "bandActs", fn := fun _ => fun
  | [d1, d2, d3] => { results := [.lit (.bool true)], args := [d1, d2, d3] }
  | _ => none }
def bandActsRow : OpenClaim := { program := "ytaaijmojlodefaa", sum := "289a10cd40bbfd605b4407ed2cba621cacfc8f9ad3cd53554fb0474887df4b7d", func := "fringe/fringelaw32.BandActs", spec := "bandActs", unfollowed := true, recurses := true, apart := false }
def BandActsSaid : Prop := bandActsRow.holds Try.pinned (OpenSpec.ofChange bandActsSpec)

/-- ITS FALSE NEIGHBOUR: 'it returns false'. Refute it at one input. -/
def bandActsWrong : ChangeSpec := { name := "bandActs", fn := fun _ => fun
  | [d1, d2, d3] => { results := [.lit (.bool false)], args := [d1, d2, d3] }
  | _ => none }
def BandActsWrongFalsely : Prop := bandActsRow.holds Try.pinned (OpenSpec.ofChange bandActsWrong)

/-- 'fringelaw32.BandFlat': WHATEVER THE INPUT: true; the input reads as it did. -/
def bandFlatSpec : ChangeSpec := { name := "bandFlat", fn := fun _ => fun
  | [d1, d2, d3, d4] => { results := [.lit (.bool true)], args := [d1, d2, d3, d4] }
  | _ => none }
def bandFlatRow : OpenClaim := { program := "ytaaijmojlodefaa", sum := "289a10cd40bbfd605b4407ed2cba621cacfc8f9ad3cd53554fb0474887df4b7d", func := "fringe/fringelaw32.BandFlat", spec := "bandFlat", unfollowed := true, recurses := true, apart := false }
def BandFlatSaid : Prop := bandFlatRow.holds Try.pinned (OpenSpec.ofChange bandFlatSpec)

/-- ITS FALSE NEIGHBOUR: 'it returns false'. Refute it at one input. -/
def bandFlatWrong : ChangeSpec := { name := "bandFlat", fn := fun _ => fun
  | [d1, d2, d3, d4] => { results := [.lit (.bool false)], args := [d1, d2, d3, d4] }
  | _ => none }
def BandFlatWrongFalsely : Prop := bandFlatRow.holds Try.pinned (OpenSpec.ofChange bandFlatWrong)

/-- 'fringelaw32.BandMeans': WHATEVER THE INPUT: true; the input reads as it did. -/
def bandMeansSpec : ChangeSpec := { name := "bandMeans", fn := fun _ => fun
  | [d1, d2, d3, d4] => { results := [.lit (.bool true)], args := [d1, d2, d3, d4] }
  | _ => none }
def bandMeansRow : OpenClaim := { program := "ytaaijmojlodefaa", sum := "289a10cd40bbfd605b4407ed2cba621cacfc8f9ad3cd53554fb0474887df4b7d", func := "fringe/fringelaw32.BandMeans", spec := "bandMeans", unfollowed := true, recurses := true, apart := false }
def BandMeansSaid : Prop := bandMeansRow.holds Try.pinned (OpenSpec.ofChange bandMeansSpec)

/-- ITS FALSE NEIGHBOUR: 'it returns false'. Refute it at one input. -/
def bandMeansWrong : ChangeSpec := { name := "bandMeans", fn := fun _ => fun
  | [d1, d2, d3, d4] => { results := [.lit (.bool false)], args := [d1, d2, d3, d4] }
  | _ => none }
def BandMeansWrongFalsely : Prop := bandMeansRow.holds Try.pinned (OpenSpec.ofChange bandMeansWrong)

/-- 'fringelaw32.BandRestores': WHATEVER THE INPUT: true; the input reads as it did. -/
def bandRestoresSpec : ChangeSpec := { name := "bandRestores", fn := fun _ => fun
  | [d1, d2, d3] => { results := [.lit (.bool true)], args := [d1, d2, d3] }
  | _ => none }
def bandRestoresRow : OpenClaim := { program := "ytaaijmojlodefaa", sum := "289a10cd40bbfd605b4407ed2cba621cacfc8f9ad3cd53554fb0474887df4b7d", func := "fringe/fringelaw32.BandRestores", spec := "bandRestores", unfollowed := true, recurses := true, apart := false }
def BandRestoresSaid : Prop := bandRestoresRow.holds Try.pinned (OpenSpec.ofChange bandRestoresSpec)

/-- ITS FALSE NEIGHBOUR: 'it returns false'. Refute it at one input. -/
def bandRestoresWrong : ChangeSpec := { name := "bandRestores", fn := fun _ => fun
  | [d1, d2, d3] => { results := [.lit (.bool false)], args := [d1, d2, d3] }
  | _ => none }
def BandRestoresWrongFalsely : Prop := bandRestoresRow.holds Try.pinned (OpenSpec.ofChange bandRestoresWrong)

/-- 'fringelaw32.BandParts': WHATEVER THE INPUT: true; the input reads as it did. -/
def bandPartsSpec : ChangeSpec := { name := "bandParts", fn := fun _ => fun
  | [d1, d2, d3] => { results := [.lit (.bool true)], args := [d1, d2, d3] }
  | _ => none }
def bandPartsRow : OpenClaim := { program := "ytaaijmojlodefaa", sum := "289a10cd40bbfd605b4407ed2cba621cacfc8f9ad3cd53554fb0474887df4b7d", func := "fringe/fringelaw32.BandParts", spec := "bandParts", unfollowed := true, recurses := true, apart := false }
def BandPartsSaid : Prop := bandPartsRow.holds Try.pinned (OpenSpec.ofChange bandPartsSpec)

/-- ITS FALSE NEIGHBOUR: 'it returns false'. Refute it at one input. -/
def bandPartsWrong : ChangeSpec := { name := "bandParts", fn := fun _ => fun
  | [d1, d2, d3] => { results := [.lit (.bool false)], args := [d1, d2, d3] }
  | _ => none }
def BandPartsWrongFalsely : Prop := bandPartsRow.holds Try.pinned (OpenSpec.ofChange bandPartsWrong)

/-- 'fringelaw32.BandNames': WHATEVER THE INPUT: true; the input reads as it did. -/
def bandNamesSpec : ChangeSpec := { name := "bandNames", fn := fun _ => fun
  | [] => { results := [.lit (.bool true)], args := [] }
  | _ => none }
def bandNamesRow : OpenClaim := { program := "ytaaijmojlodefaa", sum := "289a10cd40bbfd605b4407ed2cba621cacfc8f9ad3cd53554fb0474887df4b7d", func := "fringe/fringelaw32.BandNames", spec := "bandNames", unfollowed := true, recurses := true, apart := false }
def BandNamesSaid : Prop := bandNamesRow.holds Try.pinned (OpenSpec.ofChange bandNamesSpec)

/-- ITS FALSE NEIGHBOUR: 'it returns false'. Refute it at one input. -/
def bandNamesWrong : ChangeSpec := { name := "bandNames", fn := fun _ => fun
  | [] => { results := [.lit (.bool false)], args := [] }
  | _ => none }
def BandNamesWrongFalsely : Prop := bandNamesRow.holds Try.pinned (OpenSpec.ofChange bandNamesWrong)

/- THE SECOND FORM. 'bulk': how many values and letters a reading holds, each counted each time it is reached (what is shared counts as often as it is met; a slice's spare places count too). A statement '..UptoSaid' is the law's where the arguments, and the package variables that the reading takes, are together of bulk at most 1048576: NARROWER than '..Said'. Prove '..Said' where nothing that the law and all that it calls make is longer than what came in: it says more and counts as full. Else prove '..UptoSaid'. A law counts once. -/
mutual
def uptoBulk {H : Type} : DataW H → Nat
  | .lit (.string bytes) => bytes.length + 1
  | .lit _ => 1
  | .nil => 1
  | .ptr d => uptoBulk d + 1
  | .slice elems spare => uptoBulkAll elems + uptoBulkAll spare + 1
  | .agg parts => uptoBulkAll parts + 1
  | .iface _ d => uptoBulk d + 1
  | .map entries => uptoBulkEntries entries + 1
  | .held _ => 1
def uptoBulkAll {H : Type} : List (DataW H) → Nat
  | [] => 0
  | d :: r => uptoBulk d + uptoBulkAll r
def uptoBulkEntries {H : Type} : List (Lit × DataW H) → Nat
  | [] => 0
  | x :: r => uptoBulkEntry x + uptoBulkEntries r
def uptoBulkEntry {H : Type} : Lit × DataW H → Nat
  | (.string bytes, d) => bytes.length + uptoBulk d + 1
  | (_, d) => uptoBulk d + 1
 end
def uptoSmall : (H : Type) → List (DataW H) → Bool := fun _ ds => decide (uptoBulkAll ds ≤ 1048576)
def OpenSpec.upto (s : _root_.Go.ChangeSpec) : _root_.Go.OpenSpec := { _root_.Go.OpenSpec.ofChange s with cond := some uptoSmall }

/-- 'fringelaw32.BandTables', WHERE WHAT IT READS IS OF BULK AT MOST 1048576: true; the input reads as it did. -/
def bandTablesUptoRow : OpenClaim := { program := "ytaaijmojlodefaa", sum := "289a10cd40bbfd605b4407ed2cba621cacfc8f9ad3cd53554fb0474887df4b7d", func := "fringe/fringelaw32.BandTables", spec := "bandTables", unfollowed := true, recurses := true, apart := false, narrowed := true }
def BandTablesUptoSaid : Prop := bandTablesUptoRow.holds Try.pinned (OpenSpec.upto bandTablesSpec)

/-- 'fringelaw32.BandActs', WHERE WHAT IT READS IS OF BULK AT MOST 1048576: true; the input reads as it did. -/
def bandActsUptoRow : OpenClaim := { program := "ytaaijmojlodefaa", sum := "289a10cd40bbfd605b4407ed2cba621cacfc8f9ad3cd53554fb0474887df4b7d", func := "fringe/fringelaw32.BandActs", spec := "bandActs", unfollowed := true, recurses := true, apart := false, narrowed := true }
def BandActsUptoSaid : Prop := bandActsUptoRow.holds Try.pinned (OpenSpec.upto bandActsSpec)

/-- 'fringelaw32.BandFlat', WHERE WHAT IT READS IS OF BULK AT MOST 1048576: true; the input reads as it did. -/
def bandFlatUptoRow : OpenClaim := { program := "ytaaijmojlodefaa", sum := "289a10cd40bbfd605b4407ed2cba621cacfc8f9ad3cd53554fb0474887df4b7d", func := "fringe/fringelaw32.BandFlat", spec := "bandFlat", unfollowed := true, recurses := true, apart := false, narrowed := true }
def BandFlatUptoSaid : Prop := bandFlatUptoRow.holds Try.pinned (OpenSpec.upto bandFlatSpec)

/-- 'fringelaw32.BandMeans', WHERE WHAT IT READS IS OF BULK AT MOST 1048576: true; the input reads as it did. -/
def bandMeansUptoRow : OpenClaim := { program := "ytaaijmojlodefaa", sum := "289a10cd40bbfd605b4407ed2cba621cacfc8f9ad3cd53554fb0474887df4b7d", func := "fringe/fringelaw32.BandMeans", spec := "bandMeans", unfollowed := true, recurses := true, apart := false, narrowed := true }
def BandMeansUptoSaid : Prop := bandMeansUptoRow.holds Try.pinned (OpenSpec.upto bandMeansSpec)

/-- 'fringelaw32.BandRestores', WHERE WHAT IT READS IS OF BULK AT MOST 1048576: true; the input reads as it did. -/
def bandRestoresUptoRow : OpenClaim := { program := "ytaaijmojlodefaa", sum := "289a10cd40bbfd605b4407ed2cba621cacfc8f9ad3cd53554fb0474887df4b7d", func := "fringe/fringelaw32.BandRestores", spec := "bandRestores", unfollowed := true, recurses := true, apart := false, narrowed := true }
def BandRestoresUptoSaid : Prop := bandRestoresUptoRow.holds Try.pinned (OpenSpec.upto bandRestoresSpec)

/-- 'fringelaw32.BandParts', WHERE WHAT IT READS IS OF BULK AT MOST 1048576: true; the input reads as it did. -/
def bandPartsUptoRow : OpenClaim := { program := "ytaaijmojlodefaa", sum := "289a10cd40bbfd605b4407ed2cba621cacfc8f9ad3cd53554fb0474887df4b7d", func := "fringe/fringelaw32.BandParts", spec := "bandParts", unfollowed := true, recurses := true, apart := false, narrowed := true }
def BandPartsUptoSaid : Prop := bandPartsUptoRow.holds Try.pinned (OpenSpec.upto bandPartsSpec)

/-- 'fringelaw32.BandNames', WHERE WHAT IT READS IS OF BULK AT MOST 1048576: true; the input reads as it did. -/
def bandNamesUptoRow : OpenClaim := { program := "ytaaijmojlodefaa", sum := "289a10cd40bbfd605b4407ed2cba621cacfc8f9ad3cd53554fb0474887df4b7d", func := "fringe/fringelaw32.BandNames", spec := "bandNames", unfollowed := true, recurses := true, apart := false, narrowed := true }
def BandNamesUptoSaid : Prop := bandNamesUptoRow.holds Try.pinned (OpenSpec.upto bandNamesSpec)

end Rows
end Go.Proofs.Ytaaijmojlodefaa
