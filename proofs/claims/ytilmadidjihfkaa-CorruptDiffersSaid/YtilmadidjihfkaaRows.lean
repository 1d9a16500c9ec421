/-
  No cell of these rows narrows 'for every input' (looked for: loops, veiled, ifaces, maps, wideKeys, modest, calm, conditions, laid).
  DERIVED. THE GIVEN ROWS OF THIS SEAT. 7 by the template 'for every input the law returns true; each argument reads behind the call as it read before'; 0 by the template 'total and deterministic' (their statements: YtilmadidjihfkaaTotals.lean).
  GIVEN WITH THE SEED: the statements are not yours to turn. If you find one false, say at which input.
  Laid BY PROGRAM, IN A SANDBOX (cutbox-rows.mjs): the forced cells as the released guide's own fill.sh prints them over the translation 8611d2b473cd083a… (all of the seat's roots in one cut). By AI agents, Wed Nov 11 2026. No macro, syntax, notation, axiom, sorry.
-/
import Derived.Test.YtilmadidjihfkaaChecked
import GoSem.Claim
import GoSem.ClaimJoined
import GoSem.ClaimMapViews
import Derived.JoinedTies
import Derived.KernelRfl
namespace Go.Proofs.Ytilmadidjihfkaa
/- THE CELL 'sum', in the pinned program and in every row, IS THE sha256 OF THE DUMP (.gsa) THAT YtilmadidjihfkaaProg.lean LOADS. Nothing in Lean hashes anything: it is a label: what it is worth is what the hold of that sum in a sandbox is worth. -/
noncomputable def Try.pinned : Pinned := { name := "ytilmadidjihfkaa", sum := "8611d2b473cd083acdc0d64133422e51e48c86c3357236bd6a823357e510248a", checked := Try.checked }
namespace Rows
def none {H : Type} : Left H := { results := [], args := [] }

/-- 'fringelaw35.CorruptTimes': WHATEVER THE INPUT: true; the input reads as it did. -/
def corruptTimesSpec : ChangeSpec := { name := "corruptTimes", fn := fun _ => fun
  | [d1, d2] => { results := [.lit (.bool true)], args := [d1, d2] }
  | _ => none }
def corruptTimesRow : OpenClaim := { program := "ytilmadidjihfkaa", sum := "8611d2b473cd083acdc0d64133422e51e48c86c3357236bd6a823357e510248a", func := "fringe/fringelaw35.CorruptTimes", spec := "corruptTimes", apart := false }
def CorruptTimesSaid : Prop := corruptTimesRow.holds Try.pinned (OpenSpec.ofChange corruptTimesSpec)

/-- ITS FALSE NEIGHBOUR: 'it returns false'. Refute it at one input. -/
def corruptTimesWrong : ChangeSpec := { name := "corruptTimes", fn := fun _ => fun
  | [d1, d2] => { results := [.lit (.bool false)], args := [d1, d2] }
  | _ => none }
def CorruptTimesWrongFalsely : Prop := corruptTimesRow.holds Try.pinned (OpenSpec.ofChange corruptTimesWrong)

/-- 'fringelaw35.CorruptTables': WHATEVER THE INPUT: true; the input reads as it did. -/
def corruptTablesSpec : ChangeSpec := { name := "corruptTables", fn := fun _ => fun
  | [d1, d2, d3] => { results := [.lit (.bool true)], args := [d1, d2, d3] }
  | _ => none }
def corruptTablesRow : OpenClaim := { program := "ytilmadidjihfkaa", sum := "8611d2b473cd083acdc0d64133422e51e48c86c3357236bd6a823357e510248a", func := "fringe/fringelaw35.CorruptTables", spec := "corruptTables", apart := false }
def CorruptTablesSaid : Prop := corruptTablesRow.holds Try.pinned (OpenSpec.ofChange corruptTablesSpec)

/-- ITS FALSE NEIGHBOUR: 'it returns false'. Refute it at one input. -/
def corruptTablesWrong : ChangeSpec := { name := "corruptTables", fn := fun _ => fun
  | [d1, d2, d3] => { results := [.lit (.bool false)], args := [d1, d2, d3] }
  | _ => none }
def CorruptTablesWrongFalsely : Prop := corruptTablesRow.holds Try.pinned (OpenSpec.ofChange corruptTablesWrong)

/-- 'fringelaw35.CorruptOrder': WHATEVER THE INPUT: true; the input reads as it did. -/
def corruptOrderSpec : ChangeSpec := { name := "corruptOrder", fn := fun _ => fun
  | [d1, d2, d3] => { results := [.lit (.bool true)], args := [d1, d2, d3] }
  | _ => none }
def corruptOrderRow : OpenClaim := { program := "ytilmadidjihfkaa", sum := "8611d2b473cd083acdc0d64133422e51e48c86c3357236bd6a823357e510248a", func := "fringe/fringelaw35.CorruptOrder", spec := "corruptOrder", unfollowed := true, recurses := true, apart := false }
def CorruptOrderSaid : Prop := corruptOrderRow.holds Try.pinned (OpenSpec.ofChange corruptOrderSpec)

/-- ITS FALSE NEIGHBOUR: 'it returns false'. Refute it at one input. -/
def corruptOrderWrong : ChangeSpec := { name := "corruptOrder", fn := fun _ => fun
  | [d1, d2, d3] => { results := [.lit (.bool false)], args := [d1, d2, d3] }
  | _ => none }
def CorruptOrderWrongFalsely : Prop := corruptOrderRow.holds Try.pinned (OpenSpec.ofChange corruptOrderWrong)

/-- 'fringelaw35.CorruptDiffers': WHATEVER THE INPUT: true; the input reads as it did. -/
def corruptDiffersSpec : ChangeSpec := { name := "corruptDiffers", fn := fun _ => fun
  | [d1, d2, d3, d4] => { results := [.lit (.bool true)], args := [d1, d2, d3, d4] }
  | _ => none }
def corruptDiffersRow : OpenClaim := { program := "ytilmadidjihfkaa", sum := "8611d2b473cd083acdc0d64133422e51e48c86c3357236bd6a823357e510248a", func := "fringe/fringelaw35.CorruptDiffers", spec := "corruptDiffers", apart := false }
def CorruptDiffersSaid : Prop := corruptDiffersRow.holds Try.pinned (OpenSpec.ofChange corruptDiffersSpec)

/-- ITS FALSE NEIGHBOUR: 'it returns false'. Refute it at one input. -/
def corruptDiffersWrong : ChangeSpec := { name := "corruptDiffers", fn := fun _ => fun
  | [d1, d2, d3, d4] => { results := [.lit (.bool false)], args := [d1, d2, d3, d4] }
  | _ => none }
def CorruptDiffersWrongFalsely : Prop := corruptDiffersRow.holds Try.pinned (OpenSpec.ofChange corruptDiffersWrong)

/-- 'fringelaw35.CorruptSpoils': WHATEVER THE INPUT: true; the input reads as it did. -/
def corruptSpoilsSpec : ChangeSpec := { name := "corruptSpoils", fn := fun _ => fun
  | [d1, d2, d3] => { results := [.lit (.bool true)], args := [d1, d2, d3] }
  | _ => none }
def corruptSpoilsRow : OpenClaim := { program := "ytilmadidjihfkaa", sum := "8611d2b473cd083acdc0d64133422e51e48c86c3357236bd6a823357e510248a", func := "fringe/fringelaw35.CorruptSpoils", spec := "corruptSpoils", unfollowed := true, recurses := true, apart := false }
def CorruptSpoilsSaid : Prop := corruptSpoilsRow.holds Try.pinned (OpenSpec.ofChange corruptSpoilsSpec)

/-- ITS FALSE NEIGHBOUR: 'it returns false'. Refute it at one input. -/
def corruptSpoilsWrong : ChangeSpec := { name := "corruptSpoils", fn := fun _ => fun
  | [d1, d2, d3] => { results := [.lit (.bool false)], args := [d1, d2, d3] }
  | _ => none }
def CorruptSpoilsWrongFalsely : Prop := corruptSpoilsRow.holds Try.pinned (OpenSpec.ofChange corruptSpoilsWrong)

/-- 'fringelaw35.CorruptNames': WHATEVER THE INPUT: true; the input reads as it did. -/
def corruptNamesSpec : ChangeSpec := { name := "corruptNames", fn := fun _ => fun
  | [] => { results := [.lit (.bool true)], args := [] }
  | _ => none }
def corruptNamesRow : OpenClaim := { program := "ytilmadidjihfkaa", sum := "8611d2b473cd083acdc0d64133422e51e48c86c3357236bd6a823357e510248a", func := "fringe/fringelaw35.CorruptNames", spec := "corruptNames", unfollowed := true, recurses := true, apart := false }
def CorruptNamesSaid : Prop := corruptNamesRow.holds Try.pinned (OpenSpec.ofChange corruptNamesSpec)

/-- ITS FALSE NEIGHBOUR: 'it returns false'. Refute it at one input. -/
def corruptNamesWrong : ChangeSpec := { name := "corruptNames", fn := fun _ => fun
  | [] => { results := [.lit (.bool false)], args := [] }
  | _ => none }
def CorruptNamesWrongFalsely : Prop := corruptNamesRow.holds Try.pinned (OpenSpec.ofChange corruptNamesWrong)

/-- 'fringelaw35.CorruptAlike': WHATEVER THE INPUT: true; the input reads as it did. -/
def corruptAlikeSpec : ChangeSpec := { name := "corruptAlike", fn := fun _ => fun
  | [d1, d2] => { results := [.lit (.bool true)], args := [d1, d2] }
  | _ => none }
def corruptAlikeRow : OpenClaim := { program := "ytilmadidjihfkaa", sum := "8611d2b473cd083acdc0d64133422e51e48c86c3357236bd6a823357e510248a", func := "fringe/fringelaw35.CorruptAlike", spec := "corruptAlike", unfollowed := true, recurses := true, apart := false }
def CorruptAlikeSaid : Prop := corruptAlikeRow.holds Try.pinned (OpenSpec.ofChange corruptAlikeSpec)

/-- ITS FALSE NEIGHBOUR: 'it returns false'. Refute it at one input. -/
def corruptAlikeWrong : ChangeSpec := { name := "corruptAlike", fn := fun _ => fun
  | [d1, d2] => { results := [.lit (.bool false)], args := [d1, d2] }
  | _ => none }
def CorruptAlikeWrongFalsely : Prop := corruptAlikeRow.holds Try.pinned (OpenSpec.ofChange corruptAlikeWrong)

/- THE SECOND FORM. 'bulk': how many values and letters a reading holds, each counted each time it is reached (what is shared counts as often as it is met; a slice's spare places count too). A statement '..UptoSaid' is the law's where the arguments, and the package variables that the reading takes, are together of bulk at most 1048576: NARROWER than '..Said'. Prove '..Said' where nothing that the law and all that it calls make is longer than what came in: it says more and counts as full. Else prove '..UptoSaid'. A law counts once. -/
mutual
def uptoBulk {H : Type} : DataW H → Nat
  | .lit (.string bytes) => bytes.length + 1
  | .lit _ => 1
  | .nil => 1
  | .ptr d => uptoBulk d + 1
  | .slice elems spare => uptoBulkAll elems + uptoBulkAll spare + 1
  | .agg parts => uptoBulkAll parts + 1
  | .iface _ d => uptoBulk d + 1
  | .map entries => uptoBulkEntries entries + 1
  | .held _ => 1
def uptoBulkAll {H : Type} : List (DataW H) → Nat
  | [] => 0
  | d :: r => uptoBulk d + uptoBulkAll r
def uptoBulkEntries {H : Type} : List (Lit × DataW H) → Nat
  | [] => 0
  | x :: r => uptoBulkEntry x + uptoBulkEntries r
def uptoBulkEntry {H : Type} : Lit × DataW H → Nat
  | (.string bytes, d) => bytes.length + uptoBulk d + 1
  | (_, d) => uptoBulk d + 1
 end
def uptoSmall : (H : Type) → List (DataW H) → Bool := fun _ ds => decide (uptoBulkAll ds ≤ 1048576)
def OpenSpec.upto (s : _root_.Go.ChangeSpec) : _root_.Go.OpenSpec := { _root_.Go.OpenSpec.ofChange s with cond := some uptoSmall }

/-- 'fringelaw35.CorruptTimes', WHERE WHAT IT READS IS OF BULK AT MOST 1048576: true; the input reads as it did. -/
def corruptTimesUptoRow : OpenClaim := { program := "ytilmadidjihfkaa", sum := "8611d2b473cd083acdc0d64133422e51e48c86c3357236bd6a823357e510248a", func := "fringe/fringelaw35.CorruptTimes", spec := "corruptTimes", apart := false, narrowed := true }
def CorruptTimesUptoSaid : Prop := corruptTimesUptoRow.holds Try.pinned (OpenSpec.upto corruptTimesSpec)

/-- 'fringelaw35.CorruptTables', WHERE WHAT IT READS IS OF BULK AT MOST 1048576: true; the input reads as it did. -/
def corruptTablesUptoRow : OpenClaim := { program := "ytilmadidjihfkaa", sum := "8611d2b473cd083acdc0d64133422e51e48c86c3357236bd6a823357e510248a", func := "fringe/fringelaw35.CorruptTables", spec := "corruptTables", apart := false, narrowed := true }
def CorruptTablesUptoSaid : Prop := corruptTablesUptoRow.holds Try.pinned (OpenSpec.upto corruptTablesSpec)

/-- 'fringelaw35.CorruptOrder', WHERE WHAT IT READS IS OF BULK AT MOST 1048576: true; the input reads as it did. -/
def corruptOrderUptoRow : OpenClaim := { program := "ytilmadidjihfkaa", sum := "8611d2b473cd083acdc0d64133422e51e48c86c3357236bd6a823357e510248a", func := "fringe/fringelaw35.CorruptOrder", spec := "corruptOrder", unfollowed := true, recurses := true, apart := false, narrowed := true }
def CorruptOrderUptoSaid : Prop := corruptOrderUptoRow.holds Try.pinned (OpenSpec.upto corruptOrderSpec)

/-- 'fringelaw35.CorruptDiffers', WHERE WHAT IT READS IS OF BULK AT MOST 1048576: true; the input reads as it did. -/
def corruptDiffersUptoRow : OpenClaim := { program := "ytilmadidjihfkaa", sum := "8611d2b473cd083acdc0d64133422e51e48c86c3357236bd6a823357e510248a", func := "fringe/fringelaw35.CorruptDiffers", spec := "corruptDiffers", apart := false, narrowed := true }
def CorruptDiffersUptoSaid : Prop := corruptDiffersUptoRow.holds Try.pinned (OpenSpec.upto corruptDiffersSpec)

/-- 'fringelaw35.CorruptSpoils', WHERE WHAT IT READS IS OF BULK AT MOST 1048576: true; the input reads as it did. -/
def corruptSpoilsUptoRow : OpenClaim := { program := "ytilmadidjihfkaa", sum := "8611d2b473cd083acdc0d64133422e51e48c86c3357236bd6a823357e510248a", func := "fringe/fringelaw35.CorruptSpoils", spec := "corruptSpoils", unfollowed := true, recurses := true, apart := false, narrowed := true }
def CorruptSpoilsUptoSaid : Prop := corruptSpoilsUptoRow.holds Try.pinned (OpenSpec.upto corruptSpoilsSpec)

/-- 'fringelaw35.CorruptNames', WHERE WHAT IT READS IS OF BULK AT MOST 1048576: true; the input reads as it did. -/
def corruptNamesUptoRow : OpenClaim := { program := "ytilmadidjihfkaa", sum := "8611d2b473cd083acdc0d64133422e51e48c86c3357236bd6a823357e510248a", func := "fringe/fringelaw35.CorruptNames", spec := "corruptNames", unfollowed := true, recurses := true, apart := false, narrowed := true }
def CorruptNamesUptoSaid : Prop := corruptNamesUptoRow.holds Try.pinned (OpenSpec.upto corruptNamesSpec)

/-- 'fringelaw35.CorruptAlike', WHERE WHAT IT READS IS OF BULK AT MOST 1048576: true; the input reads as it did. -/
def corruptAlikeUptoRow : OpenClaim := { program := "ytilmadidjihfkaa", sum := "8611d2b473cd083acdc0d64133422e51e48c86c3357236bd6a823357e510248a", func := "fringe/fringelaw35.CorruptAlike", spec := "corruptAlike", unfollowed := true, recurses := true, apart := false, narrowed := true }
def CorruptAlikeUptoSaid : Prop := corruptAlikeUptoRow.holds Try.pinned (OpenSpec.upto corruptAlikeSpec)

end Rows
end Go.Proofs.Ytilmadidjihfkaa
