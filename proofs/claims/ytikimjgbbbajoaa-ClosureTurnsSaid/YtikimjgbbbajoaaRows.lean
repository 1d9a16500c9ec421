/-
  No cell of these rows narrows 'for every input' (looked for: loops, veiled, ifaces, maps, wideKeys, modest, calm, conditions, laid).
  DERIVED. THE GIVEN ROWS OF THIS SEAT. 7 by the template 'for every input the law returns true; each argument reads behind the call as it read before'; 0 by the template 'total and deterministic' (their statements: YtikimjgbbbajoaaTotals.lean).
  GIVEN WITH THE SEED: the statements are not yours to turn. If you find one false, say at which input.
  Laid BY PROGRAM, IN A SANDBOX (cutbox-rows.mjs): the forced cells as the released guide's own fill.sh prints them over the translation a81bea2667e6f401… (all of the seat's roots in one cut). By AI agents, Wed Nov 11 2026. No macro, syntax, notation, axiom, sorry.
-/
import Derived.Test.YtikimjgbbbajoaaChecked
import GoSem.Claim
import GoSem.ClaimJoined
import GoSem.ClaimMapViews
import Derived.JoinedTies
import Derived.KernelRfl
namespace Go.Proofs.Ytikimjgbbbajoaa
/- THE CELL 'sum', in the pinned program and in every row, IS THE sha256 OF THE DUMP (.gsa) THAT YtikimjgbbbajoaaProg.lean LOADS. Nothing in Lean hashes anything: it is a label: what it is worth is what the hold of that sum in a sandbox is worth. -/
noncomputable def Try.pinned : Pinned := { name := "ytikimjgbbbajoaa", sum := "a81bea2667e6f4012cfccd9a882592f7ff154e34a65fb742b4e8852e8ed98963", checked := Try.checked }
namespace Rows
def none {H : Type} : Left H := { results := [], args := [] }

/-- 'fringelaw27.ClosureGets': WHATEVER THE INPUT: true; the input reads as it did. -/
def closureGetsSpec : ChangeSpec := { name := "closureGets", fn := fun _ => fun
  | [d1, d2, d3] => { results := [.lit (.bool true)], args := [d1, d2, d3] }
  | _ => none }
def closureGetsRow : OpenClaim := { program := "ytikimjgbbbajoaa", sum := "a81bea2667e6f4012cfccd9a882592f7ff154e34a65fb742b4e8852e8ed98963", func := "fringe/fringelaw27.ClosureGets", spec := "closureGets", apart := false }
def ClosureGetsSaid : Prop := closureGetsRow.holds Try.pinned (OpenSpec.ofChange closureGetsSpec)

/-- ITS FALSE NEIGHBOUR: 'it returns false'. Refute it at one input. -/
def closureGetsWrong : ChangeSpec := { name := "closureGets", fn := fun _ => fun
  | [d1, d2, d3] => { results := [.lit (.bool false)], args := [d1, d2, d3] }
  | _ => none }
def ClosureGetsWrongFalsely : Prop := closureGetsRow.holds Try.pinned (OpenSpec.ofChange closureGetsWrong)

/-- 'fringelaw27.ClosureTurns': WHATEVER THE INPUT: true; the input reads as it did. -/
def closureTurnsSpec : ChangeSpec := { name := "closureTurns", fn := fun _ => fun
  | [d1, d2, d3] => { results := [.lit (.bool true)], args := [d1, d2, d3] }
  | _ => none }
def closureTurnsRow : OpenClaim := { program := "ytikimjgbbbajoaa", sum := "a81bea2667e6f4012cfccd9a882592f7ff154e34a65fb742b4e8852e8ed98963", func := "fringe/fringelaw27.ClosureTurns", spec := "closureTurns", apart := false }
def ClosureTurnsSaid : Prop := closureTurnsRow.holds Try.pinned (OpenSpec.ofChange closureTurnsSpec)

/-- ITS FALSE NEIGHBOUR: 'it returns false'. Refute it at one input. -/
def closureTurnsWrong : ChangeSpec := { name := "closureTurns", fn := fun _ => fun
  | [d1, d2, d3] => { results := [.lit (.bool false)], args := [d1, d2, d3] }
  | _ => none }
def ClosureTurnsWrongFalsely : Prop := closureTurnsRow.holds Try.pinned (OpenSpec.ofChange closureTurnsWrong)

/-- 'fringelaw27.ClosurePhases': WHATEVER THE INPUT: true; the input reads as it did. -/
def closurePhasesSpec : ChangeSpec := { name := "closurePhases", fn := fun _ => fun
  | [d1, d2, d3, d4, d5, d6] => { results := [.lit (.bool true)], args := [d1, d2, d3, d4, d5, d6] }
  | _ => none }
def closurePhasesRow : OpenClaim := { program := "ytikimjgbbbajoaa", sum := "a81bea2667e6f4012cfccd9a882592f7ff154e34a65fb742b4e8852e8ed98963", func := "fringe/fringelaw27.ClosurePhases", spec := "closurePhases", apart := false }
def ClosurePhasesSaid : Prop := closurePhasesRow.holds Try.pinned (OpenSpec.ofChange closurePhasesSpec)

/-- ITS FALSE NEIGHBOUR: 'it returns false'. Refute it at one input. -/
def closurePhasesWrong : ChangeSpec := { name := "closurePhases", fn := fun _ => fun
  | [d1, d2, d3, d4, d5, d6] => { results := [.lit (.bool false)], args := [d1, d2, d3, d4, d5, d6] }
  | _ => none }
def ClosurePhasesWrongFalsely : Prop := closurePhasesRow.holds Try.pinned (OpenSpec.ofChange closurePhasesWrong)

/-- 'fringelaw27.ClosureSwaps': WHATEVER THE INPUT: true; the input reads as it did. -/
def closureSwapsSpec : ChangeSpec := { name := "closureSwaps", fn := fun _ => fun
  | [d1, d2, d3, d4, d5] => { results := [.lit (.bool true)], args := [d1, d2, d3, d4, d5] }
  | _ => none }
def closureSwapsRow : OpenClaim := { program := "ytikimjgbbbajoaa", sum := "a81bea2667e6f4012cfccd9a882592f7ff154e34a65fb742b4e8852e8ed98963", func := "fringe/fringelaw27.ClosureSwaps", spec := "closureSwaps", apart := false }
def ClosureSwapsSaid : Prop := closureSwapsRow.holds Try.pinned (OpenSpec.ofChange closureSwapsSpec)

/-- ITS FALSE NEIGHBOUR: 'it returns false'. Refute it at one input. -/
def closureSwapsWrong : ChangeSpec := { name := "closureSwaps", fn := fun _ => fun
  | [d1, d2, d3, d4, d5] => { results := [.lit (.bool false)], args := [d1, d2, d3, d4, d5] }
  | _ => none }
def ClosureSwapsWrongFalsely : Prop := closureSwapsRow.holds Try.pinned (OpenSpec.ofChange closureSwapsWrong)

/-- 'fringelaw27.ClosureNames': WHATEVER THE INPUT: true; the input reads as it did. -/
def closureNamesSpec : ChangeSpec := { name := "closureNames", fn := fun _ => fun
  | [] => { results := [.lit (.bool true)], args := [] }
  | _ => none }
def closureNamesRow : OpenClaim := { program := "ytikimjgbbbajoaa", sum := "a81bea2667e6f4012cfccd9a882592f7ff154e34a65fb742b4e8852e8ed98963", func := "fringe/fringelaw27.ClosureNames", spec := "closureNames", apart := false }
def ClosureNamesSaid : Prop := closureNamesRow.holds Try.pinned (OpenSpec.ofChange closureNamesSpec)

/-- ITS FALSE NEIGHBOUR: 'it returns false'. Refute it at one input. -/
def closureNamesWrong : ChangeSpec := { name := "closureNames", fn := fun _ => fun
  | [] => { results := [.lit (.bool false)], args := [] }
  | _ => none }
def ClosureNamesWrongFalsely : Prop := closureNamesRow.holds Try.pinned (OpenSpec.ofChange closureNamesWrong)

/-- 'fringelaw27.ClosureGains': WHATEVER THE INPUT: true; the input reads as it did. -/
def closureGainsSpec : ChangeSpec := { name := "closureGains", fn := fun _ => fun
  | [d1, d2, d3, d4, d5, d6, d7] => { results := [.lit (.bool true)], args := [d1, d2, d3, d4, d5, d6, d7] }
  | _ => none }
def closureGainsRow : OpenClaim := { program := "ytikimjgbbbajoaa", sum := "a81bea2667e6f4012cfccd9a882592f7ff154e34a65fb742b4e8852e8ed98963", func := "fringe/fringelaw27.ClosureGains", spec := "closureGains", unfollowed := true, recurses := true, apart := false }
def ClosureGainsSaid : Prop := closureGainsRow.holds Try.pinned (OpenSpec.ofChange closureGainsSpec)

/-- ITS FALSE NEIGHBOUR: 'it returns false'. Refute it at one input. -/
def closureGainsWrong : ChangeSpec := { name := "closureGains", fn := fun _ => fun
  | [d1, d2, d3, d4, d5, d6, d7] => { results := [.lit (.bool false)], args := [d1, d2, d3, d4, d5, d6, d7] }
  | _ => none }
def ClosureGainsWrongFalsely : Prop := closureGainsRow.holds Try.pinned (OpenSpec.ofChange closureGainsWrong)

/-- 'fringelaw27.ClosureOnes': WHATEVER THE INPUT: true; the input reads as it did. -/
def closureOnesSpec : ChangeSpec := { name := "closureOnes", fn := fun _ => fun
  | [d1, d2, d3, d4, d5, d6] => { results := [.lit (.bool true)], args := [d1, d2, d3, d4, d5, d6] }
  | _ => none }
def closureOnesRow : OpenClaim := { program := "ytikimjgbbbajoaa", sum := "a81bea2667e6f4012cfccd9a882592f7ff154e34a65fb742b4e8852e8ed98963", func := "fringe/fringelaw27.ClosureOnes", spec := "closureOnes", unfollowed := true, recurses := true, apart := false }
def ClosureOnesSaid : Prop := closureOnesRow.holds Try.pinned (OpenSpec.ofChange closureOnesSpec)

/-- ITS FALSE NEIGHBOUR: 'it returns false'. Refute it at one input. -/
def closureOnesWrong : ChangeSpec := { name := "closureOnes", fn := fun _ => fun
  | [d1, d2, d3, d4, d5, d6] => { results := [.lit (.bool false)], args := [d1, d2, d3, d4, d5, d6] }
  | _ => none }
def ClosureOnesWrongFalsely : Prop := closureOnesRow.holds Try.pinned (OpenSpec.ofChange closureOnesWrong)

/- THE SECOND FORM. 'bulk': how many values and letters a reading holds, each counted each time it is reached (what is shared counts as often as it is met; a slice's spare places count too). A statement '..UptoSaid' is the law's where the arguments, and the package variables that the reading takes, are together of bulk at most 1048576: NARROWER than '..Said'. Prove '..Said' where nothing that the law and all that it calls make is longer than what came in: it says more and counts as full. Else prove '..UptoSaid'. A law counts once. -/
mutual
def uptoBulk {H : Type} : DataW H → Nat
  | .lit (.string bytes) => bytes.length + 1
  | .lit _ => 1
  | .nil => 1
  | .ptr d => uptoBulk d + 1
  | .slice elems spare => uptoBulkAll elems + uptoBulkAll spare + 1
  | .agg parts => uptoBulkAll parts + 1
  | .iface _ d => uptoBulk d + 1
  | .map entries => uptoBulkEntries entries + 1
  | .held _ => 1
def uptoBulkAll {H : Type} : List (DataW H) → Nat
  | [] => 0
  | d :: r => uptoBulk d + uptoBulkAll r
def uptoBulkEntries {H : Type} : List (Lit × DataW H) → Nat
  | [] => 0
  | x :: r => uptoBulkEntry x + uptoBulkEntries r
def uptoBulkEntry {H : Type} : Lit × DataW H → Nat
  | (.string bytes, d) => bytes.length + uptoBulk d + 1
  | (_, d) => uptoBulk d + 1
 end
def uptoSmall : (H : Type) → List (DataW H) → Bool := fun _ ds => decide (uptoBulkAll ds ≤ 1048576)
def OpenSpec.upto (s : _root_.Go.ChangeSpec) : _root_.Go.OpenSpec := { _root_.Go.OpenSpec.ofChange s with cond := some uptoSmall }

/-- 'fringelaw27.ClosureGets', WHERE WHAT IT READS IS OF BULK AT MOST 1048576: true; the input reads as it did. -/
def closureGetsUptoRow : OpenClaim := { program := "ytikimjgbbbajoaa", sum := "a81bea2667e6f4012cfccd9a882592f7ff154e34a65fb742b4e8852e8ed98963", func := "fringe/fringelaw27.ClosureGets", spec := "closureGets", apart := false, narrowed := true }
def ClosureGetsUptoSaid : Prop := closureGetsUptoRow.holds Try.pinned (OpenSpec.upto closureGetsSpec)

/-- 'fringelaw27.ClosureTurns', WHERE WHAT IT READS IS OF BULK AT MOST 1048576: true; the input reads as it did. -/
def closureTurnsUptoRow : OpenClaim := { program := "ytikimjgbbbajoaa", sum := "a81bea2667e6f4012cfccd9a882592f7ff154e34a65fb742b4e8852e8ed98963", func := "fringe/fringelaw27.ClosureTurns", spec := "closureTurns", apart := false, narrowed := true }
def ClosureTurnsUptoSaid : Prop := closureTurnsUptoRow.holds Try.pinned (OpenSpec.upto closureTurnsSpec)

/-- 'fringelaw27.ClosurePhases', WHERE WHAT IT READS IS OF BULK AT MOST 1048576: true; the input reads as it did. -/
def closurePhasesUptoRow : OpenClaim := { program := "ytikimjgbbbajoaa", sum := "a81bea2667e6f4012cfccd9a882592f7ff154e34a65fb742b4e8852e8ed98963", func := "fringe/fringelaw27.ClosurePhases", spec := "closurePhases", apart := false, narrowed := true }
def ClosurePhasesUptoSaid : Prop := closurePhasesUptoRow.holds Try.pinned (OpenSpec.upto closurePhasesSpec)

/-- 'fringelaw27.ClosureSwaps', WHERE WHAT IT READS IS OF BULK AT MOST 1048576: true; the input reads as it did. -/
def closureSwapsUptoRow : OpenClaim := { program := "ytikimjgbbbajoaa", sum := "a81bea2667e6f4012cfccd9a882592f7ff154e34a65fb742b4e8852e8ed98963", func := "fringe/fringelaw27.ClosureSwaps", spec := "closureSwaps", apart := false, narrowed := true }
def ClosureSwapsUptoSaid : Prop := closureSwapsUptoRow.holds Try.pinned (OpenSpec.upto closureSwapsSpec)

/-- 'fringelaw27.ClosureNames', WHERE WHAT IT READS IS OF BULK AT MOST 1048576: true; the input reads as it did. -/
def closureNamesUptoRow : OpenClaim := { program := "ytikimjgbbbajoaa", sum := "a81bea2667e6f4012cfccd9a882592f7ff154e34a65fb742b4e8852e8ed98963", func := "fringe/fringelaw27.ClosureNames", spec := "closureNames", apart := false, narrowed := true }
def ClosureNamesUptoSaid : Prop := closureNamesUptoRow.holds Try.pinned (OpenSpec.upto closureNamesSpec)

/-- 'fringelaw27.ClosureGains', WHERE WHAT IT READS IS OF BULK AT MOST 1048576: true; the input reads as it did. -/
def closureGainsUptoRow : OpenClaim := { program := "ytikimjgbbbajoaa", sum := "a81bea2667e6f4012cfccd9a882592f7ff154e34a65fb742b4e8852e8ed98963", func := "fringe/fringelaw27.ClosureGains", spec := "closureGains", unfollowed := true, recurses := true, apart := false, narrowed := true }
def ClosureGainsUptoSaid : Prop := closureGainsUptoRow.holds Try.pinned (OpenSpec.upto closureGainsSpec)

/-- 'fringelaw27.ClosureOnes', WHERE WHAT IT READS IS OF BULK AT MOST 1048576: true; the input reads as it did. -/
def closureOnesUptoRow : OpenClaim := { program := "ytikimjgbbbajoaa", sum := "a81bea2667e6f4012cfccd9a882592f7ff154e34a65fb742b4e8852e8ed98963", func := "fringe/fringelaw27.ClosureOnes", spec := "closureOnes", unfollowed := true, recurses := true, apart := false, narrowed := true }
def ClosureOnesUptoSaid : Prop := closureOnesUptoRow.holds Try.pinned (OpenSpec.upto closureOnesSpec)

end Rows
end Go.Proofs.Ytikimjgbbbajoaa
