/-
  No cell of these rows narrows 'for every input' (looked for: loops, veiled, ifaces, maps, wideKeys, modest, calm, conditions, laid).
  DERIVED. THE GIVEN ROWS OF THIS SEAT. 6 by the template 'for every input the law returns true; each argument reads behind the call as it read before'; 0 by the template 'total and deterministic' (their statements: YtljahbpkhienkaaTotals.lean).
  GIVEN WITH THE SEED: the statements are not yours to turn. If you find one false, say at which input.
  Laid BY PROGRAM, IN A SANDBOX (cutbox-rows.mjs): the forced cells as the released guide's own fill.sh prints them over the translation 6697c6efd528825b… (all of the seat's roots in one cut). By AI agents, Wed Nov 11 2026. No macro, syntax, notation, axiom, sorry.
-/
import Derived.Test.YtljahbpkhienkaaChecked
import GoSem.Claim
import GoSem.ClaimJoined
import GoSem.ClaimMapViews
import Derived.JoinedTies
import Derived.KernelRfl
namespace Go.Proofs.Ytljahbpkhienkaa
/- THE CELL 'sum', in the pinned program and in every row, IS THE sha256 OF THE DUMP (.gsa) THAT YtljahbpkhienkaaProg.lean LOADS. Nothing in Lean hashes anything: it is a label: what it is worth is what the hold of that sum in a sandbox is worth. -/
noncomputable def Try.pinned : Pinned := { name := "ytljahbpkhienkaa", sum := "6697c6efd528825b17527c02a95fc6f813edf3af167abec83d85f3e8160e14b9", checked := Try.checked }
namespace Rows
def none {H : Type} : Left H := { results := [], args := [] }

/-- 'fringelaw33.JonesReckons': WHATEVER THE INPUT: true; the input reads as it did. -/
def jonesReckonsSpec : ChangeSpec := { name := "jonesReckons", fn := fun _ => fun
  | [d1, d2] => { results := [.lit (.bool true)], args := [d1, d2] }
  | _ => none }
def jonesReckonsRow : OpenClaim := { program := "ytljahbpkhienkaa", sum := "6697c6efd528825b17527c02a95fc6f813edf3af167abec83d85f3e8160e14b9", func := "fringe/fringelaw33.JonesReckons", spec := "jonesReckons", unfollowed := true, recurses := true, plainKeys := false, apart := false }
def JonesReckonsSaid : Prop := jonesReckonsRow.holds Try.pinned (OpenSpec.ofChange jonesReckonsSpec)

/-- ITS FALSE NEIGHBOUR: 'it returns false'. Refute it at one input. -/
def jonesReckonsWrong : ChangeSpec := { name := "jonesReckons", fn := fun _ => fun
  | [d1, d2] => { results := [.lit (.bool false)], args := [d1, d2] }
  | _ => none }
def JonesReckonsWrongFalsely : Prop := jonesReckonsRow.holds Try.pinned (OpenSpec.ofChange jonesReckonsWrong)

/-- 'fringelaw33.JonesGroup': WHATEVER THE INPUT: true; the input reads as it did. -/
def jonesGroupSpec : ChangeSpec := { name := "jonesGroup", fn := fun _ => fun
  | [d1, d2, d3] => { results := [.lit (.bool true)], args := [d1, d2, d3] }
  | _ => none }
def jonesGroupRow : OpenClaim := { program := "ytljahbpkhienkaa", sum := "6697c6efd528825b17527c02a95fc6f813edf3af167abec83d85f3e8160e14b9", func := "fringe/fringelaw33.JonesGroup", spec := "jonesGroup", unfollowed := true, recurses := true, plainKeys := false, apart := false }
def JonesGroupSaid : Prop := jonesGroupRow.holds Try.pinned (OpenSpec.ofChange jonesGroupSpec)

/-- ITS FALSE NEIGHBOUR: 'it returns false'. Refute it at one input. -/
def jonesGroupWrong : ChangeSpec := { name := "jonesGroup", fn := fun _ => fun
  | [d1, d2, d3] => { results := [.lit (.bool false)], args := [d1, d2, d3] }
  | _ => none }
def JonesGroupWrongFalsely : Prop := jonesGroupRow.holds Try.pinned (OpenSpec.ofChange jonesGroupWrong)

/-- 'fringelaw33.JonesDets': WHATEVER THE INPUT: true; the input reads as it did. -/
def jonesDetsSpec : ChangeSpec := { name := "jonesDets", fn := fun _ => fun
  | [d1, d2] => { results := [.lit (.bool true)], args := [d1, d2] }
  | _ => none }
def jonesDetsRow : OpenClaim := { program := "ytljahbpkhienkaa", sum := "6697c6efd528825b17527c02a95fc6f813edf3af167abec83d85f3e8160e14b9", func := "fringe/fringelaw33.JonesDets", spec := "jonesDets", unfollowed := true, recurses := true, plainKeys := false, apart := false }
def JonesDetsSaid : Prop := jonesDetsRow.holds Try.pinned (OpenSpec.ofChange jonesDetsSpec)

/-- ITS FALSE NEIGHBOUR: 'it returns false'. Refute it at one input. -/
def jonesDetsWrong : ChangeSpec := { name := "jonesDets", fn := fun _ => fun
  | [d1, d2] => { results := [.lit (.bool false)], args := [d1, d2] }
  | _ => none }
def JonesDetsWrongFalsely : Prop := jonesDetsRow.holds Try.pinned (OpenSpec.ofChange jonesDetsWrong)

/-- 'fringelaw33.JonesActs': WHATEVER THE INPUT: true; the input reads as it did. -/
def jonesActsSpec : ChangeSpec := { name := "jonesActs", fn := fun _ => fun
  | [d1, d2, d3, d4, d5, d6] => { results := [.lit (.bool true)], args := [d1, d2, d3, d4, d5, d6] }
  | _ => none }
def jonesActsRow : OpenClaim := { program := "ytljahbpkhienkaa", sum := "6697c6efd528825b17527c02a95fc6f813edf3af167abec83d85f3e8160e14b9", func := "fringe/fringelaw33.JonesActs", spec := "jonesActs", unfollowed := true, recurses := true, plainKeys := false, apart := false }
def JonesActsSaid : Prop := jonesActsRow.holds Try.pinned (OpenSpec.ofChange jonesActsSpec)

/-- ITS FALSE NEIGHBOUR: 'it returns false'. Refute it at one input. -/
def jonesActsWrong : ChangeSpec := { name := "jonesActs", fn := fun _ => fun
  | [d1, d2, d3, d4, d5, d6] => { results := [.lit (.bool false)], args := [d1, d2, d3, d4, d5, d6] }
  | _ => none }
def JonesActsWrongFalsely : Prop := jonesActsRow.holds Try.pinned (OpenSpec.ofChange jonesActsWrong)

/-- 'fringelaw33.JonesNames': WHATEVER THE INPUT: true; the input reads as it did. -/
def jonesNamesSpec : ChangeSpec := { name := "jonesNames", fn := fun _ => fun
  | [] => { results := [.lit (.bool true)], args := [] }
  | _ => none }
def jonesNamesRow : OpenClaim := { program := "ytljahbpkhienkaa", sum := "6697c6efd528825b17527c02a95fc6f813edf3af167abec83d85f3e8160e14b9", func := "fringe/fringelaw33.JonesNames", spec := "jonesNames", unfollowed := true, recurses := true, plainKeys := false, apart := false }
def JonesNamesSaid : Prop := jonesNamesRow.holds Try.pinned (OpenSpec.ofChange jonesNamesSpec)

/-- ITS FALSE NEIGHBOUR: 'it returns false'. Refute it at one input. -/
def jonesNamesWrong : ChangeSpec := { name := "jonesNames", fn := fun _ => fun
  | [] => { results := [.lit (.bool false)], args := [] }
  | _ => none }
def JonesNamesWrongFalsely : Prop := jonesNamesRow.holds Try.pinned (OpenSpec.ofChange jonesNamesWrong)

/-- 'fringelaw33.JonesLoops': WHATEVER THE INPUT: true; the input reads as it did. -/
def jonesLoopsSpec : ChangeSpec := { name := "jonesLoops", fn := fun _ => fun
  | [d1, d2, d3, d4, d5, d6] => { results := [.lit (.bool true)], args := [d1, d2, d3, d4, d5, d6] }
  | _ => none }
def jonesLoopsRow : OpenClaim := { program := "ytljahbpkhienkaa", sum := "6697c6efd528825b17527c02a95fc6f813edf3af167abec83d85f3e8160e14b9", func := "fringe/fringelaw33.JonesLoops", spec := "jonesLoops", unfollowed := true, recurses := true, plainKeys := false, apart := false }
def JonesLoopsSaid : Prop := jonesLoopsRow.holds Try.pinned (OpenSpec.ofChange jonesLoopsSpec)

/-- ITS FALSE NEIGHBOUR: 'it returns false'. Refute it at one input. -/
def jonesLoopsWrong : ChangeSpec := { name := "jonesLoops", fn := fun _ => fun
  | [d1, d2, d3, d4, d5, d6] => { results := [.lit (.bool false)], args := [d1, d2, d3, d4, d5, d6] }
  | _ => none }
def JonesLoopsWrongFalsely : Prop := jonesLoopsRow.holds Try.pinned (OpenSpec.ofChange jonesLoopsWrong)

/- THE SECOND FORM. 'bulk': how many values and letters a reading holds, each counted each time it is reached (what is shared counts as often as it is met; a slice's spare places count too). A statement '..UptoSaid' is the law's where the arguments, and the package variables that the reading takes, are together of bulk at most 1048576: NARROWER than '..Said'. Prove '..Said' where nothing that the law and all that it calls make is longer than what came in: it says more and counts as full. Else prove '..UptoSaid'. A law counts once. -/
mutual
def uptoBulk {H : Type} : DataW H → Nat
  | .lit (.string bytes) => bytes.length + 1
  | .lit _ => 1
  | .nil => 1
  | .ptr d => uptoBulk d + 1
  | .slice elems spare => uptoBulkAll elems + uptoBulkAll spare + 1
  | .agg parts => uptoBulkAll parts + 1
  | .iface _ d => uptoBulk d + 1
  | .map entries => uptoBulkEntries entries + 1
  | .held _ => 1
def uptoBulkAll {H : Type} : List (DataW H) → Nat
  | [] => 0
  | d :: r => uptoBulk d + uptoBulkAll r
def uptoBulkEntries {H : Type} : List (Lit × DataW H) → Nat
  | [] => 0
  | x :: r => uptoBulkEntry x + uptoBulkEntries r
def uptoBulkEntry {H : Type} : Lit × DataW H → Nat
  | (.string bytes, d) => bytes.length + uptoBulk d + 1
  | (_, d) => uptoBulk d + 1
 end
def uptoSmall : (H : Type) → List (DataW H) → Bool := fun _ ds => decide (uptoBulkAll ds ≤ 1048576)
def OpenSpec.upto (s : _root_.Go.ChangeSpec) : _root_.Go.OpenSpec := { _root_.Go.OpenSpec.ofChange s with cond := some uptoSmall }

/-- 'fringelaw33.JonesReckons', WHERE WHAT IT READS IS OF BULK AT MOST 1048576: true; the input reads as it did. -/
def jonesReckonsUptoRow : OpenClaim := { program := "ytljahbpkhienkaa", sum := "6697c6efd528825b17527c02a95fc6f813edf3af167abec83d85f3e8160e14b9", func := "fringe/fringelaw33.JonesReckons", spec := "jonesReckons", unfollowed := true, recurses := true, plainKeys := false, apart := false, narrowed := true }
def JonesReckonsUptoSaid : Prop := jonesReckonsUptoRow.holds Try.pinned (OpenSpec.upto jonesReckonsSpec)

/-- 'fringelaw33.JonesGroup', WHERE WHAT IT READS IS OF BULK AT MOST 1048576: true; the input reads as it did. -/
def jonesGroupUptoRow : OpenClaim := { program := "ytljahbpkhienkaa", sum := "6697c6efd528825b17527c02a95fc6f813edf3af167abec83d85f3e8160e14b9", func := "fringe/fringelaw33.JonesGroup", spec := "jonesGroup", unfollowed := true, recurses := true, plainKeys := false, apart := false, narrowed := true }
def JonesGroupUptoSaid : Prop := jonesGroupUptoRow.holds Try.pinned (OpenSpec.upto jonesGroupSpec)

/-- 'fringelaw33.JonesDets', WHERE WHAT IT READS IS OF BULK AT MOST 1048576: true; the input reads as it did. -/
def jonesDetsUptoRow : OpenClaim := { program := "ytljahbpkhienkaa", sum := "6697c6efd528825b17527c02a95fc6f813edf3af167abec83d85f3e8160e14b9", func := "fringe/fringelaw33.JonesDets", spec := "jonesDets", unfollowed := true, recurses := true, plainKeys := false, apart := false, narrowed := true }
def JonesDetsUptoSaid : Prop := jonesDetsUptoRow.holds Try.pinned (OpenSpec.upto jonesDetsSpec)

/-- 'fringelaw33.JonesActs', WHERE WHAT IT READS IS OF BULK AT MOST 1048576: true; the input reads as it did. -/
def jonesActsUptoRow : OpenClaim := { program := "ytljahbpkhienkaa", sum := "6697c6efd528825b17527c02a95fc6f813edf3af167abec83d85f3e8160e14b9", func := "fringe/fringelaw33.JonesActs", spec := "jonesActs", unfollowed := true, recurses := true, plainKeys := false, apart := false, narrowed := true }
def JonesActsUptoSaid : Prop := jonesActsUptoRow.holds Try.pinned (OpenSpec.upto jonesActsSpec)

/-- 'fringelaw33.JonesNames', WHERE WHAT IT READS IS OF BULK AT MOST 1048576: true; the input reads as it did. -/
def jonesNamesUptoRow : OpenClaim := { program := "ytljahbpkhienkaa", sum := "6697c6efd528825b17527c02a95fc6f813edf3af167abec83d85f3e8160e14b9", func := "fringe/fringelaw33.JonesNames", spec := "jonesNames", unfollowed := true, recurses := true, plainKeys := false, apart := false, narrowed := true }
def JonesNamesUptoSaid : Prop := jonesNamesUptoRow.holds Try.pinned (OpenSpec.upto jonesNamesSpec)

/-- 'fringelaw33.JonesLoops', WHERE WHAT IT READS IS OF BULK AT MOST 1048576: true; the input reads as it did. -/
def jonesLoopsUptoRow : OpenClaim := { program := "ytljahbpkhienkaa", sum := "6697c6efd528825b17527c02a95fc6f813edf3af167abec83d85f3e8160e14b9", func := "fringe/fringelaw33.JonesLoops", spec := "jonesLoops", unfollowed := true, recurses := true, plainKeys := false, apart := false, narrowed := true }
def JonesLoopsUptoSaid : Prop := jonesLoopsUptoRow.holds Try.pinned (OpenSpec.upto jonesLoopsSpec)

end Rows
end Go.Proofs.Ytljahbpkhienkaa
