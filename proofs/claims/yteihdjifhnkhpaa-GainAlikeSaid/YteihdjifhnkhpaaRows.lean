/-
  No cell of these rows narrows 'for every input' (looked for: loops, veiled, ifaces, maps, wideKeys, modest, calm, conditions, laid).
  DERIVED. THE GIVEN ROWS OF THIS SEAT. 7 by the template 'for every input the law returns true; each argument reads behind the call as it read before'; 0 by the template 'total and deterministic' (their statements: YteihdjifhnkhpaaTotals.lean).
  GIVEN WITH THE SEED: the statements are not yours to turn. If you find one false, say at which input.
  Laid BY PROGRAM, IN A SANDBOX (cutbox-rows.mjs): the forced cells as the released guide's own fill.sh prints them over the translation 19bd82bb4d376d03… (all of the seat's roots in one cut). By AI agents, Wed Nov 11 2026. No macro, syntax, notation, axiom, sorry.
-/
import Derived.Test.YteihdjifhnkhpaaChecked
import GoSem.Claim
import GoSem.ClaimJoined
import GoSem.ClaimMapViews
import Derived.JoinedTies
import Derived.KernelRfl
namespace Go.Proofs.Yteihdjifhnkhpaa
/- THE CELL 'sum', in the pinned program and in every row, IS THE sha256 OF THE DUMP (.gsa) THAT YteihdjifhnkhpaaProg.lean LOADS. Nothing in Lean hashes anything: it is a label: what it is worth is what the hold of that sum in a sandbox is worth. -/
noncomputable def Try.pinned : Pinned := { name := "yteihdjifhnkhpaa", sum := "19bd82bb4d376d03fd33ace76a354b16e0f4caacdb910ca75fb72f6d0eefff4e", checked := Try.checked }
namespace Rows
def none {H : Type} : Left H := { results := [], args := [] }

/-- 'fringelaw26.GainActs': WHATEVER THE INPUT: true; the input reads as it did. -/
def gainActsSpec : ChangeSpec := { name := "gainActs", fn := fun _ => fun
  | [d1, d2] => { results := [.lit (.bool true)], args := [d1, d2] }
  | _ => none }
def gainActsRow : OpenClaim := { program := "yteihdjifhnkhpaa", sum := "19bd82bb4d376d03fd33ace76a354b16e0f4caacdb910ca75fb72f6d0eefff4e", func := "fringe/fringelaw26.GainActs", spec := "gainActs", unfollowed := true, recurses := true, apart := false }
def GainActsSaid : Prop := gainActsRow.holds Try.pinned (OpenSpec.ofChange gainActsSpec)

/-- ITS FALSE NEIGHBOUR: 'it returns false'. Refute it at one input. -/
def gainActsWrong : ChangeSpec := { name := "gainActs", fn := fun _ => fun
  | [d1, d2] => { results := [.lit (.bool false)], args := [d1, d2] }
  | _ => none }
def GainActsWrongFalsely : Prop := gainActsRow.holds Try.pinned (OpenSpec.ofChange gainActsWrong)

/-- 'fringelaw26.GainNorms': WHATEVER THE INPUT: true; the input reads as it did. -/
def gainNormsSpec : ChangeSpec := { name := "gainNorms", fn := fun _ => fun
  | [d1, d2] => { results := [.lit (.bool true)], args := [d1, d2] }
  | _ => none }
def gainNormsRow : OpenClaim := { program := "yteihdjifhnkhpaa", sum := "19bd82bb4d376d03fd33ace76a354b16e0f4caacdb910ca75fb72f6d0eefff4e", func := "fringe/fringelaw26.GainNorms", spec := "gainNorms", unfollowed := true, recurses := true, apart := false }
def GainNormsSaid : Prop := gainNormsRow.holds Try.pinned (OpenSpec.ofChange gainNormsSpec)

/-- ITS FALSE NEIGHBOUR: 'it returns false'. Refute it at one input. -/
def gainNormsWrong : ChangeSpec := { name := "gainNorms", fn := fun _ => fun
  | [d1, d2] => { results := [.lit (.bool false)], args := [d1, d2] }
  | _ => none }
def GainNormsWrongFalsely : Prop := gainNormsRow.holds Try.pinned (OpenSpec.ofChange gainNormsWrong)

/-- 'fringelaw26.GainAlike': WHATEVER THE INPUT: true; the input reads as it did. -/
def gainAlikeSpec : ChangeSpec := { name := "gainAlike", fn := fun _ => fun
  | [d1, d2, d3, d4] => { results := [.lit (.bool true)], args := [d1, d2, d3, d4] }
  | _ => none }
def gainAlikeRow : OpenClaim := { program := "yteihdjifhnkhpaa", sum := "19bd82bb4d376d03fd33ace76a354b16e0f4caacdb910ca75fb72f6d0eefff4e", func := "fringe/fringelaw26.GainAlike", spec := "gainAlike", unfollowed := true, recurses := true, apart := false }
def GainAlikeSaid : Prop := gainAlikeRow.holds Try.pinned (OpenSpec.ofChange gainAlikeSpec)

/-- ITS FALSE NEIGHBOUR: 'it returns false'. Refute it at one input. -/
def gainAlikeWrong : ChangeSpec := { name := "gainAlike", fn := fun _ => fun
  | [d1, d2, d3, d4] => { results := [.lit (.bool false)], args := [d1, d2, d3, d4] }
  | _ => none }
def GainAlikeWrongFalsely : Prop := gainAlikeRow.holds Try.pinned (OpenSpec.ofChange gainAlikeWrong)

/-- 'fringelaw26.GainRefer': WHATEVER THE INPUT: true; the input reads as it did. -/
def gainReferSpec : ChangeSpec := { name := "gainRefer", fn := fun _ => fun
  | [d1, d2] => { results := [.lit (.bool true)], args := [d1, d2] }
  | _ => none }
def gainReferRow : OpenClaim := { program := "yteihdjifhnkhpaa", sum := "19bd82bb4d376d03fd33ace76a354b16e0f4caacdb910ca75fb72f6d0eefff4e", func := "fringe/fringelaw26.GainRefer", spec := "gainRefer", unfollowed := true, recurses := true, apart := false }
def GainReferSaid : Prop := gainReferRow.holds Try.pinned (OpenSpec.ofChange gainReferSpec)

/-- ITS FALSE NEIGHBOUR: 'it returns false'. Refute it at one input. -/
def gainReferWrong : ChangeSpec := { name := "gainRefer", fn := fun _ => fun
  | [d1, d2] => { results := [.lit (.bool false)], args := [d1, d2] }
  | _ => none }
def GainReferWrongFalsely : Prop := gainReferRow.holds Try.pinned (OpenSpec.ofChange gainReferWrong)

/-- 'fringelaw26.GainTables': WHATEVER THE INPUT: true; the input reads as it did. -/
def gainTablesSpec : ChangeSpec := { name := "gainTables", fn := fun _ => fun
  | [d1, d2, d3] => { results := [.lit (.bool true)], args := [d1, d2, d3] }
  | _ => none }
def gainTablesRow : OpenClaim := { program := "yteihdjifhnkhpaa", sum := "19bd82bb4d376d03fd33ace76a354b16e0f4caacdb910ca75fb72f6d0eefff4e", func := "fringe/fringelaw26.GainTables", spec := "gainTables", unfollowed := true, recurses := true, apart := false }
def GainTablesSaid : Prop := gainTablesRow.holds Try.pinned (OpenSpec.ofChange gainTablesSpec)

/-- ITS FALSE NEIGHBOUR: 'it returns false'. Refute it at one input. -/
def gainTablesWrong : ChangeSpec := { name := "gainTables", fn := fun _ => fun
  | [d1, d2, d3] => { results := [.lit (.bool false)], args := [d1, d2, d3] }
  | _ => none }
def GainTablesWrongFalsely : Prop := gainTablesRow.holds Try.pinned (OpenSpec.ofChange gainTablesWrong)

/-- 'fringelaw26.GainGroup': WHATEVER THE INPUT: true; the input reads as it did. -/
def gainGroupSpec : ChangeSpec := { name := "gainGroup", fn := fun _ => fun
  | [d1, d2, d3] => { results := [.lit (.bool true)], args := [d1, d2, d3] }
  | _ => none }
def gainGroupRow : OpenClaim := { program := "yteihdjifhnkhpaa", sum := "19bd82bb4d376d03fd33ace76a354b16e0f4caacdb910ca75fb72f6d0eefff4e", func := "fringe/fringelaw26.GainGroup", spec := "gainGroup", unfollowed := true, recurses := true, apart := false }
def GainGroupSaid : Prop := gainGroupRow.holds Try.pinned (OpenSpec.ofChange gainGroupSpec)

/-- ITS FALSE NEIGHBOUR: 'it returns false'. Refute it at one input. -/
def gainGroupWrong : ChangeSpec := { name := "gainGroup", fn := fun _ => fun
  | [d1, d2, d3] => { results := [.lit (.bool false)], args := [d1, d2, d3] }
  | _ => none }
def GainGroupWrongFalsely : Prop := gainGroupRow.holds Try.pinned (OpenSpec.ofChange gainGroupWrong)

/-- 'fringelaw26.GainNames': WHATEVER THE INPUT: true; the input reads as it did. -/
def gainNamesSpec : ChangeSpec := { name := "gainNames", fn := fun _ => fun
  | [] => { results := [.lit (.bool true)], args := [] }
  | _ => none }
def gainNamesRow : OpenClaim := { program := "yteihdjifhnkhpaa", sum := "19bd82bb4d376d03fd33ace76a354b16e0f4caacdb910ca75fb72f6d0eefff4e", func := "fringe/fringelaw26.GainNames", spec := "gainNames", unfollowed := true, recurses := true, apart := false }
def GainNamesSaid : Prop := gainNamesRow.holds Try.pinned (OpenSpec.ofChange gainNamesSpec)

/-- ITS FALSE NEIGHBOUR: 'it returns false'. Refute it at one input. -/
def gainNamesWrong : ChangeSpec := { name := "gainNames", fn := fun _ => fun
  | [] => { results := [.lit (.bool false)], args := [] }
  | _ => none }
def GainNamesWrongFalsely : Prop := gainNamesRow.holds Try.pinned (OpenSpec.ofChange gainNamesWrong)

/- THE SECOND FORM. 'bulk': how many values and letters a reading holds, each counted each time it is reached (what is shared counts as often as it is met; a slice's spare places count too). A statement '..UptoSaid' is the law's where the arguments, and the package variables that the reading takes, are together of bulk at most 1048576: NARROWER than '..Said'. Prove '..Said' where nothing that the law and all that it calls make is longer than what came in: it says more and counts as full. Else prove '..UptoSaid'. A law counts once. -/
mutual
def uptoBulk {H : Type} : DataW H → Nat
  | .lit (.string bytes) => bytes.length + 1
  | .lit _ => 1
  | .nil => 1
  | .ptr d => uptoBulk d + 1
  | .slice elems spare => uptoBulkAll elems + uptoBulkAll spare + 1
  | .agg parts => uptoBulkAll parts + 1
  | .iface _ d => uptoBulk d + 1
  | .map entries => uptoBulkEntries entries + 1
  | .held _ => 1
def uptoBulkAll {H : Type} : List (DataW H) → Nat
  | [] => 0
  | d :: r => uptoBulk d + uptoBulkAll r
def uptoBulkEntries {H : Type} : List (Lit × DataW H) → Nat
  | [] => 0
  | x :: r => uptoBulkEntry x + uptoBulkEntries r
def uptoBulkEntry {H : Type} : Lit × DataW H → Nat
  | (.string bytes, d) => bytes.length + uptoBulk d + 1
  | (_, d) => uptoBulk d + 1
 end
def uptoSmall : (H : Type) → List (DataW H) → Bool := fun _ ds => decide (uptoBulkAll ds ≤ 1048576)
def OpenSpec.upto (s : _root_.Go.ChangeSpec) : _root_.Go.OpenSpec := { _root_.Go.OpenSpec.ofChange s with cond := some uptoSmall }

/-- 'fringelaw26.GainActs', WHERE WHAT IT READS IS OF BULK AT MOST 1048576: true; the input reads as it did. -/
def gainActsUptoRow : OpenClaim := { program := "yteihdjifhnkhpaa", sum := "19bd82bb4d376d03fd33ace76a354b16e0f4caacdb910ca75fb72f6d0eefff4e", func := "fringe/fringelaw26.GainActs", spec := "gainActs", unfollowed := true, recurses := true, apart := false, narrowed := true }
def GainActsUptoSaid : Prop := gainActsUptoRow.holds Try.pinned (OpenSpec.upto gainActsSpec)

/-- 'fringelaw26.GainNorms', WHERE WHAT IT READS IS OF BULK AT MOST 1048576: true; the input reads as it did. -/
def gainNormsUptoRow : OpenClaim := { program := "yteihdjifhnkhpaa", sum := "19bd82bb4d376d03fd33ace76a354b16e0f4caacdb910ca75fb72f6d0eefff4e", func := "fringe/fringelaw26.GainNorms", spec := "gainNorms", unfollowed := true, recurses := true, apart := false, narrowed := true }
def GainNormsUptoSaid : Prop := gainNormsUptoRow.holds Try.pinned (OpenSpec.upto gainNormsSpec)

/-- 'fringelaw26.GainAlike', WHERE WHAT IT READS IS OF BULK AT MOST 1048576: true; the input reads as it did. -/
def gainAlikeUptoRow : OpenClaim := { program := "yteihdjifhnkhpaa", sum := "19bd82bb4d376d03fd33ace76a354b16e0f4caacdb910ca75fb72f6d0eefff4e", func := "fringe/fringelaw26.GainAlike", spec := "gainAlike", unfollowed := true, recurses := true, apart := false, narrowed := true }
def GainAlikeUptoSaid : Prop := gainAlikeUptoRow.holds Try.pinned (OpenSpec.upto gainAlikeSpec)

/-- 'fringelaw26.GainRefer', WHERE WHAT IT READS IS OF BULK AT MOST 1048576: true; the input reads as it did. -/
def gainReferUptoRow : OpenClaim := { program := "yteihdjifhnkhpaa", sum := "19bd82bb4d376d03fd33ace76a354b16e0f4caacdb910ca75fb72f6d0eefff4e", func := "fringe/fringelaw26.GainRefer", spec := "gainRefer", unfollowed := true, recurses := true, apart := false, narrowed := true }
def GainReferUptoSaid : Prop := gainReferUptoRow.holds Try.pinned (OpenSpec.upto gainReferSpec)

/-- 'fringelaw26.GainTables', WHERE WHAT IT READS IS OF BULK AT MOST 1048576: true; the input reads as it did. -/
def gainTablesUptoRow : OpenClaim := { program := "yteihdjifhnkhpaa", sum := "19bd82bb4d376d03fd33ace76a354b16e0f4caacdb910ca75fb72f6d0eefff4e", func := "fringe/fringelaw26.GainTables", spec := "gainTables", unfollowed := true, recurses := true, apart := false, narrowed := true }
def GainTablesUptoSaid : Prop := gainTablesUptoRow.holds Try.pinned (OpenSpec.upto gainTablesSpec)

/-- 'fringelaw26.GainGroup', WHERE WHAT IT READS IS OF BULK AT MOST 1048576: true; the input reads as it did. -/
def gainGroupUptoRow : OpenClaim := { program := "yteihdjifhnkhpaa", sum := "19bd82bb4d376d03fd33ace76a354b16e0f4caacdb910ca75fb72f6d0eefff4e", func := "fringe/fringelaw26.GainGroup", spec := "gainGroup", unfollowed := true, recurses := true, apart := false, narrowed := true }
def GainGroupUptoSaid : Prop := gainGroupUptoRow.holds Try.pinned (OpenSpec.upto gainGroupSpec)

/-- 'fringelaw26.GainNames', WHERE WHAT IT READS IS OF BULK AT MOST 1048576: true; the input reads as it did. -/
def gainNamesUptoRow : OpenClaim := { program := "yteihdjifhnkhpaa", sum := "19bd82bb4d376d03fd33ace76a354b16e0f4caacdb910ca75fb72f6d0eefff4e", func := "fringe/fringelaw26.GainNames", spec := "gainNames", unfollowed := true, recurses := true, apart := false, narrowed := true }
def GainNamesUptoSaid : Prop := gainNamesUptoRow.holds Try.pinned (OpenSpec.upto gainNamesSpec)

end Rows
end Go.Proofs.Yteihdjifhnkhpaa
