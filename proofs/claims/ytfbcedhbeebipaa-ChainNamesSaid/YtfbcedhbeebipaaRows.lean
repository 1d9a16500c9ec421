/-
  No cell of these rows narrows 'for every input' (looked for: loops, veiled, ifaces, maps, wideKeys, modest, calm, conditions, laid).
  DERIVED. THE GIVEN ROWS OF THIS SEAT. 7 by the template 'for every input the law returns true; each argument reads behind the call as it read before'; 0 by the template 'total and deterministic' (their statements: YtfbcedhbeebipaaTotals.lean).
  GIVEN WITH THE SEED: the statements are not yours to turn. If you find one false, say at which input.
  Laid BY PROGRAM, IN A SANDBOX (cutbox-rows.mjs): the forced cells as the released guide's own fill.sh prints them over the translation 2036f18686a1c417… (all of the seat's roots in one cut). By AI agents, Wed Nov 11 2026. No macro, syntax, notation, axiom, sorry.
-/
import Derived.Test.YtfbcedhbeebipaaChecked
import GoSem.Claim
import GoSem.ClaimJoined
import GoSem.ClaimMapViews
import Derived.JoinedTies
import Derived.KernelRfl
namespace Go.Proofs.Ytfbcedhbeebipaa
/- THE CELL 'sum', in the pinned program and in every row, IS THE sha256 OF THE DUMP (.gsa) THAT YtfbcedhbeebipaaProg.lean LOADS. Nothing in Lean hashes anything: it is a label: what it is worth is what the hold of that sum in a sandbox is worth. -/
noncomputable def Try.pinned : Pinned := { name := "ytfbcedhbeebipaa", sum := "2036f18686a1c4171cc1624bb5e33867595cf3d22ab547d99fac0a4c923915b6", checked := Try.checked }
namespace Rows
def none {H : Type} : Left H := { results := [], args := [] }

/-- 'fringelaw34.ChainNames': WHATEVER THE INPUT: true; the input reads as it did. -/
def chainNamesSpec : ChangeSpec := { name := "chainNames", fn := fun _ => fun
  | [] => { results := [.lit (.bool true)], args := [] }
  | _ => none }
def chainNamesRow : OpenClaim := { program := "ytfbcedhbeebipaa", sum := "2036f18686a1c4171cc1624bb5e33867595cf3d22ab547d99fac0a4c923915b6", func := "fringe/fringelaw34.ChainNames", spec := "chainNames", unfollowed := true, recurses := true, apart := false }
def ChainNamesSaid : Prop := chainNamesRow.holds Try.pinned (OpenSpec.ofChange chainNamesSpec)

/-- ITS FALSE NEIGHBOUR: 'it returns false'. Refute it at one input. -/
def chainNamesWrong : ChangeSpec := { name := "chainNames", fn := fun _ => fun
  | [] => { results := [.lit (.bool false)], args := [] }
  | _ => none }
def ChainNamesWrongFalsely : Prop := chainNamesRow.holds Try.pinned (OpenSpec.ofChange chainNamesWrong)

/-- 'fringelaw34.ChainScalars': WHATEVER THE INPUT: true; the input reads as it did. -/
def chainScalarsSpec : ChangeSpec := { name := "chainScalars", fn := fun _ => fun
  | [d1, d2, d3, d4, d5] => { results := [.lit (.bool true)], args := [d1, d2, d3, d4, d5] }
  | _ => none }
def chainScalarsRow : OpenClaim := { program := "ytfbcedhbeebipaa", sum := "2036f18686a1c4171cc1624bb5e33867595cf3d22ab547d99fac0a4c923915b6", func := "fringe/fringelaw34.ChainScalars", spec := "chainScalars", unfollowed := true, recurses := true, apart := false }
def ChainScalarsSaid : Prop := chainScalarsRow.holds Try.pinned (OpenSpec.ofChange chainScalarsSpec)

/-- ITS FALSE NEIGHBOUR: 'it returns false'. Refute it at one input. -/
def chainScalarsWrong : ChangeSpec := { name := "chainScalars", fn := fun _ => fun
  | [d1, d2, d3, d4, d5] => { results := [.lit (.bool false)], args := [d1, d2, d3, d4, d5] }
  | _ => none }
def ChainScalarsWrongFalsely : Prop := chainScalarsRow.holds Try.pinned (OpenSpec.ofChange chainScalarsWrong)

/-- 'fringelaw34.ChainTables': WHATEVER THE INPUT: true; the input reads as it did. -/
def chainTablesSpec : ChangeSpec := { name := "chainTables", fn := fun _ => fun
  | [d1, d2, d3, d4, d5] => { results := [.lit (.bool true)], args := [d1, d2, d3, d4, d5] }
  | _ => none }
def chainTablesRow : OpenClaim := { program := "ytfbcedhbeebipaa", sum := "2036f18686a1c4171cc1624bb5e33867595cf3d22ab547d99fac0a4c923915b6", func := "fringe/fringelaw34.ChainTables", spec := "chainTables", unfollowed := true, recurses := true, apart := false }
def ChainTablesSaid : Prop := chainTablesRow.holds Try.pinned (OpenSpec.ofChange chainTablesSpec)

/-- ITS FALSE NEIGHBOUR: 'it returns false'. Refute it at one input. -/
def chainTablesWrong : ChangeSpec := { name := "chainTables", fn := fun _ => fun
  | [d1, d2, d3, d4, d5] => { results := [.lit (.bool false)], args := [d1, d2, d3, d4, d5] }
  | _ => none }
def ChainTablesWrongFalsely : Prop := chainTablesRow.holds Try.pinned (OpenSpec.ofChange chainTablesWrong)

/-- 'fringelaw34.ChainActs': WHATEVER THE INPUT: true; the input reads as it did. -/
def chainActsSpec : ChangeSpec := { name := "chainActs", fn := fun _ => fun
  | [d1, d2, d3, d4] => { results := [.lit (.bool true)], args := [d1, d2, d3, d4] }
  | _ => none }
def chainActsRow : OpenClaim := { program := "ytfbcedhbeebipaa", sum := "2036f18686a1c4171cc1624bb5e33867595cf3d22ab547d99fac0a4c923915b6", func := "fringe/fringelaw34.ChainActs", spec := "chainActs", unfollowed := true, recurses := true, apart := false }
def ChainActsSaid : Prop := chainActsRow.holds Try.pinned (OpenSpec.ofChange chainActsSpec)

/-- ITS FALSE NEIGHBOUR: 'it returns false'. Refute it at one input. -/
def chainActsWrong : ChangeSpec := { name := "chainActs", fn := fun _ => fun
  | [d1, d2, d3, d4] => { results := [.lit (.bool false)], args := [d1, d2, d3, d4] }
  | _ => none }
def ChainActsWrongFalsely : Prop := chainActsRow.holds Try.pinned (OpenSpec.ofChange chainActsWrong)

/-- 'fringelaw34.ChainOne': WHATEVER THE INPUT: true; the input reads as it did. -/
def chainOneSpec : ChangeSpec := { name := "chainOne", fn := fun _ => fun
  | [d1, d2, d3, d4] => { results := [.lit (.bool true)], args := [d1, d2, d3, d4] }
  | _ => none }
def chainOneRow : OpenClaim := { program := "ytfbcedhbeebipaa", sum := "2036f18686a1c4171cc1624bb5e33867595cf3d22ab547d99fac0a4c923915b6", func := "fringe/fringelaw34.ChainOne", spec := "chainOne", unfollowed := true, recurses := true, apart := false }
def ChainOneSaid : Prop := chainOneRow.holds Try.pinned (OpenSpec.ofChange chainOneSpec)

/-- ITS FALSE NEIGHBOUR: 'it returns false'. Refute it at one input. -/
def chainOneWrong : ChangeSpec := { name := "chainOne", fn := fun _ => fun
  | [d1, d2, d3, d4] => { results := [.lit (.bool false)], args := [d1, d2, d3, d4] }
  | _ => none }
def ChainOneWrongFalsely : Prop := chainOneRow.holds Try.pinned (OpenSpec.ofChange chainOneWrong)

/-- 'fringelaw34.ChainBack': WHATEVER THE INPUT: true; the input reads as it did. -/
def chainBackSpec : ChangeSpec := { name := "chainBack", fn := fun _ => fun
  | [d1, d2, d3, d4] => { results := [.lit (.bool true)], args := [d1, d2, d3, d4] }
  | _ => none }
def chainBackRow : OpenClaim := { program := "ytfbcedhbeebipaa", sum := "2036f18686a1c4171cc1624bb5e33867595cf3d22ab547d99fac0a4c923915b6", func := "fringe/fringelaw34.ChainBack", spec := "chainBack", unfollowed := true, recurses := true, apart := false }
def ChainBackSaid : Prop := chainBackRow.holds Try.pinned (OpenSpec.ofChange chainBackSpec)

/-- ITS FALSE NEIGHBOUR: 'it returns false'. Refute it at one input. -/
def chainBackWrong : ChangeSpec := { name := "chainBack", fn := fun _ => fun
  | [d1, d2, d3, d4] => { results := [.lit (.bool false)], args := [d1, d2, d3, d4] }
  | _ => none }
def ChainBackWrongFalsely : Prop := chainBackRow.holds Try.pinned (OpenSpec.ofChange chainBackWrong)

/-- 'fringelaw34.ChainJoins': WHATEVER THE INPUT: true; the input reads as it did. -/
def chainJoinsSpec : ChangeSpec := { name := "chainJoins", fn := fun _ => fun
  | [d1, d2, d3, d4, d5] => { results := [.lit (.bool true)], args := [d1, d2, d3, d4, d5] }
  | _ => none }
def chainJoinsRow : OpenClaim := { program := "ytfbcedhbeebipaa", sum := "2036f18686a1c4171cc1624bb5e33867595cf3d22ab547d99fac0a4c923915b6", func := "fringe/fringelaw34.ChainJoins", spec := "chainJoins", unfollowed := true, recurses := true, apart := false }
def ChainJoinsSaid : Prop := chainJoinsRow.holds Try.pinned (OpenSpec.ofChange chainJoinsSpec)

/-- ITS FALSE NEIGHBOUR: 'it returns false'. Refute it at one input. -/
def chainJoinsWrong : ChangeSpec := { name := "chainJoins", fn := fun _ => fun
  | [d1, d2, d3, d4, d5] => { results := [.lit (.bool false)], args := [d1, d2, d3, d4, d5] }
  | _ => none }
def ChainJoinsWrongFalsely : Prop := chainJoinsRow.holds Try.pinned (OpenSpec.ofChange chainJoinsWrong)

/- THE SECOND FORM. 'bulk': how many values and letters a reading holds, each counted each time it is reached (what is shared counts as often as it is met; a slice's spare places count too). A statement '..UptoSaid' is the law's where the arguments, and the package variables that the reading takes, are together of bulk at most 1048576: NARROWER than '..Said'. Prove '..Said' where nothing that the law and all that it calls make is longer than what came in: it says more and counts as full. Else prove '..UptoSaid'. A law counts once. -/
mutual
def uptoBulk {H : Type} : DataW H → Nat
  | .lit (.string bytes) => bytes.length + 1
  | .lit _ => 1
  | .nil => 1
  | .ptr d => uptoBulk d + 1
  | .slice elems spare => uptoBulkAll elems + uptoBulkAll spare + 1
  | .agg parts => uptoBulkAll parts + 1
  | .iface _ d => uptoBulk d + 1
  | .map entries => uptoBulkEntries entries + 1
  | .held _ => 1
def uptoBulkAll {H : Type} : List (DataW H) → Nat
  | [] => 0
  | d :: r => uptoBulk d + uptoBulkAll r
def uptoBulkEntries {H : Type} : List (Lit × DataW H) → Nat
  | [] => 0
  | x :: r => uptoBulkEntry x + uptoBulkEntries r
def uptoBulkEntry {H : Type} : Lit × DataW H → Nat
  | (.string bytes, d) => bytes.length + uptoBulk d + 1
  | (_, d) => uptoBulk d + 1
 end
def uptoSmall : (H : Type) → List (DataW H) → Bool := fun _ ds => decide (uptoBulkAll ds ≤ 1048576)
def OpenSpec.upto (s : _root_.Go.ChangeSpec) : _root_.Go.OpenSpec := { _root_.Go.OpenSpec.ofChange s with cond := some uptoSmall }

/-- 'fringelaw34.ChainNames', WHERE WHAT IT READS IS OF BULK AT MOST 1048576: true; the input reads as it did. -/
def chainNamesUptoRow : OpenClaim := { program := "ytfbcedhbeebipaa", sum := "2036f18686a1c4171cc1624bb5e33867595cf3d22ab547d99fac0a4c923915b6", func := "fringe/fringelaw34.ChainNames", spec := "chainNames", unfollowed := true, recurses := true, apart := false, narrowed := true }
def ChainNamesUptoSaid : Prop := chainNamesUptoRow.holds Try.pinned (OpenSpec.upto chainNamesSpec)

/-- 'fringelaw34.ChainScalars', WHERE WHAT IT READS IS OF BULK AT MOST 1048576: true; the input reads as it did. -/
def chainScalarsUptoRow : OpenClaim := { program := "ytfbcedhbeebipaa", sum := "2036f18686a1c4171cc1624bb5e33867595cf3d22ab547d99fac0a4c923915b6", func := "fringe/fringelaw34.ChainScalars", spec := "chainScalars", unfollowed := true, recurses := true, apart := false, narrowed := true }
def ChainScalarsUptoSaid : Prop := chainScalarsUptoRow.holds Try.pinned (OpenSpec.upto chainScalarsSpec)

/-- 'fringelaw34.ChainTables', WHERE WHAT IT READS IS OF BULK AT MOST 1048576: true; the input reads as it did. -/
def chainTablesUptoRow : OpenClaim := { program := "ytfbcedhbeebipaa", sum := "2036f18686a1c4171cc1624bb5e33867595cf3d22ab547d99fac0a4c923915b6", func := "fringe/fringelaw34.ChainTables", spec := "chainTables", unfollowed := true, recurses := true, apart := false, narrowed := true }
def ChainTablesUptoSaid : Prop := chainTablesUptoRow.holds Try.pinned (OpenSpec.upto chainTablesSpec)

/-- 'fringelaw34.ChainActs', WHERE WHAT IT READS IS OF BULK AT MOST 1048576: true; the input reads as it did. -/
def chainActsUptoRow : OpenClaim := { program := "ytfbcedhbeebipaa", sum := "2036f18686a1c4171cc1624bb5e33867595cf3d22ab547d99fac0a4c923915b6", func := "fringe/fringelaw34.ChainActs", spec := "chainActs", unfollowed := true, recurses := true, apart := false, narrowed := true }
def ChainActsUptoSaid : Prop := chainActsUptoRow.holds Try.pinned (OpenSpec.upto chainActsSpec)

/-- 'fringelaw34.ChainOne', WHERE WHAT IT READS IS OF BULK AT MOST 1048576: true; the input reads as it did. -/
def chainOneUptoRow : OpenClaim := { program := "ytfbcedhbeebipaa", sum := "2036f18686a1c4171cc1624bb5e33867595cf3d22ab547d99fac0a4c923915b6", func := "fringe/fringelaw34.ChainOne", spec := "chainOne", unfollowed := true, recurses := true, apart := false, narrowed := true }
def ChainOneUptoSaid : Prop := chainOneUptoRow.holds Try.pinned (OpenSpec.upto chainOneSpec)

/-- 'fringelaw34.ChainBack', WHERE WHAT IT READS IS OF BULK AT MOST 1048576: true; the input reads as it did. -/
def chainBackUptoRow : OpenClaim := { program := "ytfbcedhbeebipaa", sum := "2036f18686a1c4171cc1624bb5e33867595cf3d22ab547d99fac0a4c923915b6", func := "fringe/fringelaw34.ChainBack", spec := "chainBack", unfollowed := true, recurses := true, apart := false, narrowed := true }
def ChainBackUptoSaid : Prop := chainBackUptoRow.holds Try.pinned (OpenSpec.upto chainBackSpec)

/-- 'fringelaw34.ChainJoins', WHERE WHAT IT READS IS OF BULK AT MOST 1048576: true; the input reads as it did. -/
def chainJoinsUptoRow : OpenClaim := { program := "ytfbcedhbeebipaa", sum := "2036f18686a1c4171cc1624bb5e33867595cf3d22ab547d99fac0a4c923915b6", func := "fringe/fringelaw34.ChainJoins", spec := "chainJoins", unfollowed := true, recurses := true, apart := false, narrowed := true }
def ChainJoinsUptoSaid : Prop := chainJoinsUptoRow.holds Try.pinned (OpenSpec.upto chainJoinsSpec)

end Rows
end Go.Proofs.Ytfbcedhbeebipaa
