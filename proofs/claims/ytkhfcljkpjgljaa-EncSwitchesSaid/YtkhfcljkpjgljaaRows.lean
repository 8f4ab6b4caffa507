/-
  No cell of these rows narrows 'for every input' (looked for: loops, veiled, ifaces, maps, wideKeys, modest, calm, conditions, laid).
  DERIVED. THE GIVEN ROWS OF THIS SEAT. 7 by the template 'for every input the law returns true; each argument reads behind the call as it read before'; 0 by the template 'total and deterministic' (their statements: YtkhfcljkpjgljaaTotals.lean).
  GIVEN WITH THE SEED: the statements are not yours to turn. If you find one false, say at which input.
  Laid BY PROGRAM, IN A SANDBOX (cutbox-rows.mjs): the forced cells as the released guide's own fill.sh prints them over the translation 03a27860f6e666ac… (all of the seat's roots in one cut). By AI agents, Wed Nov 11 2026. No macro, syntax, notation, axiom, sorry.
-/
import Derived.Test.YtkhfcljkpjgljaaChecked
import GoSem.Claim
import GoSem.ClaimJoined
import GoSem.ClaimMapViews
import Derived.JoinedTies
import Derived.KernelRfl
namespace Go.Proofs.Ytkhfcljkpjgljaa
/- THE CELL 'sum', in the pinned program and in every row, IS THE sha256 OF THE DUMP (.gsa) THAT YtkhfcljkpjgljaaProg.lean LOADS. Nothing in Lean hashes anything: it is a label: what it is worth is what the hold of that sum in a sandbox is worth. -/
noncomputable def Try.pinned : Pinned := { name := "ytkhfcljkpjgljaa", sum := "03a27860f6e666ac0115d1d64b840775b7d6af18fbcadfbb4e9901cea3a3cf23", checked := Try.checked }
namespace Rows
def none {H : Type} : Left H := { results := [], args := [] }

/-- 'inquestlaw14.EncSwitches': WHATEVER THE INPUT: true; the input reads as it did. -/
def encSwitchesSpec : ChangeSpec := { name := "encSwitches", fn := fun _ => fun
  | [d1, d2] => { results := [.lit (.bool true)], args := [d1, d2] }
  | _ => none }
def encSwitchesRow : OpenClaim := { program := "ytkhfcljkpjgljaa", sum := "03a27860f6e666ac0115d1d64b840775b7d6af18fbcadfbb4e9901cea3a3cf23", func := "inquest/inquestlaw14.EncSwitches", spec := "encSwitches", unfollowed := true, recurses := true, apart := false }
def EncSwitchesSaid : Prop := encSwitchesRow.holds Try.pinned (OpenSpec.ofChange encSwitchesSpec)

/-- ITS FALSE NEIGHBOUR: 'it returns false'. Refute it at one input. -/
def encSwitchesWrong : ChangeSpec := { name := "encSwitches", fn := fun _ => fun
  | [d1, d2] => { results := [.lit (.bool false)], args := [d1, d2] }
  | _ => none }
def EncSwitchesWrongFalsely : Prop := encSwitchesRow.holds Try.pinned (OpenSpec.ofChange encSwitchesWrong)

/-- 'inquestlaw03.NormValues': WHATEVER THE INPUT: true; the input reads as it did. -/
def normValuesSpec : ChangeSpec := { name := "normValues", fn := fun _ => fun
  | [d1, d2] => { results := [.lit (.bool true)], args := [d1, d2] }
  | _ => none }
def normValuesRow : OpenClaim := { program := "ytkhfcljkpjgljaa", sum := "03a27860f6e666ac0115d1d64b840775b7d6af18fbcadfbb4e9901cea3a3cf23", func := "inquest/inquestlaw03.NormValues", spec := "normValues", unfollowed := true, recurses := true, apart := false }
def NormValuesSaid : Prop := normValuesRow.holds Try.pinned (OpenSpec.ofChange normValuesSpec)

/-- ITS FALSE NEIGHBOUR: 'it returns false'. Refute it at one input. -/
def normValuesWrong : ChangeSpec := { name := "normValues", fn := fun _ => fun
  | [d1, d2] => { results := [.lit (.bool false)], args := [d1, d2] }
  | _ => none }
def NormValuesWrongFalsely : Prop := normValuesRow.holds Try.pinned (OpenSpec.ofChange normValuesWrong)

/-- 'inquestlaw14.EncTells': WHATEVER THE INPUT: true; the input reads as it did. -/
def encTellsSpec : ChangeSpec := { name := "encTells", fn := fun _ => fun
  | [d1, d2, d3, d4, d5, d6, d7] => { results := [.lit (.bool true)], args := [d1, d2, d3, d4, d5, d6, d7] }
  | _ => none }
def encTellsRow : OpenClaim := { program := "ytkhfcljkpjgljaa", sum := "03a27860f6e666ac0115d1d64b840775b7d6af18fbcadfbb4e9901cea3a3cf23", func := "inquest/inquestlaw14.EncTells", spec := "encTells", unfollowed := true, recurses := true, apart := false }
def EncTellsSaid : Prop := encTellsRow.holds Try.pinned (OpenSpec.ofChange encTellsSpec)

/-- ITS FALSE NEIGHBOUR: 'it returns false'. Refute it at one input. -/
def encTellsWrong : ChangeSpec := { name := "encTells", fn := fun _ => fun
  | [d1, d2, d3, d4, d5, d6, d7] => { results := [.lit (.bool false)], args := [d1, d2, d3, d4, d5, d6, d7] }
  | _ => none }
def EncTellsWrongFalsely : Prop := encTellsRow.holds Try.pinned (OpenSpec.ofChange encTellsWrong)

/-- 'inquestlaw14.EncModels': WHATEVER THE INPUT: true; the input reads as it did. -/
def encModelsSpec : ChangeSpec := { name := "encModels", fn := fun _ => fun
  | [d1, d2, d3] => { results := [.lit (.bool true)], args := [d1, d2, d3] }
  | _ => none }
def encModelsRow : OpenClaim := { program := "ytkhfcljkpjgljaa", sum := "03a27860f6e666ac0115d1d64b840775b7d6af18fbcadfbb4e9901cea3a3cf23", func := "inquest/inquestlaw14.EncModels", spec := "encModels", unfollowed := true, recurses := true, apart := false }
def EncModelsSaid : Prop := encModelsRow.holds Try.pinned (OpenSpec.ofChange encModelsSpec)

/-- ITS FALSE NEIGHBOUR: 'it returns false'. Refute it at one input. -/
def encModelsWrong : ChangeSpec := { name := "encModels", fn := fun _ => fun
  | [d1, d2, d3] => { results := [.lit (.bool false)], args := [d1, d2, d3] }
  | _ => none }
def EncModelsWrongFalsely : Prop := encModelsRow.holds Try.pinned (OpenSpec.ofChange encModelsWrong)

/-- 'inquestlaw03.NormOf': WHATEVER THE INPUT: true; the input reads as it did. -/
def normOfSpec : ChangeSpec := { name := "normOf", fn := fun _ => fun
  | [d] => { results := [.lit (.bool true)], args := [d] }
  | _ => none }
def normOfRow : OpenClaim := { program := "ytkhfcljkpjgljaa", sum := "03a27860f6e666ac0115d1d64b840775b7d6af18fbcadfbb4e9901cea3a3cf23", func := "inquest/inquestlaw03.NormOf", spec := "normOf", unfollowed := true, recurses := true, apart := false }
def NormOfSaid : Prop := normOfRow.holds Try.pinned (OpenSpec.ofChange normOfSpec)

/-- ITS FALSE NEIGHBOUR: 'it returns false'. Refute it at one input. -/
def normOfWrong : ChangeSpec := { name := "normOf", fn := fun _ => fun
  | [d] => { results := [.lit (.bool false)], args := [d] }
  | _ => none }
def NormOfWrongFalsely : Prop := normOfRow.holds Try.pinned (OpenSpec.ofChange normOfWrong)

/-- 'inquestlaw03.NormOwn': WHATEVER THE INPUT: true; the input reads as it did. -/
def normOwnSpec : ChangeSpec := { name := "normOwn", fn := fun _ => fun
  | [d1, d2, d3] => { results := [.lit (.bool true)], args := [d1, d2, d3] }
  | _ => none }
def normOwnRow : OpenClaim := { program := "ytkhfcljkpjgljaa", sum := "03a27860f6e666ac0115d1d64b840775b7d6af18fbcadfbb4e9901cea3a3cf23", func := "inquest/inquestlaw03.NormOwn", spec := "normOwn", unfollowed := true, recurses := true, apart := false }
def NormOwnSaid : Prop := normOwnRow.holds Try.pinned (OpenSpec.ofChange normOwnSpec)

/-- ITS FALSE NEIGHBOUR: 'it returns false'. Refute it at one input. -/
def normOwnWrong : ChangeSpec := { name := "normOwn", fn := fun _ => fun
  | [d1, d2, d3] => { results := [.lit (.bool false)], args := [d1, d2, d3] }
  | _ => none }
def NormOwnWrongFalsely : Prop := normOwnRow.holds Try.pinned (OpenSpec.ofChange normOwnWrong)

/-- 'inquestlaw03.NormTells': WHATEVER THE INPUT: true; the input reads as it did. -/
def normTellsSpec : ChangeSpec := { name := "normTells", fn := fun _ => fun
  | [d1, d2, d3, d4] => { results := [.lit (.bool true)], args := [d1, d2, d3, d4] }
  | _ => none }
def normTellsRow : OpenClaim := { program := "ytkhfcljkpjgljaa", sum := "03a27860f6e666ac0115d1d64b840775b7d6af18fbcadfbb4e9901cea3a3cf23", func := "inquest/inquestlaw03.NormTells", spec := "normTells", unfollowed := true, recurses := true, apart := false }
def NormTellsSaid : Prop := normTellsRow.holds Try.pinned (OpenSpec.ofChange normTellsSpec)

/-- ITS FALSE NEIGHBOUR: 'it returns false'. Refute it at one input. -/
def normTellsWrong : ChangeSpec := { name := "normTells", fn := fun _ => fun
  | [d1, d2, d3, d4] => { results := [.lit (.bool false)], args := [d1, d2, d3, d4] }
  | _ => none }
def NormTellsWrongFalsely : Prop := normTellsRow.holds Try.pinned (OpenSpec.ofChange normTellsWrong)

/- THE SECOND FORM. 'bulk': how many values and letters a reading holds, each counted each time it is reached (what is shared counts as often as it is met; a slice's spare places count too). A statement '..UptoSaid' is the law's where the arguments, and the package variables that the reading takes, are together of bulk at most 1048576: NARROWER than '..Said'. Prove '..Said' where nothing that the law and all that it calls make is longer than what came in: it says more and counts as full. Else prove '..UptoSaid'. A law counts once. -/
mutual
def uptoBulk {H : Type} : DataW H → Nat
  | .lit (.string bytes) => bytes.length + 1
  | .lit _ => 1
  | .nil => 1
  | .ptr d => uptoBulk d + 1
  | .slice elems spare => uptoBulkAll elems + uptoBulkAll spare + 1
  | .agg parts => uptoBulkAll parts + 1
  | .iface _ d => uptoBulk d + 1
  | .map entries => uptoBulkEntries entries + 1
  | .held _ => 1
def uptoBulkAll {H : Type} : List (DataW H) → Nat
  | [] => 0
  | d :: r => uptoBulk d + uptoBulkAll r
def uptoBulkEntries {H : Type} : List (Lit × DataW H) → Nat
  | [] => 0
  | x :: r => uptoBulkEntry x + uptoBulkEntries r
def uptoBulkEntry {H : Type} : Lit × DataW H → Nat
  | (.string bytes, d) => bytes.length + uptoBulk d + 1
  | (_, d) => uptoBulk d + 1
 end
def uptoSmall : (H : Type) → List (DataW H) → Bool := fun _ ds => decide (uptoBulkAll ds ≤ 1048576)
def OpenSpec.upto (s : _root_.Go.ChangeSpec) : _root_.Go.OpenSpec := { _root_.Go.OpenSpec.ofChange s with cond := some uptoSmall }

/-- 'inquestlaw14.EncSwitches', WHERE WHAT IT READS IS OF BULK AT MOST 1048576: true; the input reads as it did. -/
def encSwitchesUptoRow : OpenClaim := { program := "ytkhfcljkpjgljaa", sum := "03a27860f6e666ac0115d1d64b840775b7d6af18fbcadfbb4e9901cea3a3cf23", func := "inquest/inquestlaw14.EncSwitches", spec := "encSwitches", unfollowed := true, recurses := true, apart := false, narrowed := true }
def EncSwitchesUptoSaid : Prop := encSwitchesUptoRow.holds Try.pinned (OpenSpec.upto encSwitchesSpec)

/-- 'inquestlaw03.NormValues', WHERE WHAT IT READS IS OF BULK AT MOST 1048576: true; the input reads as it did. -/
def normValuesUptoRow : OpenClaim := { program := "ytkhfcljkpjgljaa", sum := "03a27860f6e666ac0115d1d64b840775b7d6af18fbcadfbb4e9901cea3a3cf23", func := "inquest/inquestlaw03.NormValues", spec := "normValues", unfollowed := true, recurses := true, apart := false, narrowed := true }
def NormValuesUptoSaid : Prop := normValuesUptoRow.holds Try.pinned (OpenSpec.upto normValuesSpec)

/-- 'inquestlaw14.EncTells', WHERE WHAT IT READS IS OF BULK AT MOST 1048576: true; the input reads as it did. -/
def encTellsUptoRow : OpenClaim := { program := "ytkhfcljkpjgljaa", sum := "03a27860f6e666ac0115d1d64b840775b7d6af18fbcadfbb4e9901cea3a3cf23", func := "inquest/inquestlaw14.EncTells", spec := "encTells", unfollowed := true, recurses := true, apart := false, narrowed := true }
def EncTellsUptoSaid : Prop := encTellsUptoRow.holds Try.pinned (OpenSpec.upto encTellsSpec)

/-- 'inquestlaw14.EncModels', WHERE WHAT IT READS IS OF BULK AT MOST 1048576: true; the input reads as it did. -/
def encModelsUptoRow : OpenClaim := { program := "ytkhfcljkpjgljaa", sum := "03a27860f6e666ac0115d1d64b840775b7d6af18fbcadfbb4e9901cea3a3cf23", func := "inquest/inquestlaw14.EncModels", spec := "encModels", unfollowed := true, recurses := true, apart := false, narrowed := true }
def EncModelsUptoSaid : Prop := encModelsUptoRow.holds Try.pinned (OpenSpec.upto encModelsSpec)

/-- 'inquestlaw03.NormOf', WHERE WHAT IT READS IS OF BULK AT MOST 1048576: true; the input reads as it did. -/
def normOfUptoRow : OpenClaim := { program := "ytkhfcljkpjgljaa", sum := "03a27860f6e666ac0115d1d64b840775b7d6af18fbcadfbb4e9901cea3a3cf23", func := "inquest/inquestlaw03.NormOf", spec := "normOf", unfollowed := true, recurses := true, apart := false, narrowed := true }
def NormOfUptoSaid : Prop := normOfUptoRow.holds Try.pinned (OpenSpec.upto normOfSpec)

/-- 'inquestlaw03.NormOwn', WHERE WHAT IT READS IS OF BULK AT MOST 1048576: true; the input reads as it did. -/
def normOwnUptoRow : OpenClaim := { program := "ytkhfcljkpjgljaa", sum := "03a27860f6e666ac0115d1d64b840775b7d6af18fbcadfbb4e9901cea3a3cf23", func := "inquest/inquestlaw03.NormOwn", spec := "normOwn", unfollowed := true, recurses := true, apart := false, narrowed := true }
def NormOwnUptoSaid : Prop := normOwnUptoRow.holds Try.pinned (OpenSpec.upto normOwnSpec)

/-- 'inquestlaw03.NormTells', WHERE WHAT IT READS IS OF BULK AT MOST 1048576: true; the input reads as it did. -/
def normTellsUptoRow : OpenClaim := { program := "ytkhfcljkpjgljaa", sum := "03a27860f6e666ac0115d1d64b840775b7d6af18fbcadfbb4e9901cea3a3cf23", func := "inquest/inquestlaw03.NormTells", spec := "normTells", unfollowed := true, recurses := true, apart := false, narrowed := true }
def NormTellsUptoSaid : Prop := normTellsUptoRow.holds Try.pinned (OpenSpec.upto normTellsSpec)

end Rows
end Go.Proofs.Ytkhfcljkpjgljaa
