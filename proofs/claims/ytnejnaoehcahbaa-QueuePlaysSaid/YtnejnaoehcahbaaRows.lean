/-
  No cell of these rows narrows 'for every input' (looked for: loops, veiled, ifaces, maps, wideKeys, modest, calm, conditions, laid).
  DERIVED. THE GIVEN ROWS OF THIS SEAT. 6 by the template 'for every input the law returns true; each argument reads behind the call as it read before'; 0 by the template 'total and deterministic' (their statements: YtnejnaoehcahbaaTotals.lean).
  GIVEN WITH THE SEED: the statements are not yours to turn. If you find one false, say at which input.
  Laid BY PROGRAM, IN A SANDBOX (cutbox-rows.mjs): the forced cells as the released guide's own fill.sh prints them over the translation e671796a69cb1eb5… (all of the seat's roots in one cut). By AI agents, Wed Nov 11 2026. No macro, syntax, notation, axiom, sorry.
-/
import Derived.Test.YtnejnaoehcahbaaChecked
import GoSem.Claim
import GoSem.ClaimJoined
import GoSem.ClaimMapViews
import Derived.JoinedTies
import Derived.KernelRfl
namespace Go.Proofs.Ytnejnaoehcahbaa
/- THE CELL 'sum', in the pinned program and in every row, IS THE sha256 OF THE DUMP (.gsa) THAT YtnejnaoehcahbaaProg.lean LOADS. Nothing in Lean hashes anything: it is a label: what it is worth is what the hold of that sum in a sandbox is worth. -/
noncomputable def Try.pinned : Pinned := { name := "ytnejnaoehcahbaa", sum := "e671796a69cb1eb5ce7a2f8b8a68a604f1e42f4e542572ca0bba0a77da53114e", checked := Try.checked }
namespace Rows
def none {H : Type} : Left H := { results := [], args := [] }

/-- 'inquestlaw15.TallyBuilds': WHATEVER THE INPUT: true; the input reads as it did. -/
def tallyBuildsSpec : ChangeSpec := { name := "tallyBuilds", fn := fun _ => fun
  | [d1, d2, d3] => { results := [.lit (.bool true)], args := [d1, d2, d3] }
  | _ => none }
def tallyBuildsRow : OpenClaim := { program := "ytnejnaoehcahbaa", sum := "e671796a69cb1eb5ce7a2f8b8a68a604f1e42f4e542572ca0bba0a77da53114e", func := "inquest/inquestlaw15.TallyBuilds", spec := "tallyBuilds", unfollowed := true, recurses := true, apart := false }
def TallyBuildsSaid : Prop := tallyBuildsRow.holds Try.pinned (OpenSpec.ofChange tallyBuildsSpec)

/-- ITS FALSE NEIGHBOUR: 'it returns false'. Refute it at one input. -/
def tallyBuildsWrong : ChangeSpec := { name := "tallyBuilds", fn := fun _ => fun
  | [d1, d2, d3] => { results := [.lit (.bool false)], args := [d1, d2, d3] }
  | _ => none }
def TallyBuildsWrongFalsely : Prop := tallyBuildsRow.holds Try.pinned (OpenSpec.ofChange tallyBuildsWrong)

/-- 'inquestlaw15.TallyMost': WHATEVER THE INPUT: true; the input reads as it did. -/
def tallyMostSpec : ChangeSpec := { name := "tallyMost", fn := fun _ => fun
  | [d1, d2, d3] => { results := [.lit (.bool true)], args := [d1, d2, d3] }
  | _ => none }
def tallyMostRow : OpenClaim := { program := "ytnejnaoehcahbaa", sum := "e671796a69cb1eb5ce7a2f8b8a68a604f1e42f4e542572ca0bba0a77da53114e", func := "inquest/inquestlaw15.TallyMost", spec := "tallyMost", unfollowed := true, recurses := true, apart := false }
def TallyMostSaid : Prop := tallyMostRow.holds Try.pinned (OpenSpec.ofChange tallyMostSpec)

/-- ITS FALSE NEIGHBOUR: 'it returns false'. Refute it at one input. -/
def tallyMostWrong : ChangeSpec := { name := "tallyMost", fn := fun _ => fun
  | [d1, d2, d3] => { results := [.lit (.bool false)], args := [d1, d2, d3] }
  | _ => none }
def TallyMostWrongFalsely : Prop := tallyMostRow.holds Try.pinned (OpenSpec.ofChange tallyMostWrong)

/-- 'inquestlaw15.TallyOuts': WHATEVER THE INPUT: true; the input reads as it did. -/
def tallyOutsSpec : ChangeSpec := { name := "tallyOuts", fn := fun _ => fun
  | [d1, d2] => { results := [.lit (.bool true)], args := [d1, d2] }
  | _ => none }
def tallyOutsRow : OpenClaim := { program := "ytnejnaoehcahbaa", sum := "e671796a69cb1eb5ce7a2f8b8a68a604f1e42f4e542572ca0bba0a77da53114e", func := "inquest/inquestlaw15.TallyOuts", spec := "tallyOuts", unfollowed := true, recurses := true, apart := false }
def TallyOutsSaid : Prop := tallyOutsRow.holds Try.pinned (OpenSpec.ofChange tallyOutsSpec)

/-- ITS FALSE NEIGHBOUR: 'it returns false'. Refute it at one input. -/
def tallyOutsWrong : ChangeSpec := { name := "tallyOuts", fn := fun _ => fun
  | [d1, d2] => { results := [.lit (.bool false)], args := [d1, d2] }
  | _ => none }
def TallyOutsWrongFalsely : Prop := tallyOutsRow.holds Try.pinned (OpenSpec.ofChange tallyOutsWrong)

/-- 'inquestlaw12.QueuePlays': WHATEVER THE INPUT: true; the input reads as it did. -/
def queuePlaysSpec : ChangeSpec := { name := "queuePlays", fn := fun _ => fun
  | [d1, d2] => { results := [.lit (.bool true)], args := [d1, d2] }
  | _ => none }
def queuePlaysRow : OpenClaim := { program := "ytnejnaoehcahbaa", sum := "e671796a69cb1eb5ce7a2f8b8a68a604f1e42f4e542572ca0bba0a77da53114e", func := "inquest/inquestlaw12.QueuePlays", spec := "queuePlays", unfollowed := true, recurses := true, apart := false }
def QueuePlaysSaid : Prop := queuePlaysRow.holds Try.pinned (OpenSpec.ofChange queuePlaysSpec)

/-- ITS FALSE NEIGHBOUR: 'it returns false'. Refute it at one input. -/
def queuePlaysWrong : ChangeSpec := { name := "queuePlays", fn := fun _ => fun
  | [d1, d2] => { results := [.lit (.bool false)], args := [d1, d2] }
  | _ => none }
def QueuePlaysWrongFalsely : Prop := queuePlaysRow.holds Try.pinned (OpenSpec.ofChange queuePlaysWrong)

/-- 'inquestlaw12.QueueFalls': WHATEVER THE INPUT: true; the input reads as it did. -/
def queueFallsSpec : ChangeSpec := { name := "queueFalls", fn := fun _ => fun
  | [d1, d2, d3] => { results := [.lit (.bool true)], args := [d1, d2, d3] }
  | _ => none }
def queueFallsRow : OpenClaim := { program := "ytnejnaoehcahbaa", sum := "e671796a69cb1eb5ce7a2f8b8a68a604f1e42f4e542572ca0bba0a77da53114e", func := "inquest/inquestlaw12.QueueFalls", spec := "queueFalls", unfollowed := true, recurses := true, apart := false }
def QueueFallsSaid : Prop := queueFallsRow.holds Try.pinned (OpenSpec.ofChange queueFallsSpec)

/-- ITS FALSE NEIGHBOUR: 'it returns false'. Refute it at one input. -/
def queueFallsWrong : ChangeSpec := { name := "queueFalls", fn := fun _ => fun
  | [d1, d2, d3] => { results := [.lit (.bool false)], args := [d1, d2, d3] }
  | _ => none }
def QueueFallsWrongFalsely : Prop := queueFallsRow.holds Try.pinned (OpenSpec.ofChange queueFallsWrong)

/-- 'inquestlaw12.QueueNil': WHATEVER THE INPUT: true; the input reads as it did. -/
def queueNilSpec : ChangeSpec := { name := "queueNil", fn := fun _ => fun
  | [d1, d2] => { results := [.lit (.bool true)], args := [d1, d2] }
  | _ => none }
def queueNilRow : OpenClaim := { program := "ytnejnaoehcahbaa", sum := "e671796a69cb1eb5ce7a2f8b8a68a604f1e42f4e542572ca0bba0a77da53114e", func := "inquest/inquestlaw12.QueueNil", spec := "queueNil", unfollowed := true, recurses := true, apart := false }
def QueueNilSaid : Prop := queueNilRow.holds Try.pinned (OpenSpec.ofChange queueNilSpec)

/-- ITS FALSE NEIGHBOUR: 'it returns false'. Refute it at one input. -/
def queueNilWrong : ChangeSpec := { name := "queueNil", fn := fun _ => fun
  | [d1, d2] => { results := [.lit (.bool false)], args := [d1, d2] }
  | _ => none }
def QueueNilWrongFalsely : Prop := queueNilRow.holds Try.pinned (OpenSpec.ofChange queueNilWrong)

/- THE SECOND FORM. 'bulk': how many values and letters a reading holds, each counted each time it is reached (what is shared counts as often as it is met; a slice's spare places count too). A statement '..UptoSaid' is the law's where the arguments, and the package variables that the reading takes, are together of bulk at most 1048576: NARROWER than '..Said'. Prove '..Said' where nothing that the law and all that it calls make is longer than what came in: it says more and counts as full. Else prove '..UptoSaid'. A law counts once. -/
mutual
def uptoBulk {H : Type} : DataW H → Nat
  | .lit (.string bytes) => bytes.length + 1
  | .lit _ => 1
  | .nil => 1
  | .ptr d => uptoBulk d + 1
  | .slice elems spare => uptoBulkAll elems + uptoBulkAll spare + 1
  | .agg parts => uptoBulkAll parts + 1
  | .iface _ d => uptoBulk d + 1
  | .map entries => uptoBulkEntries entries + 1
  | .held _ => 1
def uptoBulkAll {H : Type} : List (DataW H) → Nat
  | [] => 0
  | d :: r => uptoBulk d + uptoBulkAll r
def uptoBulkEntries {H : Type} : List (Lit × DataW H) → Nat
  | [] => 0
  | x :: r => uptoBulkEntry x + uptoBulkEntries r
def uptoBulkEntry {H : Type} : Lit × DataW H → Nat
  | (.string bytes, d) => bytes.length + uptoBulk d + 1
  | (_, d) => uptoBulk d + 1
 end
def uptoSmall : (H : Type) → List (DataW H) → Bool := fun _ ds => decide (uptoBulkAll ds ≤ 1048576)
def OpenSpec.upto (s : _root_.Go.ChangeSpec) : _root_.Go.OpenSpec := { _root_.Go.OpenSpec.ofChange s with cond := some uptoSmall }

/-- 'inquestlaw15.TallyBuilds', WHERE WHAT IT READS IS OF BULK AT MOST 1048576: true; the input reads as it did. -/
def tallyBuildsUptoRow : OpenClaim := { program := "ytnejnaoehcahbaa", sum := "e671796a69cb1eb5ce7a2f8b8a68a604f1e42f4e542572ca0bba0a77da53114e", func := "inquest/inquestlaw15.TallyBuilds", spec := "tallyBuilds", unfollowed := true, recurses := true, apart := false, narrowed := true }
def TallyBuildsUptoSaid : Prop := tallyBuildsUptoRow.holds Try.pinned (OpenSpec.upto tallyBuildsSpec)

/-- 'inquestlaw15.TallyMost', WHERE WHAT IT READS IS OF BULK AT MOST 1048576: true; the input reads as it did. -/
def tallyMostUptoRow : OpenClaim := { program := "ytnejnaoehcahbaa", sum := "e671796a69cb1eb5ce7a2f8b8a68a604f1e42f4e542572ca0bba0a77da53114e", func := "inquest/inquestlaw15.TallyMost", spec := "tallyMost", unfollowed := true, recurses := true, apart := false, narrowed := true }
def TallyMostUptoSaid : Prop := tallyMostUptoRow.holds Try.pinned (OpenSpec.upto tallyMostSpec)

/-- 'inquestlaw15.TallyOuts', WHERE WHAT IT READS IS OF BULK AT MOST 1048576: true; the input reads as it did. -/
def tallyOutsUptoRow : OpenClaim := { program := "ytnejnaoehcahbaa", sum := "e671796a69cb1eb5ce7a2f8b8a68a604f1e42f4e542572ca0bba0a77da53114e", func := "inquest/inquestlaw15.TallyOuts", spec := "tallyOuts", unfollowed := true, recurses := true, apart := false, narrowed := true }
def TallyOutsUptoSaid : Prop := tallyOutsUptoRow.holds Try.pinned (OpenSpec.upto tallyOutsSpec)

/-- 'inquestlaw12.QueuePlays', WHERE WHAT IT READS IS OF BULK AT MOST 1048576: true; the input reads as it did. -/
def queuePlaysUptoRow : OpenClaim := { program := "ytnejnaoehcahbaa", sum := "e671796a69cb1eb5ce7a2f8b8a68a604f1e42f4e542572ca0bba0a77da53114e", func := "inquest/inquestlaw12.QueuePlays", spec := "queuePlays", unfollowed := true, recurses := true, apart := false, narrowed := true }
def QueuePlaysUptoSaid : Prop := queuePlaysUptoRow.holds Try.pinned (OpenSpec.upto queuePlaysSpec)

/-- 'inquestlaw12.QueueFalls', WHERE WHAT IT READS IS OF BULK AT MOST 1048576: true; the input reads as it did. -/
def queueFallsUptoRow : OpenClaim := { program := "ytnejnaoehcahbaa", sum := "e671796a69cb1eb5ce7a2f8b8a68a604f1e42f4e542572ca0bba0a77da53114e", func := "inquest/inquestlaw12.QueueFalls", spec := "queueFalls", unfollowed := true, recurses := true, apart := false, narrowed := true }
def QueueFallsUptoSaid : Prop := queueFallsUptoRow.holds Try.pinned (OpenSpec.upto queueFallsSpec)

/-- 'inquestlaw12.QueueNil', WHERE WHAT IT READS IS OF BULK AT MOST 1048576: true; the input reads as it did. -/
def queueNilUptoRow : OpenClaim := { program := "ytnejnaoehcahbaa", sum := "e671796a69cb1eb5ce7a2f8b8a68a604f1e42f4e542572ca0bba0a77da53114e", func := "inquest/inquestlaw12.QueueNil", spec := "queueNil", unfollowed := true, recurses := true, apart := false, narrowed := true }
def QueueNilUptoSaid : Prop := queueNilUptoRow.holds Try.pinned (OpenSpec.upto queueNilSpec)

end Rows
end Go.Proofs.Ytnejnaoehcahbaa
