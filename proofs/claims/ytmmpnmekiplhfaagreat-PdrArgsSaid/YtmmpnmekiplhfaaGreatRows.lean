/-
  No cell of these rows narrows 'for every input' (looked for: loops, veiled, ifaces, maps, wideKeys, modest, calm, conditions, laid).
  DERIVED. THE GIVEN ROWS OF THIS SEAT. 14 by the template 'for every input the law returns true; each argument reads behind the call as it read before'; 0 by the template 'total and deterministic' (their statements: YtmmpnmekiplhfaaGreatTotals.lean).
  GIVEN WITH THE SEED: the statements are not yours to turn. If you find one false, say at which input.
  Laid BY PROGRAM, IN A SANDBOX (cutbox-rows.mjs): the forced cells as the released guide's own fill.sh prints them over the translation 2ef5214a8f5f3890… (all of the seat's roots in one cut). By AI agents, Wed Nov 11 2026. No macro, syntax, notation, axiom, sorry.
-/
import Derived.Test.YtmmpnmekiplhfaaGreatChecked
import GoSem.Claim
import GoSem.ClaimJoined
import GoSem.ClaimMapViews
import Derived.JoinedTies
import Derived.KernelRfl
namespace Go.Proofs.YtmmpnmekiplhfaaGreat
/- THE CELL 'sum', in the pinned program and in every row, IS THE sha256 OF THE DUMP (.gsa) THAT YtmmpnmekiplhfaaGreatProg.lean LOADS. Nothing in Lean hashes anything: it is a label: what it is worth is what the hold of that sum in a sandbox is worth. -/
noncomputable def Tryz.pinned : Pinned := { name := "ytmmpnmekiplhfaagreat", sum := "2ef5214a8f5f3890c6052509f2fe8c686904e252234d733023a3b6dedca663b7", checked := Tryz.checked }
namespace Rows
def none {H : Type} : Left H := { results := [], args := [] }

/-- 'inquestlaw13.SatSays': WHATEVER THE INPUT: true; the input reads as it did. -/
def satSaysSpec : ChangeSpec := { name := "satSays", fn := fun _ => fun
  | [d1, d2, d3] => { results := [.lit (.bool true)], args := [d1, d2, d3] }
  | _ => none }
def satSaysRow : OpenClaim := { program := "ytmmpnmekiplhfaagreat", sum := "2ef5214a8f5f3890c6052509f2fe8c686904e252234d733023a3b6dedca663b7", func := "inquest/inquestlaw13.SatSays", spec := "satSays", unfollowed := true, recurses := true, apart := false }
def SatSaysSaid : Prop := satSaysRow.holds Tryz.pinned (OpenSpec.ofChange satSaysSpec)

/-- ITS FALSE NEIGHBOUR: 'it returns false'. Refute it at one input. -/
def satSaysWrong : ChangeSpec := { name := "satSays", fn := fun _ => fun
  | [d1, d2, d3] => { results := [.lit (.bool false)], args := [d1, d2, d3] }
  | _ => none }
def SatSaysWrongFalsely : Prop := satSaysRow.holds Tryz.pinned (OpenSpec.ofChange satSaysWrong)

/-- 'inquestlaw13.SatBars': WHATEVER THE INPUT: true; the input reads as it did. -/
def satBarsSpec : ChangeSpec := { name := "satBars", fn := fun _ => fun
  | [d1, d2] => { results := [.lit (.bool true)], args := [d1, d2] }
  | _ => none }
def satBarsRow : OpenClaim := { program := "ytmmpnmekiplhfaagreat", sum := "2ef5214a8f5f3890c6052509f2fe8c686904e252234d733023a3b6dedca663b7", func := "inquest/inquestlaw13.SatBars", spec := "satBars", unfollowed := true, recurses := true, apart := false }
def SatBarsSaid : Prop := satBarsRow.holds Tryz.pinned (OpenSpec.ofChange satBarsSpec)

/-- ITS FALSE NEIGHBOUR: 'it returns false'. Refute it at one input. -/
def satBarsWrong : ChangeSpec := { name := "satBars", fn := fun _ => fun
  | [d1, d2] => { results := [.lit (.bool false)], args := [d1, d2] }
  | _ => none }
def SatBarsWrongFalsely : Prop := satBarsRow.holds Tryz.pinned (OpenSpec.ofChange satBarsWrong)

/-- 'inquestlaw13.SatPlays': WHATEVER THE INPUT: true; the input reads as it did. -/
def satPlaysSpec : ChangeSpec := { name := "satPlays", fn := fun _ => fun
  | [d1, d2] => { results := [.lit (.bool true)], args := [d1, d2] }
  | _ => none }
def satPlaysRow : OpenClaim := { program := "ytmmpnmekiplhfaagreat", sum := "2ef5214a8f5f3890c6052509f2fe8c686904e252234d733023a3b6dedca663b7", func := "inquest/inquestlaw13.SatPlays", spec := "satPlays", unfollowed := true, recurses := true, apart := false }
def SatPlaysSaid : Prop := satPlaysRow.holds Tryz.pinned (OpenSpec.ofChange satPlaysSpec)

/-- ITS FALSE NEIGHBOUR: 'it returns false'. Refute it at one input. -/
def satPlaysWrong : ChangeSpec := { name := "satPlays", fn := fun _ => fun
  | [d1, d2] => { results := [.lit (.bool false)], args := [d1, d2] }
  | _ => none }
def SatPlaysWrongFalsely : Prop := satPlaysRow.holds Tryz.pinned (OpenSpec.ofChange satPlaysWrong)

/-- 'inquestlaw13.SatNil': WHATEVER THE INPUT: true; the input reads as it did. -/
def satNilSpec : ChangeSpec := { name := "satNil", fn := fun _ => fun
  | [d1, d2, d3] => { results := [.lit (.bool true)], args := [d1, d2, d3] }
  | _ => none }
def satNilRow : OpenClaim := { program := "ytmmpnmekiplhfaagreat", sum := "2ef5214a8f5f3890c6052509f2fe8c686904e252234d733023a3b6dedca663b7", func := "inquest/inquestlaw13.SatNil", spec := "satNil", unfollowed := true, recurses := true, apart := false }
def SatNilSaid : Prop := satNilRow.holds Tryz.pinned (OpenSpec.ofChange satNilSpec)

/-- ITS FALSE NEIGHBOUR: 'it returns false'. Refute it at one input. -/
def satNilWrong : ChangeSpec := { name := "satNil", fn := fun _ => fun
  | [d1, d2, d3] => { results := [.lit (.bool false)], args := [d1, d2, d3] }
  | _ => none }
def SatNilWrongFalsely : Prop := satNilRow.holds Tryz.pinned (OpenSpec.ofChange satNilWrong)

/-- 'inquestlaw30.CertNo': WHATEVER THE INPUT: true; the input reads as it did. -/
def certNoSpec : ChangeSpec := { name := "certNo", fn := fun _ => fun
  | [d1, d2, d3, d4] => { results := [.lit (.bool true)], args := [d1, d2, d3, d4] }
  | _ => none }
def certNoRow : OpenClaim := { program := "ytmmpnmekiplhfaagreat", sum := "2ef5214a8f5f3890c6052509f2fe8c686904e252234d733023a3b6dedca663b7", func := "inquest/inquestlaw30.CertNo", spec := "certNo", unfollowed := true, recurses := true, apart := false }
def CertNoSaid : Prop := certNoRow.holds Tryz.pinned (OpenSpec.ofChange certNoSpec)

/-- ITS FALSE NEIGHBOUR: 'it returns false'. Refute it at one input. -/
def certNoWrong : ChangeSpec := { name := "certNo", fn := fun _ => fun
  | [d1, d2, d3, d4] => { results := [.lit (.bool false)], args := [d1, d2, d3, d4] }
  | _ => none }
def CertNoWrongFalsely : Prop := certNoRow.holds Tryz.pinned (OpenSpec.ofChange certNoWrong)

/-- 'inquestlaw30.CertAll': WHATEVER THE INPUT: true; the input reads as it did. -/
def certAllSpec : ChangeSpec := { name := "certAll", fn := fun _ => fun
  | [d1, d2, d3] => { results := [.lit (.bool true)], args := [d1, d2, d3] }
  | _ => none }
def certAllRow : OpenClaim := { program := "ytmmpnmekiplhfaagreat", sum := "2ef5214a8f5f3890c6052509f2fe8c686904e252234d733023a3b6dedca663b7", func := "inquest/inquestlaw30.CertAll", spec := "certAll", unfollowed := true, recurses := true, apart := false }
def CertAllSaid : Prop := certAllRow.holds Tryz.pinned (OpenSpec.ofChange certAllSpec)

/-- ITS FALSE NEIGHBOUR: 'it returns false'. Refute it at one input. -/
def certAllWrong : ChangeSpec := { name := "certAll", fn := fun _ => fun
  | [d1, d2, d3] => { results := [.lit (.bool false)], args := [d1, d2, d3] }
  | _ => none }
def CertAllWrongFalsely : Prop := certAllRow.holds Tryz.pinned (OpenSpec.ofChange certAllWrong)

/-- 'inquestlaw30.CertSafe': WHATEVER THE INPUT: true; the input reads as it did. -/
def certSafeSpec : ChangeSpec := { name := "certSafe", fn := fun _ => fun
  | [d1, d2, d3] => { results := [.lit (.bool true)], args := [d1, d2, d3] }
  | _ => none }
def certSafeRow : OpenClaim := { program := "ytmmpnmekiplhfaagreat", sum := "2ef5214a8f5f3890c6052509f2fe8c686904e252234d733023a3b6dedca663b7", func := "inquest/inquestlaw30.CertSafe", spec := "certSafe", unfollowed := true, recurses := true, apart := false }
def CertSafeSaid : Prop := certSafeRow.holds Tryz.pinned (OpenSpec.ofChange certSafeSpec)

/-- ITS FALSE NEIGHBOUR: 'it returns false'. Refute it at one input. -/
def certSafeWrong : ChangeSpec := { name := "certSafe", fn := fun _ => fun
  | [d1, d2, d3] => { results := [.lit (.bool false)], args := [d1, d2, d3] }
  | _ => none }
def CertSafeWrongFalsely : Prop := certSafeRow.holds Tryz.pinned (OpenSpec.ofChange certSafeWrong)

/-- 'inquestlaw30.CertArgs': WHATEVER THE INPUT: true; the input reads as it did. -/
def certArgsSpec : ChangeSpec := { name := "certArgs", fn := fun _ => fun
  | [d1, d2, d3, d4] => { results := [.lit (.bool true)], args := [d1, d2, d3, d4] }
  | _ => none }
def certArgsRow : OpenClaim := { program := "ytmmpnmekiplhfaagreat", sum := "2ef5214a8f5f3890c6052509f2fe8c686904e252234d733023a3b6dedca663b7", func := "inquest/inquestlaw30.CertArgs", spec := "certArgs", unfollowed := true, recurses := true, apart := false }
def CertArgsSaid : Prop := certArgsRow.holds Tryz.pinned (OpenSpec.ofChange certArgsSpec)

/-- ITS FALSE NEIGHBOUR: 'it returns false'. Refute it at one input. -/
def certArgsWrong : ChangeSpec := { name := "certArgs", fn := fun _ => fun
  | [d1, d2, d3, d4] => { results := [.lit (.bool false)], args := [d1, d2, d3, d4] }
  | _ => none }
def CertArgsWrongFalsely : Prop := certArgsRow.holds Tryz.pinned (OpenSpec.ofChange certArgsWrong)

/-- 'inquestlaw31.PdrSmall': WHATEVER THE INPUT: true; the input reads as it did. -/
def pdrSmallSpec : ChangeSpec := { name := "pdrSmall", fn := fun _ => fun
  | [d1, d2] => { results := [.lit (.bool true)], args := [d1, d2] }
  | _ => none }
def pdrSmallRow : OpenClaim := { program := "ytmmpnmekiplhfaagreat", sum := "2ef5214a8f5f3890c6052509f2fe8c686904e252234d733023a3b6dedca663b7", func := "inquest/inquestlaw31.PdrSmall", spec := "pdrSmall", unfollowed := true, recurses := true, apart := false }
def PdrSmallSaid : Prop := pdrSmallRow.holds Tryz.pinned (OpenSpec.ofChange pdrSmallSpec)

/-- ITS FALSE NEIGHBOUR: 'it returns false'. Refute it at one input. -/
def pdrSmallWrong : ChangeSpec := { name := "pdrSmall", fn := fun _ => fun
  | [d1, d2] => { results := [.lit (.bool false)], args := [d1, d2] }
  | _ => none }
def PdrSmallWrongFalsely : Prop := pdrSmallRow.holds Tryz.pinned (OpenSpec.ofChange pdrSmallWrong)

/-- 'inquestlaw31.PdrBudget': WHATEVER THE INPUT: true; the input reads as it did. -/
def pdrBudgetSpec : ChangeSpec := { name := "pdrBudget", fn := fun _ => fun
  | [d1, d2, d3] => { results := [.lit (.bool true)], args := [d1, d2, d3] }
  | _ => none }
def pdrBudgetRow : OpenClaim := { program := "ytmmpnmekiplhfaagreat", sum := "2ef5214a8f5f3890c6052509f2fe8c686904e252234d733023a3b6dedca663b7", func := "inquest/inquestlaw31.PdrBudget", spec := "pdrBudget", unfollowed := true, recurses := true, apart := false }
def PdrBudgetSaid : Prop := pdrBudgetRow.holds Tryz.pinned (OpenSpec.ofChange pdrBudgetSpec)

/-- ITS FALSE NEIGHBOUR: 'it returns false'. Refute it at one input. -/
def pdrBudgetWrong : ChangeSpec := { name := "pdrBudget", fn := fun _ => fun
  | [d1, d2, d3] => { results := [.lit (.bool false)], args := [d1, d2, d3] }
  | _ => none }
def PdrBudgetWrongFalsely : Prop := pdrBudgetRow.holds Tryz.pinned (OpenSpec.ofChange pdrBudgetWrong)

/-- 'inquestlaw31.PdrSafe': WHATEVER THE INPUT: true; the input reads as it did. -/
def pdrSafeSpec : ChangeSpec := { name := "pdrSafe", fn := fun _ => fun
  | [d1, d2] => { results := [.lit (.bool true)], args := [d1, d2] }
  | _ => none }
def pdrSafeRow : OpenClaim := { program := "ytmmpnmekiplhfaagreat", sum := "2ef5214a8f5f3890c6052509f2fe8c686904e252234d733023a3b6dedca663b7", func := "inquest/inquestlaw31.PdrSafe", spec := "pdrSafe", unfollowed := true, recurses := true, apart := false }
def PdrSafeSaid : Prop := pdrSafeRow.holds Tryz.pinned (OpenSpec.ofChange pdrSafeSpec)

/-- ITS FALSE NEIGHBOUR: 'it returns false'. Refute it at one input. -/
def pdrSafeWrong : ChangeSpec := { name := "pdrSafe", fn := fun _ => fun
  | [d1, d2] => { results := [.lit (.bool false)], args := [d1, d2] }
  | _ => none }
def PdrSafeWrongFalsely : Prop := pdrSafeRow.holds Tryz.pinned (OpenSpec.ofChange pdrSafeWrong)

/-- 'inquestlaw31.PdrFinds': WHATEVER THE INPUT: true; the input reads as it did. -/
def pdrFindsSpec : ChangeSpec := { name := "pdrFinds", fn := fun _ => fun
  | [d1, d2, d3] => { results := [.lit (.bool true)], args := [d1, d2, d3] }
  | _ => none }
def pdrFindsRow : OpenClaim := { program := "ytmmpnmekiplhfaagreat", sum := "2ef5214a8f5f3890c6052509f2fe8c686904e252234d733023a3b6dedca663b7", func := "inquest/inquestlaw31.PdrFinds", spec := "pdrFinds", unfollowed := true, recurses := true, apart := false }
def PdrFindsSaid : Prop := pdrFindsRow.holds Tryz.pinned (OpenSpec.ofChange pdrFindsSpec)

/-- ITS FALSE NEIGHBOUR: 'it returns false'. Refute it at one input. -/
def pdrFindsWrong : ChangeSpec := { name := "pdrFinds", fn := fun _ => fun
  | [d1, d2, d3] => { results := [.lit (.bool false)], args := [d1, d2, d3] }
  | _ => none }
def PdrFindsWrongFalsely : Prop := pdrFindsRow.holds Tryz.pinned (OpenSpec.ofChange pdrFindsWrong)

/-- 'inquestlaw31.PdrLess': WHATEVER THE INPUT: true; the input reads as it did. -/
def pdrLessSpec : ChangeSpec := { name := "pdrLess", fn := fun _ => fun
  | [d1, d2, d3, d4] => { results := [.lit (.bool true)], args := [d1, d2, d3, d4] }
  | _ => none }
def pdrLessRow : OpenClaim := { program := "ytmmpnmekiplhfaagreat", sum := "2ef5214a8f5f3890c6052509f2fe8c686904e252234d733023a3b6dedca663b7", func := "inquest/inquestlaw31.PdrLess", spec := "pdrLess", unfollowed := true, recurses := true, apart := false }
def PdrLessSaid : Prop := pdrLessRow.holds Tryz.pinned (OpenSpec.ofChange pdrLessSpec)

/-- ITS FALSE NEIGHBOUR: 'it returns false'. Refute it at one input. -/
def pdrLessWrong : ChangeSpec := { name := "pdrLess", fn := fun _ => fun
  | [d1, d2, d3, d4] => { results := [.lit (.bool false)], args := [d1, d2, d3, d4] }
  | _ => none }
def PdrLessWrongFalsely : Prop := pdrLessRow.holds Tryz.pinned (OpenSpec.ofChange pdrLessWrong)

/-- 'inquestlaw31.PdrArgs': WHATEVER THE INPUT: true; the input reads as it did. -/
def pdrArgsSpec : ChangeSpec := { name := "pdrArgs", fn := fun _ => fun
  | [d1, d2, d3, d4] => { results := [.lit (.bool true)], args := [d1, d2, d3, d4] }
  | _ => none }
def pdrArgsRow : OpenClaim := { program := "ytmmpnmekiplhfaagreat", sum := "2ef5214a8f5f3890c6052509f2fe8c686904e252234d733023a3b6dedca663b7", func := "inquest/inquestlaw31.PdrArgs", spec := "pdrArgs", unfollowed := true, recurses := true, apart := false }
def PdrArgsSaid : Prop := pdrArgsRow.holds Tryz.pinned (OpenSpec.ofChange pdrArgsSpec)

/-- ITS FALSE NEIGHBOUR: 'it returns false'. Refute it at one input. -/
def pdrArgsWrong : ChangeSpec := { name := "pdrArgs", fn := fun _ => fun
  | [d1, d2, d3, d4] => { results := [.lit (.bool false)], args := [d1, d2, d3, d4] }
  | _ => none }
def PdrArgsWrongFalsely : Prop := pdrArgsRow.holds Tryz.pinned (OpenSpec.ofChange pdrArgsWrong)

/- THE SECOND FORM. 'bulk': how many values and letters a reading holds, each counted each time it is reached (what is shared counts as often as it is met; a slice's spare places count too). A statement '..UptoSaid' is the law's where the arguments, and the package variables that the reading takes, are together of bulk at most 1048576: NARROWER than '..Said'. Prove '..Said' where nothing that the law and all that it calls make is longer than what came in: it says more and counts as full. Else prove '..UptoSaid'. A law counts once. -/
mutual
def uptoBulk {H : Type} : DataW H → Nat
  | .lit (.string bytes) => bytes.length + 1
  | .lit _ => 1
  | .nil => 1
  | .ptr d => uptoBulk d + 1
  | .slice elems spare => uptoBulkAll elems + uptoBulkAll spare + 1
  | .agg parts => uptoBulkAll parts + 1
  | .iface _ d => uptoBulk d + 1
  | .map entries => uptoBulkEntries entries + 1
  | .held _ => 1
def uptoBulkAll {H : Type} : List (DataW H) → Nat
  | [] => 0
  | d :: r => uptoBulk d + uptoBulkAll r
def uptoBulkEntries {H : Type} : List (Lit × DataW H) → Nat
  | [] => 0
  | x :: r => uptoBulkEntry x + uptoBulkEntries r
def uptoBulkEntry {H : Type} : Lit × DataW H → Nat
  | (.string bytes, d) => bytes.length + uptoBulk d + 1
  | (_, d) => uptoBulk d + 1
 end
def uptoSmall : (H : Type) → List (DataW H) → Bool := fun _ ds => decide (uptoBulkAll ds ≤ 1048576)
def OpenSpec.upto (s : _root_.Go.ChangeSpec) : _root_.Go.OpenSpec := { _root_.Go.OpenSpec.ofChange s with cond := some uptoSmall }

/-- 'inquestlaw13.SatSays', WHERE WHAT IT READS IS OF BULK AT MOST 1048576: true; the input reads as it did. -/
def satSaysUptoRow : OpenClaim := { program := "ytmmpnmekiplhfaagreat", sum := "2ef5214a8f5f3890c6052509f2fe8c686904e252234d733023a3b6dedca663b7", func := "inquest/inquestlaw13.SatSays", spec := "satSays", unfollowed := true, recurses := true, apart := false, narrowed := true }
def SatSaysUptoSaid : Prop := satSaysUptoRow.holds Tryz.pinned (OpenSpec.upto satSaysSpec)

/-- 'inquestlaw13.SatBars', WHERE WHAT IT READS IS OF BULK AT MOST 1048576: true; the input reads as it did. -/
def satBarsUptoRow : OpenClaim := { program := "ytmmpnmekiplhfaagreat", sum := "2ef5214a8f5f3890c6052509f2fe8c686904e252234d733023a3b6dedca663b7", func := "inquest/inquestlaw13.SatBars", spec := "satBars", unfollowed := true, recurses := true, apart := false, narrowed := true }
def SatBarsUptoSaid : Prop := satBarsUptoRow.holds Tryz.pinned (OpenSpec.upto satBarsSpec)

/-- 'inquestlaw13.SatPlays', WHERE WHAT IT READS IS OF BULK AT MOST 1048576: true; the input reads as it did. -/
def satPlaysUptoRow : OpenClaim := { program := "ytmmpnmekiplhfaagreat", sum := "2ef5214a8f5f3890c6052509f2fe8c686904e252234d733023a3b6dedca663b7", func := "inquest/inquestlaw13.SatPlays", spec := "satPlays", unfollowed := true, recurses := true, apart := false, narrowed := true }
def SatPlaysUptoSaid : Prop := satPlaysUptoRow.holds Tryz.pinned (OpenSpec.upto satPlaysSpec)

/-- 'inquestlaw13.SatNil', WHERE WHAT IT READS IS OF BULK AT MOST 1048576: true; the input reads as it did. -/
def satNilUptoRow : OpenClaim := { program := "ytmmpnmekiplhfaagreat", sum := "2ef5214a8f5f3890c6052509f2fe8c686904e252234d733023a3b6dedca663b7", func := "inquest/inquestlaw13.SatNil", spec := "satNil", unfollowed := true, recurses := true, apart := false, narrowed := true }
def SatNilUptoSaid : Prop := satNilUptoRow.holds Tryz.pinned (OpenSpec.upto satNilSpec)

/-- 'inquestlaw30.CertNo', WHERE WHAT IT READS IS OF BULK AT MOST 1048576: true; the input reads as it did. -/
def certNoUptoRow : OpenClaim := { program := "ytmmpnmekiplhfaagreat", sum := "2ef5214a8f5f3890c6052509f2fe8c686904e252234d733023a3b6dedca663b7", func := "inquest/inquestlaw30.CertNo", spec := "certNo", unfollowed := true, recurses := true, apart := false, narrowed := true }
def CertNoUptoSaid : Prop := certNoUptoRow.holds Tryz.pinned (OpenSpec.upto certNoSpec)

/-- 'inquestlaw30.CertAll', WHERE WHAT IT READS IS OF BULK AT MOST 1048576: true; the input reads as it did. -/
def certAllUptoRow : OpenClaim := { program := "ytmmpnmekiplhfaagreat", sum := "2ef5214a8f5f3890c6052509f2fe8c686904e252234d733023a3b6dedca663b7", func := "inquest/inquestlaw30.CertAll", spec := "certAll", unfollowed := true, recurses := true, apart := false, narrowed := true }
def CertAllUptoSaid : Prop := certAllUptoRow.holds Tryz.pinned (OpenSpec.upto certAllSpec)

/-- 'inquestlaw30.CertSafe', WHERE WHAT IT READS IS OF BULK AT MOST 1048576: true; the input reads as it did. -/
def certSafeUptoRow : OpenClaim := { program := "ytmmpnmekiplhfaagreat", sum := "2ef5214a8f5f3890c6052509f2fe8c686904e252234d733023a3b6dedca663b7", func := "inquest/inquestlaw30.CertSafe", spec := "certSafe", unfollowed := true, recurses := true, apart := false, narrowed := true }
def CertSafeUptoSaid : Prop := certSafeUptoRow.holds Tryz.pinned (OpenSpec.upto certSafeSpec)

/-- 'inquestlaw30.CertArgs', WHERE WHAT IT READS IS OF BULK AT MOST 1048576: true; the input reads as it did. -/
def certArgsUptoRow : OpenClaim := { program := "ytmmpnmekiplhfaagreat", sum := "2ef5214a8f5f3890c6052509f2fe8c686904e252234d733023a3b6dedca663b7", func := "inquest/inquestlaw30.CertArgs", spec := "certArgs", unfollowed := true, recurses := true, apart := false, narrowed := true }
def CertArgsUptoSaid : Prop := certArgsUptoRow.holds Tryz.pinned (OpenSpec.upto certArgsSpec)

/-- 'inquestlaw31.PdrSmall', WHERE WHAT IT READS IS OF BULK AT MOST 1048576: true; the input reads as it did. -/
def pdrSmallUptoRow : OpenClaim := { program := "ytmmpnmekiplhfaagreat", sum := "2ef5214a8f5f3890c6052509f2fe8c686904e252234d733023a3b6dedca663b7", func := "inquest/inquestlaw31.PdrSmall", spec := "pdrSmall", unfollowed := true, recurses := true, apart := false, narrowed := true }
def PdrSmallUptoSaid : Prop := pdrSmallUptoRow.holds Tryz.pinned (OpenSpec.upto pdrSmallSpec)

/-- 'inquestlaw31.PdrBudget', WHERE WHAT IT READS IS OF BULK AT MOST 1048576: true; the input reads as it did. -/
def pdrBudgetUptoRow : OpenClaim := { program := "ytmmpnmekiplhfaagreat", sum := "2ef5214a8f5f3890c6052509f2fe8c686904e252234d733023a3b6dedca663b7", func := "inquest/inquestlaw31.PdrBudget", spec := "pdrBudget", unfollowed := true, recurses := true, apart := false, narrowed := true }
def PdrBudgetUptoSaid : Prop := pdrBudgetUptoRow.holds Tryz.pinned (OpenSpec.upto pdrBudgetSpec)

/-- 'inquestlaw31.PdrSafe', WHERE WHAT IT READS IS OF BULK AT MOST 1048576: true; the input reads as it did. -/
def pdrSafeUptoRow : OpenClaim := { program := "ytmmpnmekiplhfaagreat", sum := "2ef5214a8f5f3890c6052509f2fe8c686904e252234d733023a3b6dedca663b7", func := "inquest/inquestlaw31.PdrSafe", spec := "pdrSafe", unfollowed := true, recurses := true, apart := false, narrowed := true }
def PdrSafeUptoSaid : Prop := pdrSafeUptoRow.holds Tryz.pinned (OpenSpec.upto pdrSafeSpec)

/-- 'inquestlaw31.PdrFinds', WHERE WHAT IT READS IS OF BULK AT MOST 1048576: true; the input reads as it did. -/
def pdrFindsUptoRow : OpenClaim := { program := "ytmmpnmekiplhfaagreat", sum := "2ef5214a8f5f3890c6052509f2fe8c686904e252234d733023a3b6dedca663b7", func := "inquest/inquestlaw31.PdrFinds", spec := "pdrFinds", unfollowed := true, recurses := true, apart := false, narrowed := true }
def PdrFindsUptoSaid : Prop := pdrFindsUptoRow.holds Tryz.pinned (OpenSpec.upto pdrFindsSpec)

/-- 'inquestlaw31.PdrLess', WHERE WHAT IT READS IS OF BULK AT MOST 1048576: true; the input reads as it did. -/
def pdrLessUptoRow : OpenClaim := { program := "ytmmpnmekiplhfaagreat", sum := "2ef5214a8f5f3890c6052509f2fe8c686904e252234d733023a3b6dedca663b7", func := "inquest/inquestlaw31.PdrLess", spec := "pdrLess", unfollowed := true, recurses := true, apart := false, narrowed := true }
def PdrLessUptoSaid : Prop := pdrLessUptoRow.holds Tryz.pinned (OpenSpec.upto pdrLessSpec)

/-- 'inquestlaw31.PdrArgs', WHERE WHAT IT READS IS OF BULK AT MOST 1048576: true; the input reads as it did. -/
def pdrArgsUptoRow : OpenClaim := { program := "ytmmpnmekiplhfaagreat", sum := "2ef5214a8f5f3890c6052509f2fe8c686904e252234d733023a3b6dedca663b7", func := "inquest/inquestlaw31.PdrArgs", spec := "pdrArgs", unfollowed := true, recurses := true, apart := false, narrowed := true }
def PdrArgsUptoSaid : Prop := pdrArgsUptoRow.holds Tryz.pinned (OpenSpec.upto pdrArgsSpec)

end Rows
end Go.Proofs.YtmmpnmekiplhfaaGreat
