/-
  Facts on the program that all frames need.
-/
import Derived.Test.YtmmpnmekiplhfaaGreatRows
import Derived.KernelRfl
import Derived.RowKit
import Derived.SizedLaws
namespace Go.Proofs.YtmmpnmekiplhfaaGreat
open Go Go.RowKit

theorem own : ownKnob Tryz.prog.godebug = none := by kernel_rfl
theorem laidOut : laidOutB Tryz.prog = true := by kernel_rfl
theorem heard : Tryz.prog.stopsHeard = true := by kernel_rfl
theorem enter : Tryz.prog.mayEnter = true := by kernel_rfl
theorem plainK : Tryz.prog.plainKeys = Rows.satNilRow.plainKeys := by kernel_rfl
theorem lifts : Tryz.prog.liftsFinal = Rows.satNilRow.lifted := by kernel_rfl
theorem rowed : mapsRowed Tryz.prog = true := by kernel_rfl

end Go.Proofs.YtmmpnmekiplhfaaGreat
