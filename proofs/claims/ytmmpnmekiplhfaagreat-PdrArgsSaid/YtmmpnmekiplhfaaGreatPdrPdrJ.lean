/-
  Facts on what the law PdrArgs calls.
-/
import Derived.Test.YtmmpnmekiplhfaaGreatFrame
import Derived.JoinedOf
namespace Go.Proofs.YtmmpnmekiplhfaaGreat.pdrArgs
open Go Go.RowKit Go.WideShapes Go.ChangeShapes

theorem u1 : Tryz.prog.inPlace 16 = Rows.pdrArgsRow.inPlace := by kernel_rfl
theorem u2 : Tryz.prog.unfollowed 16 = Rows.pdrArgsRow.unfollowed := by kernel_rfl
theorem u3 : Tryz.prog.recurses 16 = Rows.pdrArgsRow.recurses := by kernel_rfl
theorem u4 : Tryz.prog.varsNamed 16 = Rows.pdrArgsRow.named := by kernel_rfl
theorem plainR : Rows.satNilRow.plainKeys = Rows.pdrArgsRow.plainKeys := rfl
theorem liftR : Rows.satNilRow.lifted = Rows.pdrArgsRow.lifted := rfl
theorem closed : joinedFacts Tryz.prog 16 Tryz.f16 Rows.pdrArgsSpec Rows.pdrArgsRow = true := by
  unfold joinedFacts
  rw [laidOut, rowed, u1, u2, u3, u4, heard, enter, plainK, lifts, plainR, liftR]
  kernel_rfl
end Go.Proofs.YtmmpnmekiplhfaaGreat.pdrArgs
