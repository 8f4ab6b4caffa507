/-
  Facts on what the law SatNil calls.
-/
import Derived.Test.YtmmpnmekiplhfaaGreatFrame
import Derived.JoinedOf
namespace Go.Proofs.YtmmpnmekiplhfaaGreat.satNil
open Go Go.RowKit Go.WideShapes Go.ChangeShapes

theorem u1 : Tryz.prog.inPlace 6 = Rows.satNilRow.inPlace := by kernel_rfl
theorem u2 : Tryz.prog.unfollowed 6 = Rows.satNilRow.unfollowed := by kernel_rfl
theorem u3 : Tryz.prog.recurses 6 = Rows.satNilRow.recurses := by kernel_rfl
theorem u4 : Tryz.prog.varsNamed 6 = Rows.satNilRow.named := by kernel_rfl
theorem closed : joinedFacts Tryz.prog 6 Tryz.f6 Rows.satNilSpec Rows.satNilRow = true := by
  unfold joinedFacts
  rw [laidOut, rowed, u1, u2, u3, u4, heard, enter, plainK, lifts]
  kernel_rfl
end Go.Proofs.YtmmpnmekiplhfaaGreat.satNil
