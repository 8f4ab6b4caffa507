/-
  Facts on what the law CertArgs calls.
-/
import Derived.Test.YtmmpnmekiplhfaaGreatFrame
import Derived.JoinedOf
namespace Go.Proofs.YtmmpnmekiplhfaaGreat.certArgs
open Go Go.RowKit Go.WideShapes Go.ChangeShapes

theorem u1 : Tryz.prog.inPlace 10 = Rows.certArgsRow.inPlace := by kernel_rfl
theorem u2 : Tryz.prog.unfollowed 10 = Rows.certArgsRow.unfollowed := by kernel_rfl
theorem u3 : Tryz.prog.recurses 10 = Rows.certArgsRow.recurses := by kernel_rfl
theorem u4 : Tryz.prog.varsNamed 10 = Rows.certArgsRow.named := by kernel_rfl
theorem plainR : Rows.satNilRow.plainKeys = Rows.certArgsRow.plainKeys := rfl
theorem liftR : Rows.satNilRow.lifted = Rows.certArgsRow.lifted := rfl
theorem closed : joinedFacts Tryz.prog 10 Tryz.f10 Rows.certArgsSpec Rows.certArgsRow = true := by
  unfold joinedFacts
  rw [laidOut, rowed, u1, u2, u3, u4, heard, enter, plainK, lifts, plainR, liftR]
  kernel_rfl
end Go.Proofs.YtmmpnmekiplhfaaGreat.certArgs
