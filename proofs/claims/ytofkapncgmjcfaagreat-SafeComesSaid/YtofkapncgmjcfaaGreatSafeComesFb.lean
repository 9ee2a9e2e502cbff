/- SafeComes: closed facts of the row, part b. -/
import Derived.Test.YtofkapncgmjcfaaGreatRows
import Derived.WalkKit
import Derived.ProofKit
namespace Go.Proofs.YtofkapncgmjcfaaGreat.safeComes
open Go.ChangeShapes Go.WideShapes Go.ChangeAt Go.RowKit
theorem k2 : (mapsRowed Tryz.prog) = true := by kernel_rfl
theorem k9 : (Rows.safeComesRow.inPlace == Tryz.prog.inPlace 5) = true := by kernel_rfl
theorem k10 : (Rows.safeComesRow.unfollowed == Tryz.prog.unfollowed 5) = true := by kernel_rfl
theorem k11 : (Rows.safeComesRow.recurses == Tryz.prog.recurses 5) = true := by kernel_rfl
end Go.Proofs.YtofkapncgmjcfaaGreat.safeComes
