/- WorldNil: closed facts of the row, part b. -/
import Derived.Test.YthjfikbldncciabGreatRows
import Derived.WalkKit
import Derived.ProofKit
namespace Go.Proofs.YthjfikbldncciabGreat.worldNil
open Go.ChangeShapes Go.WideShapes Go.ChangeAt Go.RowKit
theorem k2 : (mapsRowed Tryz.prog) = true := by kernel_rfl
theorem k9 : (Rows.worldNilRow.inPlace == Tryz.prog.inPlace 3) = true := by kernel_rfl
theorem k10 : (Rows.worldNilRow.unfollowed == Tryz.prog.unfollowed 3) = true := by kernel_rfl
theorem k11 : (Rows.worldNilRow.recurses == Tryz.prog.recurses 3) = true := by kernel_rfl
end Go.Proofs.YthjfikbldncciabGreat.worldNil
