/- TurnNil: closed facts of the row, part b. -/
import Derived.Test.YtnfpjojkjbkecabGreatRows
import Derived.WalkKit
import Derived.ProofKit
namespace Go.Proofs.YtnfpjojkjbkecabGreat.turnNil
open Go.ChangeShapes Go.WideShapes Go.ChangeAt Go.RowKit
theorem k2 : (mapsRowed Tryz.prog) = true := by kernel_rfl
theorem k9 : (Rows.turnNilRow.inPlace == Tryz.prog.inPlace 3) = true := by kernel_rfl
theorem k10 : (Rows.turnNilRow.unfollowed == Tryz.prog.unfollowed 3) = true := by kernel_rfl
theorem k11 : (Rows.turnNilRow.recurses == Tryz.prog.recurses 3) = true := by kernel_rfl
end Go.Proofs.YtnfpjojkjbkecabGreat.turnNil
