/- SafeComes: closed facts of the row, part a. -/
import Derived.Test.YtofkapncgmjcfaaGreatRows
import Derived.WalkKit
import Derived.ProofKit
namespace Go.Proofs.YtofkapncgmjcfaaGreat.safeComes
open Go.ChangeShapes Go.WideShapes Go.ChangeAt Go.RowKit
theorem k1 : (laidOutB Tryz.prog) = true := by kernel_rfl
end Go.Proofs.YtofkapncgmjcfaaGreat.safeComes
