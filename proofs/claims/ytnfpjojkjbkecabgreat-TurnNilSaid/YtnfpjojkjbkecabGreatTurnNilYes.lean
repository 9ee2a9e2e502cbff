/- The run of TurnNil, gone through in the kernel: it returns true, and nothing that was there has turned. -/
import Derived.Test.YtnfpjojkjbkecabGreatRows
import Derived.Test.YtnfpjojkjbkecabGreatGyRow
namespace Go.Proofs.YtnfpjojkjbkecabGreat.turnNil
open Go.Gy Go.ChangeShapes Go.WideShapes Go.ChangeAt Go.RowKit

theorem small : Small Tryz.prog := small_of (by kernel_rfl)
theorem yes (a0 : Int) : isYes (call Tryz.prog 1000000 3 [.int .u64 a0]) = true := by kernel_rfl
theorem walk (a0 : Int) (_ : (Lit.int .u64 a0).wf = true) (w : World) :
    Calls Tryz.prog 3 #[.int .u64 a0] w fun e w' => e = .returned (.bool true) ∧ Below w.heap.size w w' :=
  yes_calls small (yes a0) (by intro u hu; simp only [List.mem_cons, List.not_mem_nil, or_false] at hu; rcases hu with rfl <;> rfl) w
end Go.Proofs.YtnfpjojkjbkecabGreat.turnNil
