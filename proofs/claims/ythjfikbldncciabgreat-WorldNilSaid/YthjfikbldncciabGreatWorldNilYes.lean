/- The run of WorldNil, gone through in the kernel: it returns true, and nothing that was there has turned. -/
import Derived.Test.YthjfikbldncciabGreatRows
import Derived.Test.YthjfikbldncciabGreatGzArg
namespace Go.Proofs.YthjfikbldncciabGreat.worldNil
open Go Go.Gz Go.ChangeShapes Go.WideShapes Go.ChangeAt Go.RowKit

theorem small : Small Tryz.prog := small_of (by kernel_rfl)
theorem hall : (match absArgs Tryz.prog 0 [3, 24] with
    | some l => allYes (routes Tryz.prog noSm (facts noMore) 1000000 1000 3 l [])
    | none => false) = true := by kernel_rfl
theorem walk {vs : List Value} {av : List (List Value)} (ho : Opened Tryz.prog [3, 24] vs av) (w : World) : Calls Tryz.prog 3 vs.toArray w fun o w' => o = .returned (.bool true) ∧ Below w.heap.size w w' := by
  have h := hall
  split at h
  · rename_i l hl
    exact auto_walk small hl (by decide) h ho w
  · cases h
end Go.Proofs.YthjfikbldncciabGreat.worldNil
