/- The run of SafeComes, gone through in the kernel: it returns true, and nothing that was there has turned. -/
import Derived.Test.YtofkapncgmjcfaaGreatRows
import Derived.Test.YtofkapncgmjcfaaGreatGzDec
namespace Go.Proofs.YtofkapncgmjcfaaGreat.safeComes
open Go Go.Gz Go.ChangeShapes Go.WideShapes Go.ChangeAt Go.RowKit

theorem small : Small Tryz.prog := small_of (by kernel_rfl)
theorem works : allYes (routes Tryz.prog noSm (facts noMore) 1000000 1000 21 [] []) = true := by kernel_rfl
theorem ents (m : Mu) : ∀ x ∈ ([⟨21, yesRes⟩] : List Ent), EntOk Tryz.prog m x := fun x hx => by
  rw [List.mem_singleton.1 hx]; exact yesEnt_ok small m (by kernel_rfl) works
theorem hall : (match absArgs Tryz.prog 0 [3, 3] with
    | some l => allYes (routes Tryz.prog (smOf [⟨21, yesRes⟩]) (dec1 noMore) 1000000 1000 5 l [])
    | none => false) = true := by kernel_rfl
theorem walk {vs : List Value} {av : List (List Value)} (ho : Opened Tryz.prog [3, 3] vs av) (w : World) : Calls Tryz.prog 5 vs.toArray w fun o w' => o = .returned (.bool true) ∧ Below w.heap.size w w' := by
  have h := hall
  split at h
  · rename_i l hl
    exact auto_walkD small ents hl (by decide) h ho w
  · cases h
end Go.Proofs.YtofkapncgmjcfaaGreat.safeComes
