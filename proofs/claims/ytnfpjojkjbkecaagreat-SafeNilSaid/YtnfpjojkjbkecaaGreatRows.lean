/-
  No cell of these rows narrows 'for every input' (looked for: loops, veiled, ifaces, maps, wideKeys, modest, calm, conditions, laid).
  DERIVED. THE GIVEN ROWS OF THIS SEAT. 4 by the template 'for every input the law returns true; each argument reads behind the call as it read before'; 0 by the template 'total and deterministic' (their statements: YtnfpjojkjbkecaaGreatTotals.lean).
  GIVEN WITH THE SEED: the statements are not yours to turn. If you find one false, say at which input.
  Laid BY PROGRAM, IN A SANDBOX (cutbox-rows.mjs): the forced cells as the released guide's own fill.sh prints them over the translation a32729b2edd221b0… (all of the seat's roots in one cut). By AI agents, Wed Nov 11 2026. No macro, syntax, notation, axiom, sorry.
-/
import Derived.Test.YtnfpjojkjbkecaaGreatChecked
import GoSem.Claim
import GoSem.ClaimJoined
import GoSem.ClaimMapViews
import Derived.JoinedTies
import Derived.KernelRfl
namespace Go.Proofs.YtnfpjojkjbkecaaGreat
/- THE CELL 'sum', in the pinned program and in every row, IS THE sha256 OF THE DUMP (.gsa) THAT YtnfpjojkjbkecaaGreatProg.lean LOADS. Nothing in Lean hashes anything: it is a label: what it is worth is what the hold of that sum in a sandbox is worth. -/
noncomputable def Tryz.pinned : Pinned := { name := "ytnfpjojkjbkecaagreat", sum := "a32729b2edd221b0906d4af67ffd94c73fe4c39343c1d181c656ee9dd9792738", checked := Tryz.checked }
namespace Rows
def none {H : Type} : Left H := { results := [], args := [] }

/-- 'lapidarylaw20.PlainNil': WHATEVER THE INPUT: true; the input reads as it did. -/
def plainNilSpec : ChangeSpec := { name := "plainNil", fn := fun _ => fun
  | [d] => { results := [.lit (.bool true)], args := [d] }
  | _ => none }
def plainNilRow : OpenClaim := { program := "ytnfpjojkjbkecaagreat", sum := "a32729b2edd221b0906d4af67ffd94c73fe4c39343c1d181c656ee9dd9792738", func := "lapidary/lapidarylaw20.PlainNil", spec := "plainNil", unfollowed := true, recurses := true, apart := false }
def PlainNilSaid : Prop := plainNilRow.holds Tryz.pinned (OpenSpec.ofChange plainNilSpec)

/-- ITS FALSE NEIGHBOUR: 'it returns false'. Refute it at one input. -/
def plainNilWrong : ChangeSpec := { name := "plainNil", fn := fun _ => fun
  | [d] => { results := [.lit (.bool false)], args := [d] }
  | _ => none }
def PlainNilWrongFalsely : Prop := plainNilRow.holds Tryz.pinned (OpenSpec.ofChange plainNilWrong)

/-- 'lapidarylaw21.GuardNil': WHATEVER THE INPUT: true; the input reads as it did. -/
def guardNilSpec : ChangeSpec := { name := "guardNil", fn := fun _ => fun
  | [d] => { results := [.lit (.bool true)], args := [d] }
  | _ => none }
def guardNilRow : OpenClaim := { program := "ytnfpjojkjbkecaagreat", sum := "a32729b2edd221b0906d4af67ffd94c73fe4c39343c1d181c656ee9dd9792738", func := "lapidary/lapidarylaw21.GuardNil", spec := "guardNil", unfollowed := true, recurses := true, apart := false }
def GuardNilSaid : Prop := guardNilRow.holds Tryz.pinned (OpenSpec.ofChange guardNilSpec)

/-- ITS FALSE NEIGHBOUR: 'it returns false'. Refute it at one input. -/
def guardNilWrong : ChangeSpec := { name := "guardNil", fn := fun _ => fun
  | [d] => { results := [.lit (.bool false)], args := [d] }
  | _ => none }
def GuardNilWrongFalsely : Prop := guardNilRow.holds Tryz.pinned (OpenSpec.ofChange guardNilWrong)

/-- 'lapidarylaw24.SafeNil': WHATEVER THE INPUT: true; the input reads as it did. -/
def safeNilSpec : ChangeSpec := { name := "safeNil", fn := fun _ => fun
  | [d] => { results := [.lit (.bool true)], args := [d] }
  | _ => none }
def safeNilRow : OpenClaim := { program := "ytnfpjojkjbkecaagreat", sum := "a32729b2edd221b0906d4af67ffd94c73fe4c39343c1d181c656ee9dd9792738", func := "lapidary/lapidarylaw24.SafeNil", spec := "safeNil", unfollowed := true, recurses := true, apart := false }
def SafeNilSaid : Prop := safeNilRow.holds Tryz.pinned (OpenSpec.ofChange safeNilSpec)

/-- ITS FALSE NEIGHBOUR: 'it returns false'. Refute it at one input. -/
def safeNilWrong : ChangeSpec := { name := "safeNil", fn := fun _ => fun
  | [d] => { results := [.lit (.bool false)], args := [d] }
  | _ => none }
def SafeNilWrongFalsely : Prop := safeNilRow.holds Tryz.pinned (OpenSpec.ofChange safeNilWrong)

/-- 'lapidarylaw24.SafeComes': WHATEVER THE INPUT: true; the input reads as it did. -/
def safeComesSpec : ChangeSpec := { name := "safeComes", fn := fun _ => fun
  | [d1, d2] => { results := [.lit (.bool true)], args := [d1, d2] }
  | _ => none }
def safeComesRow : OpenClaim := { program := "ytnfpjojkjbkecaagreat", sum := "a32729b2edd221b0906d4af67ffd94c73fe4c39343c1d181c656ee9dd9792738", func := "lapidary/lapidarylaw24.SafeComes", spec := "safeComes", unfollowed := true, recurses := true, apart := false }
def SafeComesSaid : Prop := safeComesRow.holds Tryz.pinned (OpenSpec.ofChange safeComesSpec)

/-- ITS FALSE NEIGHBOUR: 'it returns false'. Refute it at one input. -/
def safeComesWrong : ChangeSpec := { name := "safeComes", fn := fun _ => fun
  | [d1, d2] => { results := [.lit (.bool false)], args := [d1, d2] }
  | _ => none }
def SafeComesWrongFalsely : Prop := safeComesRow.holds Tryz.pinned (OpenSpec.ofChange safeComesWrong)

/- THE SECOND FORM. 'bulk': how many values and letters a reading holds, each counted each time it is reached (what is shared counts as often as it is met; a slice's spare places count too). A statement '..UptoSaid' is the law's where the arguments, and the package variables that the reading takes, are together of bulk at most 1048576: NARROWER than '..Said'. Prove '..Said' where nothing that the law and all that it calls make is longer than what came in: it says more and counts as full. Else prove '..UptoSaid'. A law counts once. -/
mutual
def uptoBulk {H : Type} : DataW H → Nat
  | .lit (.string bytes) => bytes.length + 1
  | .lit _ => 1
  | .nil => 1
  | .ptr d => uptoBulk d + 1
  | .slice elems spare => uptoBulkAll elems + uptoBulkAll spare + 1
  | .agg parts => uptoBulkAll parts + 1
  | .iface _ d => uptoBulk d + 1
  | .map entries => uptoBulkEntries entries + 1
  | .held _ => 1
def uptoBulkAll {H : Type} : List (DataW H) → Nat
  | [] => 0
  | d :: r => uptoBulk d + uptoBulkAll r
def uptoBulkEntries {H : Type} : List (Lit × DataW H) → Nat
  | [] => 0
  | x :: r => uptoBulkEntry x + uptoBulkEntries r
def uptoBulkEntry {H : Type} : Lit × DataW H → Nat
  | (.string bytes, d) => bytes.length + uptoBulk d + 1
  | (_, d) => uptoBulk d + 1
 end
def uptoSmall : (H : Type) → List (DataW H) → Bool := fun _ ds => decide (uptoBulkAll ds ≤ 1048576)
def OpenSpec.upto (s : _root_.Go.ChangeSpec) : _root_.Go.OpenSpec := { _root_.Go.OpenSpec.ofChange s with cond := some uptoSmall }

/-- 'lapidarylaw20.PlainNil', WHERE WHAT IT READS IS OF BULK AT MOST 1048576: true; the input reads as it did. -/
def plainNilUptoRow : OpenClaim := { program := "ytnfpjojkjbkecaagreat", sum := "a32729b2edd221b0906d4af67ffd94c73fe4c39343c1d181c656ee9dd9792738", func := "lapidary/lapidarylaw20.PlainNil", spec := "plainNil", unfollowed := true, recurses := true, apart := false, narrowed := true }
def PlainNilUptoSaid : Prop := plainNilUptoRow.holds Tryz.pinned (OpenSpec.upto plainNilSpec)

/-- 'lapidarylaw21.GuardNil', WHERE WHAT IT READS IS OF BULK AT MOST 1048576: true; the input reads as it did. -/
def guardNilUptoRow : OpenClaim := { program := "ytnfpjojkjbkecaagreat", sum := "a32729b2edd221b0906d4af67ffd94c73fe4c39343c1d181c656ee9dd9792738", func := "lapidary/lapidarylaw21.GuardNil", spec := "guardNil", unfollowed := true, recurses := true, apart := false, narrowed := true }
def GuardNilUptoSaid : Prop := guardNilUptoRow.holds Tryz.pinned (OpenSpec.upto guardNilSpec)

/-- 'lapidarylaw24.SafeNil', WHERE WHAT IT READS IS OF BULK AT MOST 1048576: true; the input reads as it did. -/
def safeNilUptoRow : OpenClaim := { program := "ytnfpjojkjbkecaagreat", sum := "a32729b2edd221b0906d4af67ffd94c73fe4c39343c1d181c656ee9dd9792738", func := "lapidary/lapidarylaw24.SafeNil", spec := "safeNil", unfollowed := true, recurses := true, apart := false, narrowed := true }
def SafeNilUptoSaid : Prop := safeNilUptoRow.holds Tryz.pinned (OpenSpec.upto safeNilSpec)

/-- 'lapidarylaw24.SafeComes', WHERE WHAT IT READS IS OF BULK AT MOST 1048576: true; the input reads as it did. -/
def safeComesUptoRow : OpenClaim := { program := "ytnfpjojkjbkecaagreat", sum := "a32729b2edd221b0906d4af67ffd94c73fe4c39343c1d181c656ee9dd9792738", func := "lapidary/lapidarylaw24.SafeComes", spec := "safeComes", unfollowed := true, recurses := true, apart := false, narrowed := true }
def SafeComesUptoSaid : Prop := safeComesUptoRow.holds Tryz.pinned (OpenSpec.upto safeComesSpec)

end Rows
end Go.Proofs.YtnfpjojkjbkecaaGreat
