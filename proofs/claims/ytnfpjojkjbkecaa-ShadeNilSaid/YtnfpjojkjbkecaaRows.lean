/-
  No cell of these rows narrows 'for every input' (looked for: loops, veiled, ifaces, maps, wideKeys, modest, calm, conditions, laid).
  DERIVED. THE GIVEN ROWS OF THIS SEAT. 2 by the template 'for every input the law returns true; each argument reads behind the call as it read before'; 0 by the template 'total and deterministic' (their statements: YtnfpjojkjbkecaaTotals.lean).
  GIVEN WITH THE SEED: the statements are not yours to turn. If you find one false, say at which input.
  Laid BY PROGRAM, IN A SANDBOX (cutbox-rows.mjs): the forced cells as the released guide's own fill.sh prints them over the translation c0456e4167422ba0… (all of the seat's roots in one cut). By AI agents, Wed Nov 11 2026. No macro, syntax, notation, axiom, sorry.
-/
import Derived.Test.YtnfpjojkjbkecaaChecked
import GoSem.Claim
import GoSem.ClaimJoined
import GoSem.ClaimMapViews
import Derived.JoinedTies
import Derived.KernelRfl
namespace Go.Proofs.Ytnfpjojkjbkecaa
/- THE CELL 'sum', in the pinned program and in every row, IS THE sha256 OF THE DUMP (.gsa) THAT YtnfpjojkjbkecaaProg.lean LOADS. Nothing in Lean hashes anything: it is a label: what it is worth is what the hold of that sum in a sandbox is worth. -/
noncomputable def Try.pinned : Pinned := { name := "ytnfpjojkjbkecaa", sum := "c0456e4167422ba0f1792f37c9d78d0107f6069eea330bbfc77d768b29b29fab", checked := Try.checked }
namespace Rows
def none {H : Type} : Left H := { results := [], args := [] }

/-- 'lapidarylaw17.ListNil': WHATEVER THE INPUT: true; the input reads as it did. -/
def listNilSpec : ChangeSpec := { name := "listNil", fn := fun _ => fun
  | [d1, d2] => { results := [.lit (.bool true)], args := [d1, d2] }
  | _ => none }
def listNilRow : OpenClaim := { program := "ytnfpjojkjbkecaa", sum := "c0456e4167422ba0f1792f37c9d78d0107f6069eea330bbfc77d768b29b29fab", func := "lapidary/lapidarylaw17.ListNil", spec := "listNil", unfollowed := true, recurses := true, apart := false }
def ListNilSaid : Prop := listNilRow.holds Try.pinned (OpenSpec.ofChange listNilSpec)

/-- ITS FALSE NEIGHBOUR: 'it returns false'. Refute it at one input. -/
def listNilWrong : ChangeSpec := { name := "listNil", fn := fun _ => fun
  | [d1, d2] => { results := [.lit (.bool false)], args := [d1, d2] }
  | _ => none }
def ListNilWrongFalsely : Prop := listNilRow.holds Try.pinned (OpenSpec.ofChange listNilWrong)

/-- 'lapidarylaw18.ShadeNil': WHATEVER THE INPUT: true; the input reads as it did. -/
def shadeNilSpec : ChangeSpec := { name := "shadeNil", fn := fun _ => fun
  | [d] => { results := [.lit (.bool true)], args := [d] }
  | _ => none }
def shadeNilRow : OpenClaim := { program := "ytnfpjojkjbkecaa", sum := "c0456e4167422ba0f1792f37c9d78d0107f6069eea330bbfc77d768b29b29fab", func := "lapidary/lapidarylaw18.ShadeNil", spec := "shadeNil", unfollowed := true, recurses := true, apart := false }
def ShadeNilSaid : Prop := shadeNilRow.holds Try.pinned (OpenSpec.ofChange shadeNilSpec)

/-- ITS FALSE NEIGHBOUR: 'it returns false'. Refute it at one input. -/
def shadeNilWrong : ChangeSpec := { name := "shadeNil", fn := fun _ => fun
  | [d] => { results := [.lit (.bool false)], args := [d] }
  | _ => none }
def ShadeNilWrongFalsely : Prop := shadeNilRow.holds Try.pinned (OpenSpec.ofChange shadeNilWrong)

/- THE SECOND FORM. 'bulk': how many values and letters a reading holds, each counted each time it is reached (what is shared counts as often as it is met; a slice's spare places count too). A statement '..UptoSaid' is the law's where the arguments, and the package variables that the reading takes, are together of bulk at most 1048576: NARROWER than '..Said'. Prove '..Said' where nothing that the law and all that it calls make is longer than what came in: it says more and counts as full. Else prove '..UptoSaid'. A law counts once. -/
mutual
def uptoBulk {H : Type} : DataW H → Nat
  | .lit (.string bytes) => bytes.length + 1
  | .lit _ => 1
  | .nil => 1
  | .ptr d => uptoBulk d + 1
  | .slice elems spare => uptoBulkAll elems + uptoBulkAll spare + 1
  | .agg parts => uptoBulkAll parts + 1
  | .iface _ d => uptoBulk d + 1
  | .map entries => uptoBulkEntries entries + 1
  | .held _ => 1
def uptoBulkAll {H : Type} : List (DataW H) → Nat
  | [] => 0
  | d :: r => uptoBulk d + uptoBulkAll r
def uptoBulkEntries {H : Type} : List (Lit × DataW H) → Nat
  | [] => 0
  | x :: r => uptoBulkEntry x + uptoBulkEntries r
def uptoBulkEntry {H : Type} : Lit × DataW H → Nat
  | (.string bytes, d) => bytes.length + uptoBulk d + 1
  | (_, d) => uptoBulk d + 1
 end
def uptoSmall : (H : Type) → List (DataW H) → Bool := fun _ ds => decide (uptoBulkAll ds ≤ 1048576)
def OpenSpec.upto (s : _root_.Go.ChangeSpec) : _root_.Go.OpenSpec := { _root_.Go.OpenSpec.ofChange s with cond := some uptoSmall }

/-- 'lapidarylaw17.ListNil', WHERE WHAT IT READS IS OF BULK AT MOST 1048576: true; the input reads as it did. -/
def listNilUptoRow : OpenClaim := { program := "ytnfpjojkjbkecaa", sum := "c0456e4167422ba0f1792f37c9d78d0107f6069eea330bbfc77d768b29b29fab", func := "lapidary/lapidarylaw17.ListNil", spec := "listNil", unfollowed := true, recurses := true, apart := false, narrowed := true }
def ListNilUptoSaid : Prop := listNilUptoRow.holds Try.pinned (OpenSpec.upto listNilSpec)

/-- 'lapidarylaw18.ShadeNil', WHERE WHAT IT READS IS OF BULK AT MOST 1048576: true; the input reads as it did. -/
def shadeNilUptoRow : OpenClaim := { program := "ytnfpjojkjbkecaa", sum := "c0456e4167422ba0f1792f37c9d78d0107f6069eea330bbfc77d768b29b29fab", func := "lapidary/lapidarylaw18.ShadeNil", spec := "shadeNil", unfollowed := true, recurses := true, apart := false, narrowed := true }
def ShadeNilUptoSaid : Prop := shadeNilUptoRow.holds Try.pinned (OpenSpec.upto shadeNilSpec)

end Rows
end Go.Proofs.Ytnfpjojkjbkecaa
