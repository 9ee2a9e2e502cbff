/-
  No cell of these rows narrows 'for every input' (looked for: loops, veiled, ifaces, maps, wideKeys, modest, calm, conditions, laid).
  DERIVED. THE GIVEN ROWS OF THIS SEAT. 3 by the template 'for every input the law returns true; each argument reads behind the call as it read before'; 0 by the template 'total and deterministic' (their statements: YtofkapncgmjcfaaTotals.lean).
  GIVEN WITH THE SEED: the statements are not yours to turn. If you find one false, say at which input.
  Laid BY PROGRAM, IN A SANDBOX (cutbox-rows.mjs): the forced cells as the released guide's own fill.sh prints them over the translation cf30edc47b9fdecc… (all of the seat's roots in one cut). By AI agents, Wed Nov 11 2026. No macro, syntax, notation, axiom, sorry.
-/
import Derived.Test.YtofkapncgmjcfaaChecked
import GoSem.Claim
import GoSem.ClaimJoined
import GoSem.ClaimMapViews
import Derived.JoinedTies
import Derived.KernelRfl
namespace Go.Proofs.Ytofkapncgmjcfaa
/- THE CELL 'sum', in the pinned program and in every row, IS THE sha256 OF THE DUMP (.gsa) THAT YtofkapncgmjcfaaProg.lean LOADS. Nothing in Lean hashes anything: it is a label: what it is worth is what the hold of that sum in a sandbox is worth. -/
noncomputable def Try.pinned : Pinned := { name := "ytofkapncgmjcfaa", sum := "cf30edc47b9fdecca1150715066a1dcecab0bb6280000f27ead55adb1349e55e", checked := Try.checked }
namespace Rows
def none {H : Type} : Left H := { results := [], args := [] }

/-- 'lapidarylaw17.ListTakes': WHATEVER THE INPUT: true; the input reads as it did. -/
def listTakesSpec : ChangeSpec := { name := "listTakes", fn := fun _ => fun
  | [d1, d2, d3] => { results := [.lit (.bool true)], args := [d1, d2, d3] }
  | _ => none }
def listTakesRow : OpenClaim := { program := "ytofkapncgmjcfaa", sum := "cf30edc47b9fdecca1150715066a1dcecab0bb6280000f27ead55adb1349e55e", func := "lapidary/lapidarylaw17.ListTakes", spec := "listTakes", unfollowed := true, recurses := true, apart := false }
def ListTakesSaid : Prop := listTakesRow.holds Try.pinned (OpenSpec.ofChange listTakesSpec)

/-- ITS FALSE NEIGHBOUR: 'it returns false'. Refute it at one input. -/
def listTakesWrong : ChangeSpec := { name := "listTakes", fn := fun _ => fun
  | [d1, d2, d3] => { results := [.lit (.bool false)], args := [d1, d2, d3] }
  | _ => none }
def ListTakesWrongFalsely : Prop := listTakesRow.holds Try.pinned (OpenSpec.ofChange listTakesWrong)

/-- 'lapidarylaw17.ListChains': WHATEVER THE INPUT: true; the input reads as it did. -/
def listChainsSpec : ChangeSpec := { name := "listChains", fn := fun _ => fun
  | [d1, d2, d3] => { results := [.lit (.bool true)], args := [d1, d2, d3] }
  | _ => none }
def listChainsRow : OpenClaim := { program := "ytofkapncgmjcfaa", sum := "cf30edc47b9fdecca1150715066a1dcecab0bb6280000f27ead55adb1349e55e", func := "lapidary/lapidarylaw17.ListChains", spec := "listChains", unfollowed := true, recurses := true, apart := false }
def ListChainsSaid : Prop := listChainsRow.holds Try.pinned (OpenSpec.ofChange listChainsSpec)

/-- ITS FALSE NEIGHBOUR: 'it returns false'. Refute it at one input. -/
def listChainsWrong : ChangeSpec := { name := "listChains", fn := fun _ => fun
  | [d1, d2, d3] => { results := [.lit (.bool false)], args := [d1, d2, d3] }
  | _ => none }
def ListChainsWrongFalsely : Prop := listChainsRow.holds Try.pinned (OpenSpec.ofChange listChainsWrong)

/-- 'lapidarylaw17.ListNil': WHATEVER THE INPUT: true; the input reads as it did. -/
def listNilSpec : ChangeSpec := { name := "listNil", fn := fun _ => fun
  | [d1, d2] => { results := [.lit (.bool true)], args := [d1, d2] }
  | _ => none }
def listNilRow : OpenClaim := { program := "ytofkapncgmjcfaa", sum := "cf30edc47b9fdecca1150715066a1dcecab0bb6280000f27ead55adb1349e55e", func := "lapidary/lapidarylaw17.ListNil", spec := "listNil", unfollowed := true, recurses := true, apart := false }
def ListNilSaid : Prop := listNilRow.holds Try.pinned (OpenSpec.ofChange listNilSpec)

/-- ITS FALSE NEIGHBOUR: 'it returns false'. Refute it at one input. -/
def listNilWrong : ChangeSpec := { name := "listNil", fn := fun _ => fun
  | [d1, d2] => { results := [.lit (.bool false)], args := [d1, d2] }
  | _ => none }
def ListNilWrongFalsely : Prop := listNilRow.holds Try.pinned (OpenSpec.ofChange listNilWrong)

/- THE SECOND FORM. 'bulk': how many values and letters a reading holds, each counted each time it is reached (what is shared counts as often as it is met; a slice's spare places count too). A statement '..UptoSaid' is the law's where the arguments, and the package variables that the reading takes, are together of bulk at most 1048576: NARROWER than '..Said'. Prove '..Said' where nothing that the law and all that it calls make is longer than what came in: it says more and counts as full. Else prove '..UptoSaid'. A law counts once. -/
mutual
def uptoBulk {H : Type} : DataW H → Nat
  | .lit (.string bytes) => bytes.length + 1
  | .lit _ => 1
  | .nil => 1
  | .ptr d => uptoBulk d + 1
  | .slice elems spare => uptoBulkAll elems + uptoBulkAll spare + 1
  | .agg parts => uptoBulkAll parts + 1
  | .iface _ d => uptoBulk d + 1
  | .map entries => uptoBulkEntries entries + 1
  | .held _ => 1
def uptoBulkAll {H : Type} : List (DataW H) → Nat
  | [] => 0
  | d :: r => uptoBulk d + uptoBulkAll r
def uptoBulkEntries {H : Type} : List (Lit × DataW H) → Nat
  | [] => 0
  | x :: r => uptoBulkEntry x + uptoBulkEntries r
def uptoBulkEntry {H : Type} : Lit × DataW H → Nat
  | (.string bytes, d) => bytes.length + uptoBulk d + 1
  | (_, d) => uptoBulk d + 1
 end
def uptoSmall : (H : Type) → List (DataW H) → Bool := fun _ ds => decide (uptoBulkAll ds ≤ 1048576)
def OpenSpec.upto (s : _root_.Go.ChangeSpec) : _root_.Go.OpenSpec := { _root_.Go.OpenSpec.ofChange s with cond := some uptoSmall }

/-- 'lapidarylaw17.ListTakes', WHERE WHAT IT READS IS OF BULK AT MOST 1048576: true; the input reads as it did. -/
def listTakesUptoRow : OpenClaim := { program := "ytofkapncgmjcfaa", sum := "cf30edc47b9fdecca1150715066a1dcecab0bb6280000f27ead55adb1349e55e", func := "lapidary/lapidarylaw17.ListTakes", spec := "listTakes", unfollowed := true, recurses := true, apart := false, narrowed := true }
def ListTakesUptoSaid : Prop := listTakesUptoRow.holds Try.pinned (OpenSpec.upto listTakesSpec)

/-- 'lapidarylaw17.ListChains', WHERE WHAT IT READS IS OF BULK AT MOST 1048576: true; the input reads as it did. -/
def listChainsUptoRow : OpenClaim := { program := "ytofkapncgmjcfaa", sum := "cf30edc47b9fdecca1150715066a1dcecab0bb6280000f27ead55adb1349e55e", func := "lapidary/lapidarylaw17.ListChains", spec := "listChains", unfollowed := true, recurses := true, apart := false, narrowed := true }
def ListChainsUptoSaid : Prop := listChainsUptoRow.holds Try.pinned (OpenSpec.upto listChainsSpec)

/-- 'lapidarylaw17.ListNil', WHERE WHAT IT READS IS OF BULK AT MOST 1048576: true; the input reads as it did. -/
def listNilUptoRow : OpenClaim := { program := "ytofkapncgmjcfaa", sum := "cf30edc47b9fdecca1150715066a1dcecab0bb6280000f27ead55adb1349e55e", func := "lapidary/lapidarylaw17.ListNil", spec := "listNil", unfollowed := true, recurses := true, apart := false, narrowed := true }
def ListNilUptoSaid : Prop := listNilUptoRow.holds Try.pinned (OpenSpec.upto listNilSpec)

end Rows
end Go.Proofs.Ytofkapncgmjcfaa
