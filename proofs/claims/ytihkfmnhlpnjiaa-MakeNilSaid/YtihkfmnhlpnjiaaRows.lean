/-
  No cell of these rows narrows 'for every input' (looked for: loops, veiled, ifaces, maps, wideKeys, modest, calm, conditions, laid).
  DERIVED. THE GIVEN ROWS OF THIS SEAT. 7 by the template 'for every input the law returns true; each argument reads behind the call as it read before'; 0 by the template 'total and deterministic' (their statements: YtihkfmnhlpnjiaaTotals.lean).
  GIVEN WITH THE SEED: the statements are not yours to turn. If you find one false, say at which input.
  Laid BY PROGRAM, IN A SANDBOX (cutbox-rows.mjs): the forced cells as the released guide's own fill.sh prints them over the translation d4fdedc0f2347112… (all of the seat's roots in one cut). By AI agents, Wed Nov 11 2026. No macro, syntax, notation, axiom, sorry.
-/
import Derived.Test.YtihkfmnhlpnjiaaChecked
import GoSem.Claim
import GoSem.ClaimJoined
import GoSem.ClaimMapViews
import Derived.JoinedTies
import Derived.KernelRfl
namespace Go.Proofs.Ytihkfmnhlpnjiaa
/- THE CELL 'sum', in the pinned program and in every row, IS THE sha256 OF THE DUMP (.gsa) THAT YtihkfmnhlpnjiaaProg.lean LOADS. Nothing in Lean hashes anything: it is a label: what it is worth is what the hold of that sum in a sandbox is worth. -/
noncomputable def Try.pinned : Pinned := { name := "ytihkfmnhlpnjiaa", sum := "d4fdedc0f2347112d8c3372381f1014879294119a9a00b1aa2a017a768f3ac3a", checked := Try.checked }
namespace Rows
def none {H : Type} : Left H := { results := [], args := [] }

/-- 'lapidarylaw17.ListTakes': WHATEVER THE INPUT: true; the input reads as it did. -/
def listTakesSpec : ChangeSpec := { name := "listTakes", fn := fun _ => fun
  | [d1, d2, d3] => { results := [.lit (.bool true)], args := [d1, d2, d3] }
  | _ => none }
def listTakesRow : OpenClaim := { program := "ytihkfmnhlpnjiaa", sum := "d4fdedc0f2347112d8c3372381f1014879294119a9a00b1aa2a017a768f3ac3a", func := "lapidary/lapidarylaw17.ListTakes", spec := "listTakes", unfollowed := true, recurses := true, apart := false }
def ListTakesSaid : Prop := listTakesRow.holds Try.pinned (OpenSpec.ofChange listTakesSpec)

/-- ITS FALSE NEIGHBOUR: 'it returns false'. Refute it at one input. -/
def listTakesWrong : ChangeSpec := { name := "listTakes", fn := fun _ => fun
  | [d1, d2, d3] => { results := [.lit (.bool false)], args := [d1, d2, d3] }
  | _ => none }
def ListTakesWrongFalsely : Prop := listTakesRow.holds Try.pinned (OpenSpec.ofChange listTakesWrong)

/-- 'lapidarylaw17.ListChains': WHATEVER THE INPUT: true; the input reads as it did. -/
def listChainsSpec : ChangeSpec := { name := "listChains", fn := fun _ => fun
  | [d1, d2, d3] => { results := [.lit (.bool true)], args := [d1, d2, d3] }
  | _ => none }
def listChainsRow : OpenClaim := { program := "ytihkfmnhlpnjiaa", sum := "d4fdedc0f2347112d8c3372381f1014879294119a9a00b1aa2a017a768f3ac3a", func := "lapidary/lapidarylaw17.ListChains", spec := "listChains", unfollowed := true, recurses := true, apart := false }
def ListChainsSaid : Prop := listChainsRow.holds Try.pinned (OpenSpec.ofChange listChainsSpec)

/-- ITS FALSE NEIGHBOUR: 'it returns false'. Refute it at one input. -/
def listChainsWrong : ChangeSpec := { name := "listChains", fn := fun _ => fun
  | [d1, d2, d3] => { results := [.lit (.bool false)], args := [d1, d2, d3] }
  | _ => none }
def ListChainsWrongFalsely : Prop := listChainsRow.holds Try.pinned (OpenSpec.ofChange listChainsWrong)

/-- 'lapidarylaw17.ListKeeps': WHATEVER THE INPUT: true; the input reads as it did. -/
def listKeepsSpec : ChangeSpec := { name := "listKeeps", fn := fun _ => fun
  | [d1, d2, d3] => { results := [.lit (.bool true)], args := [d1, d2, d3] }
  | _ => none }
def listKeepsRow : OpenClaim := { program := "ytihkfmnhlpnjiaa", sum := "d4fdedc0f2347112d8c3372381f1014879294119a9a00b1aa2a017a768f3ac3a", func := "lapidary/lapidarylaw17.ListKeeps", spec := "listKeeps", unfollowed := true, recurses := true, apart := false }
def ListKeepsSaid : Prop := listKeepsRow.holds Try.pinned (OpenSpec.ofChange listKeepsSpec)

/-- ITS FALSE NEIGHBOUR: 'it returns false'. Refute it at one input. -/
def listKeepsWrong : ChangeSpec := { name := "listKeeps", fn := fun _ => fun
  | [d1, d2, d3] => { results := [.lit (.bool false)], args := [d1, d2, d3] }
  | _ => none }
def ListKeepsWrongFalsely : Prop := listKeepsRow.holds Try.pinned (OpenSpec.ofChange listKeepsWrong)

/-- 'lapidarylaw17.ListOrder': WHATEVER THE INPUT: true; the input reads as it did. -/
def listOrderSpec : ChangeSpec := { name := "listOrder", fn := fun _ => fun
  | [d1, d2, d3] => { results := [.lit (.bool true)], args := [d1, d2, d3] }
  | _ => none }
def listOrderRow : OpenClaim := { program := "ytihkfmnhlpnjiaa", sum := "d4fdedc0f2347112d8c3372381f1014879294119a9a00b1aa2a017a768f3ac3a", func := "lapidary/lapidarylaw17.ListOrder", spec := "listOrder", unfollowed := true, recurses := true, apart := false }
def ListOrderSaid : Prop := listOrderRow.holds Try.pinned (OpenSpec.ofChange listOrderSpec)

/-- ITS FALSE NEIGHBOUR: 'it returns false'. Refute it at one input. -/
def listOrderWrong : ChangeSpec := { name := "listOrder", fn := fun _ => fun
  | [d1, d2, d3] => { results := [.lit (.bool false)], args := [d1, d2, d3] }
  | _ => none }
def ListOrderWrongFalsely : Prop := listOrderRow.holds Try.pinned (OpenSpec.ofChange listOrderWrong)

/-- 'lapidarylaw16.MakeRooms': WHATEVER THE INPUT: true; the input reads as it did. -/
def makeRoomsSpec : ChangeSpec := { name := "makeRooms", fn := fun _ => fun
  | [d1, d2] => { results := [.lit (.bool true)], args := [d1, d2] }
  | _ => none }
def makeRoomsRow : OpenClaim := { program := "ytihkfmnhlpnjiaa", sum := "d4fdedc0f2347112d8c3372381f1014879294119a9a00b1aa2a017a768f3ac3a", func := "lapidary/lapidarylaw16.MakeRooms", spec := "makeRooms", unfollowed := true, recurses := true, apart := false }
def MakeRoomsSaid : Prop := makeRoomsRow.holds Try.pinned (OpenSpec.ofChange makeRoomsSpec)

/-- ITS FALSE NEIGHBOUR: 'it returns false'. Refute it at one input. -/
def makeRoomsWrong : ChangeSpec := { name := "makeRooms", fn := fun _ => fun
  | [d1, d2] => { results := [.lit (.bool false)], args := [d1, d2] }
  | _ => none }
def MakeRoomsWrongFalsely : Prop := makeRoomsRow.holds Try.pinned (OpenSpec.ofChange makeRoomsWrong)

/-- 'lapidarylaw16.MakeCopies': WHATEVER THE INPUT: true; the input reads as it did. -/
def makeCopiesSpec : ChangeSpec := { name := "makeCopies", fn := fun _ => fun
  | [d1, d2, d3, d4, d5] => { results := [.lit (.bool true)], args := [d1, d2, d3, d4, d5] }
  | _ => none }
def makeCopiesRow : OpenClaim := { program := "ytihkfmnhlpnjiaa", sum := "d4fdedc0f2347112d8c3372381f1014879294119a9a00b1aa2a017a768f3ac3a", func := "lapidary/lapidarylaw16.MakeCopies", spec := "makeCopies", unfollowed := true, recurses := true, apart := false }
def MakeCopiesSaid : Prop := makeCopiesRow.holds Try.pinned (OpenSpec.ofChange makeCopiesSpec)

/-- ITS FALSE NEIGHBOUR: 'it returns false'. Refute it at one input. -/
def makeCopiesWrong : ChangeSpec := { name := "makeCopies", fn := fun _ => fun
  | [d1, d2, d3, d4, d5] => { results := [.lit (.bool false)], args := [d1, d2, d3, d4, d5] }
  | _ => none }
def MakeCopiesWrongFalsely : Prop := makeCopiesRow.holds Try.pinned (OpenSpec.ofChange makeCopiesWrong)

/-- 'lapidarylaw16.MakeNil': WHATEVER THE INPUT: true; the input reads as it did. -/
def makeNilSpec : ChangeSpec := { name := "makeNil", fn := fun _ => fun
  | [d] => { results := [.lit (.bool true)], args := [d] }
  | _ => none }
def makeNilRow : OpenClaim := { program := "ytihkfmnhlpnjiaa", sum := "d4fdedc0f2347112d8c3372381f1014879294119a9a00b1aa2a017a768f3ac3a", func := "lapidary/lapidarylaw16.MakeNil", spec := "makeNil", unfollowed := true, recurses := true, apart := false }
def MakeNilSaid : Prop := makeNilRow.holds Try.pinned (OpenSpec.ofChange makeNilSpec)

/-- ITS FALSE NEIGHBOUR: 'it returns false'. Refute it at one input. -/
def makeNilWrong : ChangeSpec := { name := "makeNil", fn := fun _ => fun
  | [d] => { results := [.lit (.bool false)], args := [d] }
  | _ => none }
def MakeNilWrongFalsely : Prop := makeNilRow.holds Try.pinned (OpenSpec.ofChange makeNilWrong)

/- THE SECOND FORM. 'bulk': how many values and letters a reading holds, each counted each time it is reached (what is shared counts as often as it is met; a slice's spare places count too). A statement '..UptoSaid' is the law's where the arguments, and the package variables that the reading takes, are together of bulk at most 1048576: NARROWER than '..Said'. Prove '..Said' where nothing that the law and all that it calls make is longer than what came in: it says more and counts as full. Else prove '..UptoSaid'. A law counts once. -/
mutual
def uptoBulk {H : Type} : DataW H → Nat
  | .lit (.string bytes) => bytes.length + 1
  | .lit _ => 1
  | .nil => 1
  | .ptr d => uptoBulk d + 1
  | .slice elems spare => uptoBulkAll elems + uptoBulkAll spare + 1
  | .agg parts => uptoBulkAll parts + 1
  | .iface _ d => uptoBulk d + 1
  | .map entries => uptoBulkEntries entries + 1
  | .held _ => 1
def uptoBulkAll {H : Type} : List (DataW H) → Nat
  | [] => 0
  | d :: r => uptoBulk d + uptoBulkAll r
def uptoBulkEntries {H : Type} : List (Lit × DataW H) → Nat
  | [] => 0
  | x :: r => uptoBulkEntry x + uptoBulkEntries r
def uptoBulkEntry {H : Type} : Lit × DataW H → Nat
  | (.string bytes, d) => bytes.length + uptoBulk d + 1
  | (_, d) => uptoBulk d + 1
 end
def uptoSmall : (H : Type) → List (DataW H) → Bool := fun _ ds => decide (uptoBulkAll ds ≤ 1048576)
def OpenSpec.upto (s : _root_.Go.ChangeSpec) : _root_.Go.OpenSpec := { _root_.Go.OpenSpec.ofChange s with cond := some uptoSmall }

/-- 'lapidarylaw17.ListTakes', WHERE WHAT IT READS IS OF BULK AT MOST 1048576: true; the input reads as it did. -/
def listTakesUptoRow : OpenClaim := { program := "ytihkfmnhlpnjiaa", sum := "d4fdedc0f2347112d8c3372381f1014879294119a9a00b1aa2a017a768f3ac3a", func := "lapidary/lapidarylaw17.ListTakes", spec := "listTakes", unfollowed := true, recurses := true, apart := false, narrowed := true }
def ListTakesUptoSaid : Prop := listTakesUptoRow.holds Try.pinned (OpenSpec.upto listTakesSpec)

/-- 'lapidarylaw17.ListChains', WHERE WHAT IT READS IS OF BULK AT MOST 1048576: true; the input reads as it did. -/
def listChainsUptoRow : OpenClaim := { program := "ytihkfmnhlpnjiaa", sum := "d4fdedc0f2347112d8c3372381f1014879294119a9a00b1aa2a017a768f3ac3a", func := "lapidary/lapidarylaw17.ListChains", spec := "listChains", unfollowed := true, recurses := true, apart := false, narrowed := true }
def ListChainsUptoSaid : Prop := listChainsUptoRow.holds Try.pinned (OpenSpec.upto listChainsSpec)

/-- 'lapidarylaw17.ListKeeps', WHERE WHAT IT READS IS OF BULK AT MOST 1048576: true; the input reads as it did. -/
def listKeepsUptoRow : OpenClaim := { program := "ytihkfmnhlpnjiaa", sum := "d4fdedc0f2347112d8c3372381f1014879294119a9a00b1aa2a017a768f3ac3a", func := "lapidary/lapidarylaw17.ListKeeps", spec := "listKeeps", unfollowed := true, recurses := true, apart := false, narrowed := true }
def ListKeepsUptoSaid : Prop := listKeepsUptoRow.holds Try.pinned (OpenSpec.upto listKeepsSpec)

/-- 'lapidarylaw17.ListOrder', WHERE WHAT IT READS IS OF BULK AT MOST 1048576: true; the input reads as it did. -/
def listOrderUptoRow : OpenClaim := { program := "ytihkfmnhlpnjiaa", sum := "d4fdedc0f2347112d8c3372381f1014879294119a9a00b1aa2a017a768f3ac3a", func := "lapidary/lapidarylaw17.ListOrder", spec := "listOrder", unfollowed := true, recurses := true, apart := false, narrowed := true }
def ListOrderUptoSaid : Prop := listOrderUptoRow.holds Try.pinned (OpenSpec.upto listOrderSpec)

/-- 'lapidarylaw16.MakeRooms', WHERE WHAT IT READS IS OF BULK AT MOST 1048576: true; the input reads as it did. -/
def makeRoomsUptoRow : OpenClaim := { program := "ytihkfmnhlpnjiaa", sum := "d4fdedc0f2347112d8c3372381f1014879294119a9a00b1aa2a017a768f3ac3a", func := "lapidary/lapidarylaw16.MakeRooms", spec := "makeRooms", unfollowed := true, recurses := true, apart := false, narrowed := true }
def MakeRoomsUptoSaid : Prop := makeRoomsUptoRow.holds Try.pinned (OpenSpec.upto makeRoomsSpec)

/-- 'lapidarylaw16.MakeCopies', WHERE WHAT IT READS IS OF BULK AT MOST 1048576: true; the input reads as it did. -/
def makeCopiesUptoRow : OpenClaim := { program := "ytihkfmnhlpnjiaa", sum := "d4fdedc0f2347112d8c3372381f1014879294119a9a00b1aa2a017a768f3ac3a", func := "lapidary/lapidarylaw16.MakeCopies", spec := "makeCopies", unfollowed := true, recurses := true, apart := false, narrowed := true }
def MakeCopiesUptoSaid : Prop := makeCopiesUptoRow.holds Try.pinned (OpenSpec.upto makeCopiesSpec)

/-- 'lapidarylaw16.MakeNil', WHERE WHAT IT READS IS OF BULK AT MOST 1048576: true; the input reads as it did. -/
def makeNilUptoRow : OpenClaim := { program := "ytihkfmnhlpnjiaa", sum := "d4fdedc0f2347112d8c3372381f1014879294119a9a00b1aa2a017a768f3ac3a", func := "lapidary/lapidarylaw16.MakeNil", spec := "makeNil", unfollowed := true, recurses := true, apart := false, narrowed := true }
def MakeNilUptoSaid : Prop := makeNilUptoRow.holds Try.pinned (OpenSpec.upto makeNilSpec)

end Rows
end Go.Proofs.Ytihkfmnhlpnjiaa
