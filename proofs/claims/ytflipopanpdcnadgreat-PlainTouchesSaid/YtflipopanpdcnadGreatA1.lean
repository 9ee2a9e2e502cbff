/- Contracts: arenas' words. -/
import Derived.Test.YtflipopanpdcnadGreatL10
import Derived.Test.YtflipopanpdcnadGreatGzSub
set_option linter.unusedSimpArgs false
set_option linter.unusedVariables false
namespace Go.Proofs.YtflipopanpdcnadGreat
open Go.Gx Go.RowKit
set_option maxRecDepth 100000
set_option maxHeartbeats 2000000
def NumAt (cs : List Value) (f : Nat → Int) (n : Nat) : Prop := ∀ i, i < n → cs[i]? = some (.int .u64 (f i))
def stAt (T S : Int) (s : ByteArray) (i q : Nat) : Int :=
 if (q : Int) = 1 then 2 * (2 + s.size) + 16384 * S else if (q : Int) = 3 + 2 * T then 6
 else if 3 + 2 * T + 2 ≤ (q : Int) ∧ (q : Int) < 3 + 2 * T + 2 + i ∧ s.data.toList.getD ((q : Int) - (3 + 2 * T + 2)).toNat 0 = 115 then 4611686018427387908 else 0
def stCells (T S : Int) (s : ByteArray) (i : Nat) : List Value := (List.range (3 + 2 * T + 2 * S).toNat).map fun q => .int .u64 (stAt T S s i q)
end Go.Proofs.YtflipopanpdcnadGreat
