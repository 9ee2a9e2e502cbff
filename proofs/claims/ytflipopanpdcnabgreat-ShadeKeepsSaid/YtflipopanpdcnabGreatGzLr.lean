/- The evaluator that the kernel runs: loops: from head to head. -/
import Derived.Test.YtflipopanpdcnabGreatGzLq
namespace Go.Gz
open Go Go.Gx Go.RowKit
section
variable {e : Env} {n : Nat} {e2 : Env} {n2 : Nat} {m : Mu} {τ : List Value} {D : Nat → Value} (hm : e2.m = subM m τ D) (hτ : τ.length ≤ 1000000)
include hm hτ
end
end Go.Gz
