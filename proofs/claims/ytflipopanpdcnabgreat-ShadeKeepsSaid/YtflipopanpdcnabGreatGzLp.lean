/- The evaluator that the kernel runs: the heads of loops, as states over variables. -/
import Derived.Test.YtflipopanpdcnabGreatGzArg
namespace Go.Gz
open Go Go.Gx Go.RowKit
structure NSt where
 ts : List Value
 bs : List Nat
noncomputable def idxV (v : Value) : List Value → Nat → Option Nat
 | [], _ => none
 | u :: l, k => cnd (veq 1000 u v) (some k) (idxV v l (Nat.succ k))
structure NR (α : Type) where
 v : α
 s : NSt
structure Nrm where
 slots : List Value
 objs : List AObj
 s : NSt
noncomputable def mkS (x : X) (todo : List AI) (slots : List Value) (objs : List AObj) : S :=
 ⟨x, .run, todo, Tm.ofList .none 0 slots, [], objs.length, hpOf .none 0 objs⟩
where
 hpOf (t : Hp) : Nat → List AObj → Hp
 | _, [] => t
 | k, o :: l => hpOf (t.set k o) (Nat.succ k) l
end Go.Gz
