/- The evaluator that the kernel runs: a state that is an instance of one over variables stands for what that stands for. -/
import Derived.Test.YtflipopanpdcnabGreatGzLp
namespace Go.Gz
open Go Go.Gx Go.RowKit
theorem nth_get {α : Type} : ∀ (l : List α) (k : Nat), nth l k = l[k]?
 | [], _ => by simp [nth]
 | a :: l, 0 => rfl
 | a :: l, k + 1 => by
   show nth l k = _
   rw [nth_get l k]; simp
noncomputable def subI (m : Mu) (τ : List Value) (D : Nat → Value) (op : Nat) (l : List Value) : Value :=
 match (if 8192 ≤ op / 16 then τ[op / 16 - 8192]? else none) with
 | some t => (den m t).getD undef
 | none => if 1048576 ≤ op / 16 then D (op / 16 - 1048576) else m.I op l
noncomputable def subM (m : Mu) (τ : List Value) (D : Nat → Value) : Mu := ⟨subI m τ D, m.K⟩
section
variable {e : Env} {n : Nat} {τ : List Value} {bs : List Nat} {D : Nat → Value} {hp : Hp}
end
end Go.Gz
