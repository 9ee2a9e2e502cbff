/- The evaluator that the kernel runs: functions that only compute, summed up as trees: what is asked, what is answered. -/
import Derived.Test.YtflipopanpdcnabGreatGzG
import Derived.Test.YtflipopanpdcnabGreatGzDe2
namespace Go.Gz
open Go Go.Gx Go.RowKit
inductive Tr where
 | node (c : Value) (y n : Tr)
 | leaf (v : Value)
 | bad
section
variable {P : Program} (hP : Small P) {sm : Sm} {m : Mu} (hsm : SmOk P sm m) {mk : Facts → Value → Option Bool} (hmk : MkOk m mk) {fuel : Nat}
include hP hsm hmk
end
noncomputable def foldL (f : Value → Value) : List Value → List Value
 | [] => []
 | v :: l => f v :: foldL f l
noncomputable def orK (o : Option Value) (v : Value) : Value :=
 match o with
 | some r => cnd (isK r) r v
 | none => v
noncomputable def foldO (v : Value) (op : Nat) (l : List Value) : Value :=
 match l with
 | [x] => cnd (isK x) (orK (unC op x) v) v
 | [x, y] => cnd (isK x && isK y) (orK (binC op x y) v) v
 | _ => v
noncomputable def foldT : Nat → Value → Value :=
 @Nat.rec (fun _ => Value → Value) (fun v => v) (fun _ rec v => match v with
  | .func fn a c => match fn with
    | .methodOf op nm => foldO (.func (.methodOf op nm) ⟨foldL rec a.toList⟩ c) op (foldL rec a.toList)
    | fn => .func fn a c
  | v => v)
noncomputable def sb (ls : List Value) (v : Value) : Value := foldT 50 (subT ls 50 v)
noncomputable def sbL (f : Value → Value) : List Value → List Value
 | [] => []
 | v :: l => f v :: sbL f l
noncomputable def sbV (ls : List Value) : Nat → Value → Value :=
 @Nat.rec (fun _ => Value → Value) (fun v => v) (fun _ rec v => match v with
  | .func fn a c => match fn with
    | .methodOf op nm => sb ls (.func (.methodOf op nm) a c)
    | fn => .func fn a c
  | .agg a => .agg ⟨sbL rec a.toList⟩
  | .tuple a => .tuple ⟨sbL rec a.toList⟩
  | v => v)
noncomputable def runTr (ls : List Value) (hp : Hp) (t : Tr) : EntR :=
 @Tr.rec (fun _ => EntR) (fun c _ _ y n => askE hp (sb ls c) y n) (fun v => .ans (sbV ls 50 v)) .no t
noncomputable def reqL (ls : List Value) (hp : Hp) : Facts → Bool
 | [] => true
 | x :: l => match x with
   | ⟨c, b⟩ => match decH hp (sb ls c) with
     | some b' => cnd (cnd b b' (!b')) (reqL ls hp l) false
     | none => false
structure Sum where
 f : FuncId
 ps : List Pt
 Γ : Facts
 t : Tr
noncomputable def resT (ps : List Pt) (Γ : Facts) (t : Tr) (args : List Value) (hp : Hp) : EntR := match flat ps args with
 | some ls => cnd (reqL ls hp Γ) (runTr ls hp t) .no
 | none => .no
section
variable {m : Mu} {ls vs : List Value} {σ : List Nat} {D : Nat → Value} (hτ : ∀ (k s : Nat), σ[k]? = some s → ∃ t v, ls[k]? = some t ∧ den m t = some v ∧ srtA s v = true)
include hτ
end
end Go.Gz
