/- The evaluator that the kernel runs: loops: what is left to show, and that it is enough. -/
import Derived.Test.YtflipopanpdcnabGreatGzLr
namespace Go.Gz
open Go Go.Gx Go.RowKit
noncomputable def subL (f : Value → Value) : List Value → List Value
 | [] => []
 | v :: l => f v :: subL f l
noncomputable def subT (τ : List Value) : Nat → Value → Value :=
 @Nat.rec (fun _ => Value → Value) (fun v => v) (fun _ rec v => match v with
  | .func fn a c => match fn with
    | .methodOf op nm => cnd (Nat.ble 8192 (Nat.div op 16)) (match nth τ (Nat.sub (Nat.div op 16) 8192) with
      | some t => t
      | none => .func (.methodOf op nm) a c) (.func (.methodOf op nm) ⟨subL rec a.toList⟩ c)
    | fn => .func fn a c
  | .agg a => .agg ⟨subL rec a.toList⟩
  | v => v)
structure Head where
 slots : List Value
 objs : List AObj
 Γ : Facts
 rank : Value
structure Obl where
 Γ : Facts
 goals : Facts
section
variable {m : Mu} {dec : Value → Option Bool} (hdec : ∀ c b, dec c = some b → den m c = some (.bool b))
include hdec
end
def Done (P : Program) (B : Base) (fr : Frame) (CS : List Frame) (w : World) (f : FuncId) : Prop :=
 ∃ w' fr1, Steps P (lone fr CS w) (lone fr1 CS w') ∧ fr1.fn = f ∧ fr1.leaving P w' (.returned (.bool true)) ∧ Below B.w.heap.size B.w w'
theorem Done.trans {P : Program} {B : Base} {fr fr1 : Frame} {CS : List Frame} {w w1 : World} {f : FuncId} (hs : Steps P (lone fr CS w) (lone fr1 CS w1)) (h : Done P B fr1 CS w1 f) : Done P B fr CS w f := by
 obtain ⟨w', fr2, h1, h2⟩ := h
 exact ⟨w', fr2, hs.trans h1, h2⟩
theorem WR.below {P : Program} {B : Base} (hB : B.n = 0) {e : Env} {n : Nat} {hp : Hp} {w : World} (h : WR P B e n hp w) : Below B.w.heap.size B.w w :=
 ⟨h.os, h.tape, h.output, h.size, fun k hk => h.old k hk fun i hi => by omega⟩
def Cls (m0 m : Mu) : Prop := m.K = m0.K ∧ ∀ op l, op / 16 < 8192 → m.I op l = m0.I op l
theorem Cls.refl (m : Mu) : Cls m m := ⟨rfl, fun _ _ _ => rfl⟩
theorem Cls.sub {m0 m : Mu} (h : Cls m0 m) (τ : List Value) (D : Nat → Value) : Cls m0 (subM m τ D) := by
 refine ⟨h.1, fun op l hl => ?_⟩
 rw [← h.2 op l hl]
 show subI m τ D op l = m.I op l
 unfold subI
 rw [if_neg (by omega), if_neg (by omega)]
section
variable {P : Program} (hP : Small P) {sm : Sm} {m0 : Mu} (hsm : ∀ m, Cls m0 m → SmOk P sm m) {mk : Facts → Value → Option Bool} (hmk : ∀ m, Cls m0 m → MkOk m mk) {hd : S → Bool} {fuel d : Nat}
 {live gens : List Nat} {X0 : X} {T : List AI} {heads : List Head}
include hP hmk
include hsm
end
end Go.Gz
