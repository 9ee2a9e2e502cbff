/- The evaluator that the kernel runs: opaque codes: what a function answers, whatever that is; two functions that answer the same share one. -/
import Derived.Test.YtflipopanpdcnabGreatGzTr
import Derived.Test.YtflipopanpdcnabGreatGzDe3
namespace Go.Gz
open Go Go.Gx Go.RowKit
structure Oq where
 f : FuncId
 perm : List Nat
 ps : List Pt
structure Otab where
 s : Nat
 q : List Oq
 im : List (Value × Facts)
 dv : Value
abbrev Base0 := (Nat → Option Obj) → Nat → List Value → Value
def Base0.Ok (G : Base0) (m : Mu) : Prop := ∀ op l, 4096 ≤ op / 16 → op / 16 < 6000 → m.I op l = G m.K op l
noncomputable def knowsL (mk : Facts → Value → Option Bool) (Γ : Facts) : Facts → Bool
 | [] => true
 | x :: l => match x with
   | ⟨c, b⟩ => match mk Γ c with
     | some b' => cnd (cnd b b' (!b')) (knowsL mk Γ l) false
     | none => false
theorem knowsL_ok {m : Mu} {mk : Facts → Value → Option Bool} (hmk : MkOk m mk) {Γ : Facts} (hΓ : Holds m Γ) : ∀ {G : Facts}, knowsL mk Γ G = true → Holds m G
 | [], _ => fun _ _ h => by simp at h
 | (c, b) :: G, h => by
   have h2 : (match mk Γ c with
    | some b' => cnd (cnd b b' (!b')) (knowsL mk Γ G) false
    | none => false) = true := h
   clear h
   split at h2
   ·rename_i b' hb
    rw [zaa] at h2
    split at h2
    ·rename_i hbb
     have : b' = b := by cases b <;> cases b' <;> first | rfl | cases hbb
     subst this
     have k : Holds m G := knowsL_ok hmk hΓ (G := G) h2
     exact k.cons (hmk Γ hΓ c b' hb)
    ·cases h2
   ·cases h2
structure Ot where
 q : Oq
 t : Tr
structure Op1 where
 f : FuncId
 ps : List Pt
 inv : List Nat
 op : Nat
 Γ : Facts
structure Tell where
 op : Nat
 σ : List Nat
 im : List (Value × Facts)
noncomputable def toldC (c : Value) (b : Bool) (f : Value → Value → Option Bool) (y : Option Bool) : Option Bool :=
 match c with
 | .func (.methodOf op nm) a k => cnd (Nat.ble 6000 (Nat.div op 16) && Nat.blt (Nat.div op 16) 8192) (orB (f (.func (.methodOf op nm) a k) (.bool b)) y) (match a.toList with
   | [u, v] => cnd (cnd b (Nat.beq op 264) (Nat.beq op 280)) (cnd (isK v) (orB (f u v) y) y) y
   | _ => y)
 | _ => y
section
variable {m : Mu} {G : Base0} (hG : G.Ok m)
include hG
omit hG in
theorem toldC_ok {c : Value} {b b' : Bool} {f : Value → Value → Option Bool} {y : Option Bool} {X : Prop} (hc : den m c = some (.bool b)) (hf : ∀ u k, den m u = some k → f u k = some b' → X) (hy : y = some b' → X) (h : toldC c b f y = some b') : X := by
 have or : ∀ {o r : Option Bool}, orB o r = some b' → o = some b' ∨ r = some b' := by
  intro o r h
  unfold orB at h
  split at h
  ·left; exact h
  ·right; exact h
 unfold toldC at h
 split at h
 ·rename_i op nm a k
  rw [zaa] at h
  split at h
  ·rcases or h with h | h
   ·exact hf _ _ hc h
   ·exact hy h
  ·split at h
   ·rename_i u v hl
    obtain ⟨l⟩ := a
    have hl : l = [u, v] := hl
    subst hl
    rw [zaa] at h
    split at h
    ·rename_i ho
     rw [zaa] at h
     split at h
     ·rename_i hk
      rcases or h with h | h
      ·obtain ⟨w, g1, g2⟩ := told_ok ho hc
       rw [isK_den hk] at g2
       cases g2
       exact hf _ _ g1 h
      ·exact hy h
     ·exact hy h
    ·exact hy h
   ·exact hy h
 ·exact hy h
end
end Go.Gz
