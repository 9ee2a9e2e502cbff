/- The evaluator that the kernel runs: contracts of calls that look at blocks, or make them. -/
import Derived.Test.YtflipopanpdcnadGreatGzLin
import Derived.Test.YtflipopanpdcnadGreatGzRow
import Derived.Test.YtflipopanpdcnadGreatGzRl
namespace Go.Gz
open Go Go.Gx Go.RowKit
structure Ent2 where
 f : FuncId
 res : List Value → Nat → Hp → SmR
def Ent2Ok (P : Program) (m : Mu) (E : Ent2) : Prop :=
 (bodyOf P E.f).isSome = true ∧ ∀ (args : List Value) (n : Nat) (hp : Hp) (v : Value) (n' : Nat) (hp' : Hp), E.res args n hp = .ans v n' hp' →
  ∀ (B : Base) (e : Env) (w : World) (args' : List Value), e.m = m → B.lt = true → WR P B e n hp w → RL e n args args' →
    Calls P E.f args'.toArray w fun o w' => ∃ e' v', o = .returned v' ∧ Ext e n e' n' ∧ WR P B e' n' hp' w' ∧ RV e' n' v v'
noncomputable def smO : List Ent2 → Sm → Sm
 | [], sm, f, args, n, hp => sm f args n hp
 | E :: l, sm, f, args, n, hp => match E with
   | ⟨g, r⟩ => cnd (Nat.beq g f) (match r args n hp with
     | .no => smO l sm f args n hp
     | x => x) (smO l sm f args n hp)
theorem smO_ok {P : Program} {m : Mu} {sm : Sm} (hsm : SmOk P sm m) : ∀ {l : List Ent2}, (∀ E ∈ l, Ent2Ok P m E) → SmOk P (smO l sm) m
 | [], _ => hsm
 | E :: l, hE => fun f args n hp v n' hp' h => by
   obtain ⟨g, r⟩ := E
   have tl := smO_ok hsm (fun E h => hE E (List.mem_cons_of_mem _ h))
   have h : cnd (Nat.beq g f) (match r args n hp with
    | .no => smO l sm f args n hp
    | x => x) (smO l sm f args n hp) = .ans v n' hp' := h
   rw [zaa] at h
   split at h
   ·rename_i hgf
    have hgf := zae hgf
    subst hgf
    split at h
    ·exact tl _ _ _ _ _ _ _ h
    ·obtain ⟨h1, h2⟩ := hE ⟨g, r⟩ List.mem_cons_self
     exact ⟨h1, fun B e w args' hem hl hw ha => h2 args n hp v n' hp' h B e w args' hem hl hw ha⟩
   ·exact tl _ _ _ _ _ _ _ h
theorem WR.made {P : Program} {B : Base} {e : Env} {n : Nat} {hp : Hp} {w w' : World} (h : WR P B e n hp w) (hn : n < 32767) (hb : Below w.heap.size w w') {r t : Nat} {o : AObj} {o' : Obj} (hr : w.heap.size ≤ r) (ho' : w'.heap[r]? = some o')
  (ho : RO P (e.add n r t) (n + 1) n o o') : WR P B (e.add n r t) (n + 1) (hp.set n o) w' := by
 have hlt : ∀ j, j < n → hp.get j ≠ .dead → e.β j < w.heap.size := fun j hj hlv => h.lt hj hlv
 refine h.add hn hb.os hb.tape hb.output hb.size ho' (fun j hj hlv => hb.block _ (hlt j hj hlv)) (fun j hj hlv => by have := hlt j hj hlv; omega) (.inl (Nat.le_trans h.size hr)) (fun q hq hno => ?_) ?_ (fun q o hq => ?_) ho
 ·rw [hb.block q (Nat.lt_of_lt_of_le hq h.size)]
 ·cases hk : e.m.K r with
  | none => rfl
  | some o2 =>
    have h1 := (Array.getElem?_eq_some_iff.1 (h.kp r o2 hk)).1
    omega
 ·have h1 := h.kp q o hq
  rw [hb.block q (Array.getElem?_eq_some_iff.1 h1).1]; exact h1
inductive EqR where
 | yes
 | no
 | ask (c : Value)
end Go.Gz
namespace Go.Gz
open Go Go.Gx Go.RowKit
end Go.Gz
namespace Go.Gz
open Go Go.Gx Go.RowKit
end Go.Gz
