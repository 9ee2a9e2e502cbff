/- The evaluator that the kernel runs: contracts of calls that look at blocks, or make them. -/
import Derived.Test.YtflipopanpdcnabGreatGzLin
namespace Go.Gz
open Go Go.Gx Go.RowKit
structure Ent2 where
 f : FuncId
 res : List Value → Nat → Hp → SmR
def Ent2Ok (P : Program) (m : Mu) (E : Ent2) : Prop :=
 (bodyOf P E.f).isSome = true ∧ ∀ (args : List Value) (n : Nat) (hp : Hp) (v : Value) (n' : Nat) (hp' : Hp), E.res args n hp = .ans v n' hp' →
  ∀ (B : Base) (e : Env) (w : World) (args' : List Value), e.m = m → B.lt = true → WR P B e n hp w → RL e n args args' →
    Calls P E.f args'.toArray w fun o w' => ∃ e' v', o = .returned v' ∧ Ext e n e' n' ∧ WR P B e' n' hp' w' ∧ RV e' n' v v'
noncomputable def smO : List Ent2 → Sm → Sm
 | [], sm, f, args, n, hp => sm f args n hp
 | E :: l, sm, f, args, n, hp => match E with
   | ⟨g, r⟩ => cnd (Nat.beq g f) (match r args n hp with
     | .no => smO l sm f args n hp
     | x => x) (smO l sm f args n hp)
theorem smO_ok {P : Program} {m : Mu} {sm : Sm} (hsm : SmOk P sm m) : ∀ {l : List Ent2}, (∀ E ∈ l, Ent2Ok P m E) → SmOk P (smO l sm) m
 | [], _ => hsm
 | E :: l, hE => fun f args n hp v n' hp' h => by
   obtain ⟨g, r⟩ := E
   have tl := smO_ok hsm (fun E h => hE E (List.mem_cons_of_mem _ h))
   have h : cnd (Nat.beq g f) (match r args n hp with
    | .no => smO l sm f args n hp
    | x => x) (smO l sm f args n hp) = .ans v n' hp' := h
   rw [zaa] at h
   split at h
   ·rename_i hgf
    have hgf := zad hgf
    subst hgf
    split at h
    ·exact tl _ _ _ _ _ _ _ h
    ·obtain ⟨h1, h2⟩ := hE ⟨g, r⟩ List.mem_cons_self
     exact ⟨h1, fun B e w args' hem hl hw ha => h2 args n hp v n' hp' h B e w args' hem hl hw ha⟩
   ·exact tl _ _ _ _ _ _ _ h
theorem WR.made {P : Program} {B : Base} {e : Env} {n : Nat} {hp : Hp} {w w' : World} (h : WR P B e n hp w) (hn : n < 32767) (hb : Below w.heap.size w w') {r t : Nat} {o : AObj} {o' : Obj} (hr : w.heap.size ≤ r) (ho' : w'.heap[r]? = some o')
  (ho : RO P (e.add n r t) (n + 1) n o o') : WR P B (e.add n r t) (n + 1) (hp.set n o) w' := by
 have hlt : ∀ j, j < n → hp.get j ≠ .dead → e.β j < w.heap.size := fun j hj hlv => h.lt hj hlv
 refine h.add hn hb.os hb.tape hb.output hb.size ho' (fun j hj hlv => hb.block _ (hlt j hj hlv)) (fun j hj hlv => by have := hlt j hj hlv; omega) (.inl (Nat.le_trans h.size hr)) (fun q hq hno => ?_) ?_ (fun q o hq => ?_) ho
 ·rw [hb.block q (Nat.lt_of_lt_of_le hq h.size)]
 ·cases hk : e.m.K r with
  | none => rfl
  | some o2 =>
    have h1 := (Array.getElem?_eq_some_iff.1 (h.kp r o2 hk)).1
    omega
 ·have h1 := h.kp q o hq
  rw [hb.block q (Array.getElem?_eq_some_iff.1 h1).1]; exact h1
inductive EqR where
 | yes
 | no
 | ask (c : Value)
noncomputable def eqPut (hp : Hp) : Nat → Value → Value → EqR :=
 @Nat.rec (fun _ => Value → Value → EqR) (fun _ _ => .no) (fun _ rec u v => cnd (veq 1000 u v) .yes (match u with
  | .func (.methodOf op _) ⟨[u1, i, x]⟩ _ => (match v with
    | .func (.methodOf op' _) ⟨[v1, j, y]⟩ _ => cnd (Nat.beq op 829 && Nat.beq op' 829) (match ixEq hp i j with
      | some b => cnd b (cnd (veq 1000 x y) (rec u1 v1) (match decH hp (sy (opc 16 8) [x, y]) with
        | some b => cnd b (rec u1 v1) .no
        | none => .ask (sy (opc 16 8) [x, y]))) .no
      | none => .ask (sy (opc 16 8) [i, j])) .no
    | _ => .no)
  | _ => .no))
theorem eqPut_succ {hp : Hp} {k : Nat} (u v : Value) : eqPut hp (k + 1) u v = cnd (veq 1000 u v) .yes (match u with
 | .func (.methodOf op _) ⟨[u1, i, x]⟩ _ => (match v with
   | .func (.methodOf op' _) ⟨[v1, j, y]⟩ _ => cnd (Nat.beq op 829 && Nat.beq op' 829) (match ixEq hp i j with
     | some b => cnd b (cnd (veq 1000 x y) (eqPut hp k u1 v1) (match decH hp (sy (opc 16 8) [x, y]) with
       | some b => cnd b (eqPut hp k u1 v1) .no
       | none => .ask (sy (opc 16 8) [x, y]))) .no
     | none => .ask (sy (opc 16 8) [i, j])) .no
   | _ => .no)
 | _ => .no) := rfl
theorem eqPut_ok {hp : Hp} {m : Mu} (hd : ∀ c b, decH hp c = some b → den m c = some (.bool b)) : ∀ (k : Nat) {u v : Value} {l l' : List Value}, eqPut hp k u v = .yes → den m u = some (.agg ⟨l⟩) → den m v = some (.agg ⟨l'⟩) → l = l'
 | 0, u, v, l, l', h, _, _ => by cases h
 | k + 1, u, v, l, l', h, hu, hv => by
   rw [eqPut_succ] at h
   rw [zaa] at h
   split at h
   ·rename_i he
    rw [veq_eq _ _ _ he, hv] at hu
    cases hu; rfl
   ·split at h
    ·rename_i op nm u1 i x c hne
     split at h
     ·rename_i op' nm' v1 j y c'
      rw [zaa] at h
      split at h
      ·rename_i hck
       obtain ⟨h1, h2⟩ := zae hck
       rw [zad h1, den_any] at hu
       rw [zad h2, den_any] at hv
       obtain ⟨lu, k1, q1, x1, a1, a2, a3, _, rfl⟩ := put_inv hu
       obtain ⟨lv, k2, q2, y1, b1, b2, b3, _, rfl⟩ := put_inv hv
       split at h
       rotate_left
       ·cases h
       rename_i bi hbi
       rw [zaa] at h
       split at h
       rotate_left
       ·cases h
       rename_i hbt
       subst hbt
       have hq : q1 = q2 := by
        have := of_decide_eq_true (ixEq_ok hd a2 b2 hbi).symm
        omega
       subst hq
       have fin : eqPut hp k u1 v1 = .yes → x1 = y1 → lu.set q1 x1 = lv.set q1 y1 := fun g1 g2 => by
        rw [eqPut_ok hd k g1 a1 b1, g2]
       rw [zaa] at h
       split at h
       ·rename_i hxy
        rw [veq_eq _ _ _ hxy, b3] at a3
        cases a3
        exact fin h rfl
       ·split at h
        ·rename_i b hb
         rw [zaa] at h
         split at h
         ·rename_i hbt
          subst hbt
          have := hd _ _ hb
          rw [show sy (opc 16 8) [x, y] = .func (.methodOf 264 "") ⟨[x, y]⟩ #[] from rfl, zau (by decide) a3 b3] at this
          exact fin h (leaf_eq (itp_eq this))
         ·cases h
        ·cases h
      ·cases h
     ·cases h
    ·cases h
end Go.Gz
