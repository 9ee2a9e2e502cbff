/- The evaluator that the kernel runs: contracts of calls that look at blocks, or make them. -/
import Derived.Test.YteglommbdpaokaaGreatGzLin
import Derived.Test.YteglommbdpaokaaGreatGzRow
import Derived.Test.YteglommbdpaokaaGreatGzRl
namespace Go.Gz
open Go Go.Gx Go.RowKit
structure Ent2 where
 f : FuncId
 res : List Value → Nat → Hp → SmR
def Ent2Ok (P : Program) (m : Mu) (E : Ent2) : Prop :=
 (bodyOf P E.f).isSome = true ∧ ∀ (args : List Value) (n : Nat) (hp : Hp) (v : Value) (n' : Nat) (hp' : Hp), E.res args n hp = .ans v n' hp' →
  ∀ (B : Base) (e : Env) (w : World) (args' : List Value), e.m = m → B.lt = true → WR P B e n hp w → RL e n args args' →
    Calls P E.f args'.toArray w fun o w' => ∃ e' v', o = .returned v' ∧ Ext e n e' n' ∧ WR P B e' n' hp' w' ∧ RV e' n' v v'
noncomputable def smO : List Ent2 → Sm → Sm
 | [], sm, f, args, n, hp => sm f args n hp
 | E :: l, sm, f, args, n, hp => match E with
   | ⟨g, r⟩ => cnd (Nat.beq g f) (match r args n hp with
     | .no => smO l sm f args n hp
     | x => x) (smO l sm f args n hp)
theorem smO_ok {P : Program} {m : Mu} {sm : Sm} (hsm : SmOk P sm m) : ∀ {l : List Ent2}, (∀ E ∈ l, Ent2Ok P m E) → SmOk P (smO l sm) m
 | [], _ => hsm
 | E :: l, hE => fun f args n hp v n' hp' h => by
   obtain ⟨g, r⟩ := E
   have tl := smO_ok hsm (fun E h => hE E (List.mem_cons_of_mem _ h))
   have h : cnd (Nat.beq g f) (match r args n hp with
    | .no => smO l sm f args n hp
    | x => x) (smO l sm f args n hp) = .ans v n' hp' := h
   rw [zaa] at h
   split at h
   ·rename_i hgf
    have hgf := zad hgf
    subst hgf
    split at h
    ·exact tl _ _ _ _ _ _ _ h
    ·obtain ⟨h1, h2⟩ := hE ⟨g, r⟩ List.mem_cons_self
     exact ⟨h1, fun B e w args' hem hl hw ha => h2 args n hp v n' hp' h B e w args' hem hl hw ha⟩
   ·exact tl _ _ _ _ _ _ _ h
theorem WR.made {P : Program} {B : Base} {e : Env} {n : Nat} {hp : Hp} {w w' : World} (h : WR P B e n hp w) (hn : n < 32767) (hb : Below w.heap.size w w') {r t : Nat} {o : AObj} {o' : Obj} (hr : w.heap.size ≤ r) (ho' : w'.heap[r]? = some o')
  (ho : RO P (e.add n r t) (n + 1) n o o') : WR P B (e.add n r t) (n + 1) (hp.set n o) w' := by
 have hlt : ∀ j, j < n → hp.get j ≠ .dead → e.β j < w.heap.size := fun j hj hlv => h.lt hj hlv
 refine h.add hn hb.os hb.tape hb.output hb.size ho' (fun j hj hlv => hb.block _ (hlt j hj hlv)) (fun j hj hlv => by have := hlt j hj hlv; omega) (.inl (Nat.le_trans h.size hr)) (fun q hq hno => ?_) ?_ (fun q o hq => ?_) ho
 ·rw [hb.block q (Nat.lt_of_lt_of_le hq h.size)]
 ·cases hk : e.m.K r with
  | none => rfl
  | some o2 =>
    have h1 := (Array.getElem?_eq_some_iff.1 (h.kp r o2 hk)).1
    omega
 ·have h1 := h.kp q o hq
  rw [hb.block q (Array.getElem?_eq_some_iff.1 h1).1]; exact h1
inductive EqR where
 | yes
 | no
 | ask (c : Value)
noncomputable def eqPut (hp : Hp) : Nat → Value → Value → EqR :=
 @Nat.rec (fun _ => Value → Value → EqR) (fun _ _ => .no) (fun _ rec u v => cnd (veq 1000 u v) .yes (match u with
  | .func (.methodOf op _) ⟨[u1, i, x]⟩ _ => (match v with
    | .func (.methodOf op' _) ⟨[v1, j, y]⟩ _ => cnd (Nat.beq op 829 && Nat.beq op' 829) (match ixEq hp i j with
      | some b => cnd b (cnd (veq 1000 x y) (rec u1 v1) (match decH hp (sy (opc 16 8) [x, y]) with
        | some b => cnd b (rec u1 v1) .no
        | none => .ask (sy (opc 16 8) [x, y]))) .no
      | none => .ask (sy (opc 16 8) [i, j])) .no
    | _ => .no)
  | _ => .no))
theorem eqPut_succ {hp : Hp} {k : Nat} (u v : Value) : eqPut hp (k + 1) u v = cnd (veq 1000 u v) .yes (match u with
 | .func (.methodOf op _) ⟨[u1, i, x]⟩ _ => (match v with
   | .func (.methodOf op' _) ⟨[v1, j, y]⟩ _ => cnd (Nat.beq op 829 && Nat.beq op' 829) (match ixEq hp i j with
     | some b => cnd b (cnd (veq 1000 x y) (eqPut hp k u1 v1) (match decH hp (sy (opc 16 8) [x, y]) with
       | some b => cnd b (eqPut hp k u1 v1) .no
       | none => .ask (sy (opc 16 8) [x, y]))) .no
     | none => .ask (sy (opc 16 8) [i, j])) .no
   | _ => .no)
 | _ => .no) := rfl
theorem eqPut_ok {hp : Hp} {m : Mu} (hd : ∀ c b, decH hp c = some b → den m c = some (.bool b)) : ∀ (k : Nat) {u v : Value} {l l' : List Value}, eqPut hp k u v = .yes → den m u = some (.agg ⟨l⟩) → den m v = some (.agg ⟨l'⟩) → l = l'
 | 0, u, v, l, l', h, _, _ => by cases h
 | k + 1, u, v, l, l', h, hu, hv => by
   rw [eqPut_succ] at h
   rw [zaa] at h
   split at h
   ·rename_i he
    rw [veq_eq _ _ _ he, hv] at hu
    cases hu; rfl
   ·split at h
    ·rename_i op nm u1 i x c hne
     split at h
     ·rename_i op' nm' v1 j y c'
      rw [zaa] at h
      split at h
      ·rename_i hck
       obtain ⟨h1, h2⟩ := zac hck
       rw [zad h1, den_any] at hu
       rw [zad h2, den_any] at hv
       obtain ⟨lu, k1, q1, x1, a1, a2, a3, _, rfl⟩ := put_inv hu
       obtain ⟨lv, k2, q2, y1, b1, b2, b3, _, rfl⟩ := put_inv hv
       split at h
       rotate_left
       ·cases h
       rename_i bi hbi
       rw [zaa] at h
       split at h
       rotate_left
       ·cases h
       rename_i hbt
       subst hbt
       have hq : q1 = q2 := by
        have := of_decide_eq_true (ixEq_ok hd a2 b2 hbi).symm
        omega
       subst hq
       have fin : eqPut hp k u1 v1 = .yes → x1 = y1 → lu.set q1 x1 = lv.set q1 y1 := fun g1 g2 => by
        rw [eqPut_ok hd k g1 a1 b1, g2]
       rw [zaa] at h
       split at h
       ·rename_i hxy
        rw [veq_eq _ _ _ hxy, b3] at a3
        cases a3
        exact fin h rfl
       ·split at h
        ·rename_i b hb
         rw [zaa] at h
         split at h
         ·rename_i hbt
          subst hbt
          have := hd _ _ hb
          rw [show sy (opc 16 8) [x, y] = .func (.methodOf 264 "") ⟨[x, y]⟩ #[] from rfl, zau (by decide) a3 b3] at this
          exact fin h (leaf_eq (itp_eq this))
         ·cases h
        ·cases h
      ·cases h
     ·cases h
    ·cases h
end Go.Gz
namespace Go.Gz
open Go Go.Gx Go.RowKit
theorem make_run {P : Program} (hP : Small P) {w : World} {t et : TypeId} {x y : TI} {z0 : Value} {i1 : TypeInfo} (ht : ti P t = some x) (hk : x.kd = .sl 1 et) (hy : ti P et = some y) (hz0 : y.zero = [z0]) (hi1 : infoT P et = some i1) (hb : i1.bytes ≤ 512) {q : Nat} (hq : q ≤ 1048576) :
  (Instr.makeSlice t (.int .i64 q) (.int .i64 q)).run P w = .ok (.slice (some ⟨w.heap.size, 0, none⟩) q q) { w with heap := w.heap.push (.cells (List.replicate q z0).toArray et) } := by
 obtain ⟨sz, ag, z, kd⟩ := x
 simp only at hk
 subst hk
 obtain ⟨i, dd, zz, hi, hd, hz, _, _, _, rfl, hel2, hall⟩ := zai (zam hP ht)
 obtain ⟨z3, i2, hi2, hs2, hz3, hzs, hrep⟩ := zero_run hP (w := w) hy hall hel2.symm (by decide) (by rw [hz0]; rfl)
 have hi1' := infoT_info hP hi1
 rw [hi1'] at hi2
 cases hi2
 have hmul : i1.bytes * q ≤ 512 * 1048576 := Nat.mul_le_mul hb hq
 have hrun := makeSlice_run (P := P) (w := w) (k1 := .i64) (k2 := .i64) (c' := (rep y.zero q).toArray) hd hi1' hz3 hq (Nat.le_refl q) (by omega) (fun _ => by rw [hs2]; exact hrep q) (fun h => by
  rw [hs2] at h
  have : q = 0 := by omega
  subst this; simp [rep])
 rw [hrun, hz0, rep_one]
noncomputable def isOneZ (l : List Value) (z : Value) : Bool :=
 match l with
 | [u] => veq 50 u z
 | _ => false
noncomputable def mkB (P : Program) (t et : TypeId) (z : Value) : Bool :=
 match ti P t with
 | some ⟨_, _, _, kd⟩ => (match kd with
   | .sl e et' => Nat.beq e 1 && (Nat.beq et' et && (match ti P et with
     | some ⟨_, _, zs, _⟩ => isOneZ zs z && (match infoT P et with
       | some i => Nat.ble i.bytes 512
       | none => false)
     | none => false))
   | _ => false)
 | none => false
theorem make_runB {P : Program} (hP : Small P) {w : World} {t et : TypeId} {z0 : Value} (h : mkB P t et z0 = true) {q : Nat} (hq : q ≤ 1048576) :
  (Instr.makeSlice t (.int .i64 q) (.int .i64 q)).run P w = .ok (.slice (some ⟨w.heap.size, 0, none⟩) q q) { w with heap := w.heap.push (.cells (List.replicate q z0).toArray et) } := by
 unfold mkB at h
 split at h
 ·rename_i a b c kd hti
  split at h
  ·rename_i e et'
   obtain ⟨h1, g1⟩ := zac h
   obtain ⟨h2, g2⟩ := zac g1
   clear g1 h
   have h1 := zad h1
   have h2 := zad h2
   subst h1 h2
   split at g2
   ·rename_i a2 b2 zs kd2 hy
    obtain ⟨h3, g3⟩ := zac g2
    clear g2
    split at g3
    ·rename_i i hi
     have hz : zs = [z0] := by
      unfold isOneZ at h3
      split at h3
      ·rw [veq_eq _ _ _ h3]
      ·cases h3
     exact make_run hP hti rfl hy hz hi (zaw g3) hq
    ·cases g3
   ·cases g2
  ·cases h
 ·cases h
end Go.Gz
namespace Go.Gz
open Go Go.Gx Go.RowKit
abbrev Subs := List (Value × Value)
noncomputable def findS (v : Value) : Subs → Option Value
 | [] => none
 | x :: l => match x with
   | ⟨a, b⟩ => cnd (veq 100 a v) (some b) (findS v l)
noncomputable def mapV (f : Value → Value) : List Value → List Value
 | [] => []
 | v :: l => f v :: mapV f l
noncomputable def putS (S : Subs) : Nat → Value → Value :=
 @Nat.rec (fun _ => Value → Value) (fun v => v) (fun _ rec v => match findS v S with
  | some b => b
  | none => match v with
    | .func (.methodOf op nm) ⟨a⟩ c => .func (.methodOf op nm) ⟨mapV rec a⟩ c
    | .agg ⟨a⟩ => .agg ⟨mapV rec a⟩
    | v => v)
noncomputable def putF (S : Subs) : Facts → Facts
 | [] => []
 | x :: l => match x with
   | ⟨c, b⟩ => (putS S 60 c, b) :: putF S l
noncomputable def putM (find : Facts → Subs) (d : Facts → Value → Option Bool) (Γ : Facts) (c : Value) : Option Bool :=
 match find Γ with
 | [] => none
 | x :: l => d (putF (x :: l) Γ ++ Γ) (putS (x :: l) 60 c)
def SubsOk (m : Mu) (S : Subs) : Prop := ∀ x ∈ S, den m x.2 = den m x.1
theorem findS_ok {m : Mu} {S : Subs} (hS : SubsOk m S) {v b : Value} (h : findS v S = some b) : den m b = den m v := by
 induction S with
 | nil => cases h
 | cons x l ih =>
   obtain ⟨a, b'⟩ := x
   replace h : cnd (veq 100 a v) (some b') (findS v l) = some b := h
   rw [zaa] at h
   split at h
   ·rename_i he
    have he := veq_eq _ _ _ he
    subst he
    cases h
    exact hS _ List.mem_cons_self
   ·exact ih (fun y hy => hS y (List.mem_cons_of_mem _ hy)) h
theorem mapV_den {m : Mu} {f : Value → Value} (hf : ∀ v, den m (f v) = den m v) : ∀ l, denL m (mapV f l) = denL m l
 | [] => rfl
 | v :: l => by
   show denL m (f v :: mapV f l) = _
   rw [denL, denL, hf, mapV_den hf l]
theorem putS_den {m : Mu} {S : Subs} (hS : SubsOk m S) : ∀ (n : Nat) (v : Value), den m (putS S n v) = den m v
 | 0, v => rfl
 | n + 1, v => by
   have ih := putS_den hS n
   show den m (match findS v S with
   | some b => b
   | none => match v with
     | .func (.methodOf op nm) ⟨a⟩ c => .func (.methodOf op nm) ⟨mapV (putS S n) a⟩ c
     | .agg ⟨a⟩ => .agg ⟨mapV (putS S n) a⟩
     | v => v) = _
   split
   ·rename_i b h
    exact findS_ok hS h
   ·split
    ·rw [den, den, denA, denA, mapV_den ih]
    ·rw [den, den, denA, denA, mapV_den ih]
    ·rfl
theorem putF_ok {m : Mu} {S : Subs} (hS : SubsOk m S) : ∀ {Γ : Facts}, Holds m Γ → Holds m (putF S Γ)
 | [], _ => fun c b h => by cases h
 | (c, b) :: Γ, h => fun c' b' hc => by
   rcases List.mem_cons.1 (show (c', b') ∈ (putS S 60 c, b) :: putF S Γ from hc) with he | hc
   ·cases he
    rw [putS_den hS]
    exact h c b List.mem_cons_self
   ·exact putF_ok hS (fun c b hc => h c b (List.mem_cons_of_mem _ hc)) c' b' hc
theorem putM_ok {m : Mu} {find : Facts → Subs} (hf : ∀ Γ, Holds m Γ → SubsOk m (find Γ)) {d : Facts → Value → Option Bool} (hd : MkOk m d) : MkOk m (putM find d) := by
 intro Γ hΓ c b h
 have hS := hf Γ hΓ
 unfold putM at h
 split at h
 ·cases h
 ·rename_i x l he
  rw [he] at hS
  rw [← putS_den hS 60 c]
  refine hd _ (fun c b hc => ?_) _ _ h
  rcases List.mem_append.1 hc with hc | hc
  ·exact putF_ok hS hΓ c b hc
  ·exact hΓ c b hc
end Go.Gz
