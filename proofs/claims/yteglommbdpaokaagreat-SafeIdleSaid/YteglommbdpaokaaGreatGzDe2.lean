/- The evaluator that the kernel runs: what follows from facts: constants that terms are told to be, bounds of numbers. -/
import Derived.Test.YteglommbdpaokaaGreatGzDec
namespace Go.Gz
open Go Go.Gx Go.RowKit
noncomputable def isK (v : Value) : Bool :=
 match v with
 | .int _ _ => true
 | .bool _ => true
 | .string _ => true
 | _ => false
theorem isK_den {m : Mu} {v : Value} (h : isK v = true) : den m v = some v := by
 cases v with
 | int k n => rw [den]
 | bool b => rw [den]
 | string s => rw [den]
 | _ => cases h
noncomputable def kOf (t u k : Value) (y : Option Value) : Option Value := cnd (isK k && veq 1000 u t) (some k) (cnd (isK u && veq 1000 k t) (some u) y)
noncomputable def toldK1 (t c : Value) (b : Bool) (y : Option Value) : Option Value :=
 match c with
 | .func (.methodOf op _) ⟨[u, k]⟩ _ => cnd (cnd b (Nat.beq op 264) (Nat.beq op 280)) (kOf t u k y) y
 | _ => y
noncomputable def toldK (t : Value) (Γ : Facts) : Option Value :=
 @List.rec (Value × Bool) (fun _ => Option Value) none (fun x _ ih => match x with
  | ⟨c, b⟩ => toldK1 t c b ih) Γ
noncomputable def binC (op : Nat) (u v : Value) : Option Value :=
 match codeBin (Nat.div op 16) with
 | some o => match zag o u v with
   | some r => cnd (srtA (Nat.mod op 16) r) (some r) none
   | none => none
 | none => none
noncomputable def unC (op : Nat) (u : Value) : Option Value :=
 match stdI ⟨fun _ _ => undef, fun _ => none⟩ (cnd (Nat.ble 18 (Nat.div op 16) && Nat.ble (Nat.div op 16) 20) (Nat.div op 16) 0) (Nat.mod op 16) [u] with
 | some r => cnd (srtA (Nat.mod op 16) r) (some r) none
 | none => none
noncomputable def orV (o : Option Value) (r : Option Value) : Option Value :=
 match o with
 | some v => some v
 | none => r
noncomputable def bV (o : Option Bool) : Option Value :=
 match o with
 | some b => some (.bool b)
 | none => none
noncomputable def evOp (rec : Value → Option Value) (op : Nat) (l : List Value) : Option Value :=
 match l with
 | [x] => match rec x with
   | some u => unC op u
   | none => none
 | [x, y] => match rec x with
   | some u => match rec y with
     | some v => binC op u v
     | none => none
   | none => none
 | _ => none
noncomputable def evT (Γ : Facts) : Nat → Value → Option Value :=
 @Nat.rec (fun _ => Value → Option Value) (fun _ => none) (fun _ rec t => match t with
  | .func (.methodOf op nm) a c => orV (toldK (.func (.methodOf op nm) a c) Γ) (orV (bV (seekN Γ (.func (.methodOf op nm) a c))) (evOp rec op a.toList))
  | t => cnd (isK t) (some t) none)
noncomputable def cvM (Γ : Facts) (c : Value) : Option Bool :=
 match evT Γ 20 c with
 | some v => match v with
   | .bool b => some b
   | _ => none
 | none => none
section
variable {m : Mu} {Γ : Facts}
theorem told_ok {u k : Value} {b : Bool} {nm : String} {c : Array Value} {op : Nat} (ho : cnd b (Nat.beq op 264) (Nat.beq op 280) = true) (h : den m (.func (.methodOf op nm) ⟨[u, k]⟩ c) = some (.bool b)) : ∃ v, den m u = some v ∧ den m k = some v := by
 cases b with
 | true =>
   have := zad (show Nat.beq op 264 = true from ho)
   subst this
   obtain ⟨vx, vy, h1, h2, h3⟩ := den_2I (by decide) h
   have := leaf_eq (itp_ofI (.inl ⟨rfl, rfl⟩) h3)
   subst this
   exact ⟨vx, h1, h2⟩
 | false =>
   have := zad (show Nat.beq op 280 = true from ho)
   subst this
   obtain ⟨vx, vy, h1, h2, h3⟩ := den_2I (by decide) h
   have := leaf_eq (leaf_cmpI (.inr rfl) (itp_ofI (.inr ⟨rfl, rfl⟩) h3)).1
   subst this
   exact ⟨vx, h1, h2⟩
theorem toldK_ok : ∀ {Γ : Facts} {t k : Value}, Holds m Γ → toldK t Γ = some k → den m t = some k
 | [], t, k, _, h => by cases h
 | (c, b) :: Γ, t, k, hΓ, h => by
   have tl : toldK t Γ = some k → den m t = some k := toldK_ok (fun c b h => hΓ c b (List.mem_cons_of_mem _ h))
   have h : toldK1 t c b (toldK t Γ) = some k := h
   have hc := hΓ _ _ List.mem_cons_self
   generalize toldK t Γ = y at h tl
   unfold toldK1 at h
   split at h
   ·rename_i op nm u k' c' _
    rw [zaa] at h
    split at h
    ·rename_i ho
     obtain ⟨v, g1, g2⟩ := told_ok ho hc
     unfold kOf at h
     rw [zaa] at h
     split at h
     ·rename_i hk
      obtain ⟨k1, k2⟩ := zac hk
      cases h
      have := veq_eq _ _ _ k2
      subst this
      rw [isK_den k1] at g2
      cases g2; exact g1
     ·rw [zaa] at h
      split at h
      ·rename_i hk
       obtain ⟨k1, k2⟩ := zac hk
       cases h
       have := veq_eq _ _ _ k2
       subst this
       rw [isK_den k1] at g1
       cases g1; exact g2
      ·exact tl h
    ·exact tl h
   ·exact tl h
theorem binC_ok {op : Nat} {u v r : Value} (h : binC op u v = some r) : itp m op [u, v] = some r ∧ ¬ op = 1016 := by
 unfold binC at h
 split at h
 ·rename_i o ho
  have hcode := ho
  split at h
  ·rename_i q hq
   rw [zaa] at h
   split at h
   ·rename_i hs
    cases h
    have hc : Nat.div op 16 = op / 16 := rfl
    rw [hc] at ho
    have h17 : op / 16 ≤ 17 := by
     rcases Nat.lt_or_ge 17 (op / 16) with h | h
     ·exfalso
      have : codeBin (op / 16) = none := by
       generalize op / 16 = c at h
       match c, h with
       | c + 18, _ => rfl
      rw [this] at ho; cases ho
     ·exact h
    refine ⟨?_, by omega⟩
    unfold itp
    rw [if_pos (by omega)]
    unfold stdI
    simp only [ho, hq]
    rw [if_neg (by omega), if_neg (by omega), if_neg (by omega), if_neg (by omega), if_neg (by omega), if_neg (by omega), if_neg (by omega), if_neg (by omega)]
    exact if_pos hs
   ·cases h
  ·cases h
 ·cases h
theorem unC_ok {op : Nat} {u r : Value} (h : unC op u = some r) : itp m op [u] = some r ∧ ¬ op = 1016 := by
 unfold unC at h
 rw [zaa] at h
 split at h
 ·rename_i q hq
  rw [zaa] at h
  split at h
  ·rename_i hs
   cases h
   split at hq
   ·rename_i hr
    obtain ⟨r1, r2⟩ := zac hr
    have r1 := zaw r1
    have r2 := zaw r2
    have hc : Nat.div op 16 = op / 16 := rfl
    rw [hc] at r1 r2 hq
    refine ⟨?_, by omega⟩
    unfold itp
    rw [if_pos (by omega)]
    have e : stdI m (op / 16) (op % 16) [u] = some r := by
     have hq : stdI ⟨fun _ _ => undef, fun _ => none⟩ (op / 16) (op % 16) [u] = some r := hq
     unfold stdI at hq ⊢
     simp only at hq ⊢
     split
     ·rename_i h18; rw [if_pos h18] at hq; exact hq
     ·rename_i h18
      rw [if_neg h18] at hq
      split
      ·rename_i h19; rw [if_pos h19] at hq; exact hq
      ·rename_i h19
       rw [if_neg h19] at hq
       split
       ·rename_i h20; rw [if_pos h20] at hq; exact hq
       ·omega
    rw [e]
    exact if_pos hs
   ·have : ∀ (m : Mu) (s : Nat) (u : Value), stdI m 0 s [u] = none := fun m s u => rfl
    rw [this] at hq; cases hq
  ·cases h
 ·cases h
theorem orV_I {o r : Option Value} {v : Value} (h : orV o r = some v) : o = some v ∨ r = some v := by
 unfold orV at h
 split at h
 ·left; exact h
 ·right; exact h
theorem evT_ok (hΓ : Holds m Γ) : ∀ (d : Nat) (t v : Value), evT Γ d t = some v → den m t = some v
 | 0, _, _, h => by cases h
 | d + 1, t, v, h => by
   have hconst : evT Γ (d + 1) t = cnd (isK t) (some t) none → den m t = some v := fun e => by
    rw [e, zaa] at h
    split at h
    ·rename_i hk; cases h; exact isK_den hk
    ·cases h
   cases t with
   | func fn a c =>
     cases fn with
     | methodOf op nm =>
       have h : orV (toldK (.func (.methodOf op nm) a c) Γ) (orV (bV (seekN Γ (.func (.methodOf op nm) a c))) (evOp (evT Γ d) op a.toList)) = some v := h
       rcases orV_I h with h | h
       ·exact toldK_ok hΓ h
       ·rcases orV_I h with h | h
        ·unfold bV at h
         split at h
         ·rename_i b hb; cases h; exact seekN_den hΓ hb
         ·cases h
        ·obtain ⟨l⟩ := a
         have h : evOp (evT Γ d) op l = some v := h
         match l, h with
         | [x], h =>
           have h : (match evT Γ d x with
            | some u => unC op u
            | none => none) = some v := h
           split at h
           ·rename_i u hu
            have hx := evT_ok hΓ d x u hu
            obtain ⟨g1, g2⟩ := unC_ok (m := m) h
            rw [den_1 g2 hx]; exact g1
           ·cases h
         | [x, y], h =>
           have h : (match evT Γ d x with
            | some u => (match evT Γ d y with
              | some v => binC op u v
              | none => none)
            | none => none) = some v := h
           split at h
           ·rename_i u hu
            split at h
            ·rename_i w hw
             have hx := evT_ok hΓ d x u hu
             have hy := evT_ok hΓ d y w hw
             obtain ⟨g1, g2⟩ := binC_ok (m := m) h
             rw [zau g2 hx hy]; exact g1
            ·cases h
           ·cases h
     | _ => exact hconst rfl
   | _ => exact hconst rfl
end
theorem cvM_ok (m : Mu) : MkOk m cvM := by
 intro Γ hΓ c b h
 unfold cvM at h
 split at h
 ·rename_i v hv
  split at h
  ·cases h; exact evT_ok hΓ _ _ _ hv
  ·cases h
 ·cases h
noncomputable def negC (c : Nat) : Nat :=
 match c with
 | 12 => 15 | 13 => 14 | 14 => 13 | 15 => 12 | 16 => 17 | 17 => 16 | _ => 0
noncomputable def swapC (c : Nat) : Nat :=
 match c with
 | 12 => 14 | 13 => 15 | 14 => 12 | 15 => 13 | 16 => 16 | 17 => 17 | _ => 0
def relN (c : Nat) (a n : Int) : Prop :=
 match c with
 | 12 => a < n | 13 => a ≤ n | 14 => a > n | 15 => a ≥ n | 16 => a = n | 17 => a ≠ n | _ => True
structure Bnd where
 lo : Option Int
 hi : Option Int
noncomputable def maxO (o : Option Int) (n : Int) : Option Int :=
 match o with
 | some k => some (cnd (decide (k < n)) n k)
 | none => some n
noncomputable def minO (o : Option Int) (n : Int) : Option Int :=
 match o with
 | some k => some (cnd (decide (n < k)) n k)
 | none => some n
noncomputable def isO (o : Option Int) (n : Int) : Bool :=
 match o with
 | some k => decide (k = n)
 | none => false
noncomputable def bdUp (c : Nat) (n : Int) (d : Bnd) : Bnd :=
 match d with
 | ⟨lo, hi⟩ => match c with
   | 12 => ⟨lo, minO hi (n - 1)⟩
   | 13 => ⟨lo, minO hi n⟩
   | 14 => ⟨maxO lo (n + 1), hi⟩
   | 15 => ⟨maxO lo n, hi⟩
   | 16 => ⟨maxO lo n, minO hi n⟩
   | 17 => ⟨cnd (isO lo n) (some (n + 1)) lo, cnd (isO hi n) (some (n - 1)) hi⟩
   | _ => ⟨lo, hi⟩
structure Rl where
 c : Nat
 n : Int
noncomputable def relK (t u k : Value) (c : Nat) : Option Rl :=
 match k with
 | .int _ n => cnd (veq 1000 u t) (some ⟨c, n⟩) none
 | _ => none
noncomputable def orR (o : Option Rl) (r : Option Rl) : Option Rl :=
 match o with
 | some v => some v
 | none => r
noncomputable def relF (t c : Value) (b : Bool) : Option Rl :=
 match c with
 | .func (.methodOf op _) ⟨[u, k]⟩ _ => cnd (Nat.beq (Nat.mod op 16) 8 && (Nat.ble 12 (Nat.div op 16) && Nat.ble (Nat.div op 16) 17))
   (orR (relK t u k (cnd b (Nat.div op 16) (negC (Nat.div op 16)))) (relK t k u (cnd b (swapC (Nat.div op 16)) (negC (swapC (Nat.div op 16)))))) none
 | _ => none
noncomputable def bdF (t : Value) (d : Bnd) (x : Value × Bool) : Bnd :=
 match x with
 | ⟨c, b⟩ => match relF t c b with
   | some r => match r with
     | ⟨c, n⟩ => bdUp c n d
   | none => d
noncomputable def bdGo (t : Value) : Facts → Bnd → Bnd
 | [], d => d
 | x :: l, d => bdF t (bdGo t l d) x
noncomputable def bdN (t : Value) (Γ : Facts) : Nat → Bnd → Bnd
 | 0, d => d
 | k + 1, d => bdN t Γ k (bdGo t Γ d)
noncomputable def bdOf (t : Value) (Γ : Facts) : Bnd := match bdGo t Γ ⟨none, none⟩ with
 | ⟨lo, hi⟩ => match lo with
   | none => match hi with
     | none => ⟨none, none⟩
     | hi => bdN t Γ 1 ⟨none, hi⟩
   | lo => bdN t Γ 1 ⟨lo, hi⟩
noncomputable def ltO (o : Option Int) (n : Int) : Bool :=
 match o with
 | some k => decide (k < n)
 | none => false
noncomputable def gtO (o : Option Int) (n : Int) : Bool :=
 match o with
 | some k => decide (n < k)
 | none => false
noncomputable def neF (t : Value) (n : Int) : Facts → Bool
 | [] => false
 | x :: l => match x with
   | ⟨c, b⟩ => match relF t c b with
     | some r => match r with
       | ⟨c, k⟩ => cnd (Nat.beq c 17 && decide (k = n)) true (neF t n l)
     | none => neF t n l
noncomputable def bdDec (d : Bnd) (ne : Bool) (c : Nat) (n : Int) : Option Bool :=
 match d with
 | ⟨lo, hi⟩ => match c with
   | 12 => cnd (ltO hi n) (some true) (cnd (gtO lo (n - 1)) (some false) none)
   | 13 => cnd (ltO hi (n + 1)) (some true) (cnd (gtO lo n) (some false) none)
   | 14 => cnd (gtO lo n) (some true) (cnd (ltO hi (n + 1)) (some false) none)
   | 15 => cnd (gtO lo (n - 1)) (some true) (cnd (ltO hi n) (some false) none)
   | 16 => cnd (ltO hi n || (gtO lo n || ne)) (some false) (cnd (isO lo n && isO hi n) (some true) none)
   | 17 => cnd (ltO hi n || (gtO lo n || ne)) (some true) (cnd (isO lo n && isO hi n) (some false) none)
   | _ => none
noncomputable def bdT (Γ : Facts) (c : Nat) (u k : Value) : Option Bool :=
 match k with
 | .int kd n => match sortOf u with
   | some s => cnd (isSy u && Nat.beq s (kCode kd)) (bdDec (bdOf u Γ) (neF u n Γ) c n) none
   | none => none
 | _ => none
noncomputable def orB (o : Option Bool) (r : Option Bool) : Option Bool :=
 match o with
 | some v => some v
 | none => r
noncomputable def bdM (Γ : Facts) (c : Value) : Option Bool :=
 match c with
 | .func (.methodOf op _) ⟨[u, k]⟩ _ => cnd (Nat.beq (Nat.mod op 16) 8 && (Nat.ble 12 (Nat.div op 16) && Nat.ble (Nat.div op 16) 17))
   (orB (bdT Γ (Nat.div op 16) u k) (bdT Γ (swapC (Nat.div op 16)) k u)) none
 | _ => none
theorem code6 {c : Nat} (h : 12 ≤ c ∧ c ≤ 17) : c = 12 ∨ c = 13 ∨ c = 14 ∨ c = 15 ∨ c = 16 ∨ c = 17 := by omega
theorem cmp_rel {c : Nat} (h : 12 ≤ c ∧ c ≤ 17) {k k' : IntKind} {a n : Int} {m : Mu} {b : Bool} (hi : itp m (16 * c + 8) [.int k a, .int k' n] = some (.bool b)) : relN (if b = true then c else negC c) a n := by
 have e1 : (16 * c + 8) / 16 = c := by omega
 have e2 : (16 * c + 8) % 16 = 8 := by omega
 unfold itp at hi
 rw [e1, e2, if_pos (by omega)] at hi
 split at hi
 ·rename_i v hv
  split at hi
  ·cases hi
   rcases code6 h with rfl | rfl | rfl | rfl | rfl | rfl <;>
   ·have hv : (if kEq k k' = true then _ else none) = some (Value.bool b) := hv
    split at hv
    ·simp only [zao, Option.some.injEq, Value.bool.injEq] at hv
     subst hv
     split
     ·rename_i hb; simp [relN] at hb ⊢; omega
     ·rename_i hb; simp [relN, negC] at hb ⊢; omega
    ·cases hv
  ·cases hi
 ·cases hi
theorem swap_rel {c : Nat} (h : 12 ≤ c ∧ c ≤ 17) {b : Bool} {a n : Int} (hr : relN (if b = true then c else negC c) n a) : relN (if b = true then swapC c else negC (swapC c)) a n := by
 cases b <;> rcases code6 h with rfl | rfl | rfl | rfl | rfl | rfl <;> simp [relN, negC, swapC] at hr ⊢ <;> omega
theorem intArgs {c : Nat} (h : 12 ≤ c ∧ c ≤ 17) {m : Mu} {x y : Value} {b : Bool} (hi : itp m (16 * c + 8) [x, y] = some (.bool b)) (hx : ∃ k n, x = .int k n) : ∃ k n, y = .int k n := by
 obtain ⟨k, n, rfl⟩ := hx
 have e1 : (16 * c + 8) / 16 = c := by omega
 unfold itp at hi
 rw [e1, if_pos (by omega)] at hi
 split at hi
 ·rename_i v hv
  cases y with
  | int k' n' => exact ⟨k', n', rfl⟩
  | _ =>
    exfalso
    rcases code6 h with rfl | rfl | rfl | rfl | rfl | rfl <;> simp [stdI, codeBin, zag] at hv
 ·cases hi
theorem intArgs2 {c : Nat} (h : 12 ≤ c ∧ c ≤ 17) {m : Mu} {x y : Value} {b : Bool} (hi : itp m (16 * c + 8) [x, y] = some (.bool b)) (hx : ∃ k n, y = .int k n) : ∃ k n, x = .int k n := by
 obtain ⟨k, n, rfl⟩ := hx
 have e1 : (16 * c + 8) / 16 = c := by omega
 unfold itp at hi
 rw [e1, if_pos (by omega)] at hi
 split at hi
 ·rename_i v hv
  cases x with
  | int k' n' => exact ⟨k', n', rfl⟩
  | _ =>
    exfalso
    rcases code6 h with rfl | rfl | rfl | rfl | rfl | rfl <;> simp [stdI, codeBin, zag] at hv
 ·cases hi
section
variable {m : Mu} {Γ : Facts}
theorem rel_op {op : Nat} (h : (Nat.beq (Nat.mod op 16) 8 && (Nat.ble 12 (Nat.div op 16) && Nat.ble (Nat.div op 16) 17)) = true) : (12 ≤ op / 16 ∧ op / 16 ≤ 17) ∧ op = 16 * (op / 16) + 8 ∧ ¬ op = 1016 := by
 obtain ⟨o1, o2⟩ := zac h
 obtain ⟨o2, o3⟩ := zac o2
 have o1 : op % 16 = 8 := zad o1
 have o2 : 12 ≤ op / 16 := zaw o2
 have o3 : op / 16 ≤ 17 := zaw o3
 refine ⟨⟨o2, o3⟩, ?_, ?_⟩ <;> omega
theorem relF_ok {t c : Value} {b : Bool} {r : Rl} (hc : den m c = some (.bool b)) (h : relF t c b = some r) : ∃ k a, den m t = some (.int k a) ∧ relN r.c a r.n := by
 unfold relF at h
 split at h
 ·rename_i op nm u k c'
  rw [zaa] at h
  split at h
  ·rename_i ho
   obtain ⟨hb, hop, hno⟩ := rel_op ho
   obtain ⟨vx, vy, h1, h2, h3⟩ := den_2I hno hc
   rw [hop] at h3
   have go : ∀ {u k : Value} {e : Nat}, relK t u k e = some r → u = t ∧ (∃ kd, k = .int kd r.n) ∧ e = r.c := by
    intro u k e hk
    unfold relK at hk
    split at hk
    ·rename_i kd n
     rw [zaa] at hk
     split at hk
     ·rename_i hv; cases hk; exact ⟨veq_eq _ _ _ hv, ⟨kd, rfl⟩, rfl⟩
     ·cases hk
    ·cases hk
   unfold orR at h
   split at h
   ·rename_i r' hr'
    cases h
    obtain ⟨rfl, ⟨kd, rfl⟩, he⟩ := go hr'
    rw [den] at h2
    cases h2
    obtain ⟨k', a, rfl⟩ := intArgs2 hb h3 ⟨kd, _, rfl⟩
    refine ⟨k', a, h1, ?_⟩
    have := cmp_rel hb h3
    rw [← he, zaa]; exact this
   ·obtain ⟨rfl, ⟨kd, rfl⟩, he⟩ := go h
    rw [den] at h1
    cases h1
    obtain ⟨k', a, rfl⟩ := intArgs hb h3 ⟨kd, _, rfl⟩
    refine ⟨k', a, h2, ?_⟩
    have := swap_rel hb (cmp_rel hb h3)
    rw [← he, zaa]; exact this
  ·cases h
 ·cases h
def BdOk (m : Mu) (t : Value) (d : Bnd) : Prop := (∀ n, d.lo = some n → ∃ k a, den m t = some (.int k a) ∧ n ≤ a) ∧ (∀ n, d.hi = some n → ∃ k a, den m t = some (.int k a) ∧ a ≤ n)
theorem den_int {t : Value} {k k' : IntKind} {a a' : Int} (h : den m t = some (.int k a)) (h' : den m t = some (.int k' a')) : a = a' := by
 rw [h] at h'; cases h'; rfl
theorem bdUp_ok {t : Value} {d : Bnd} {r : Rl} {k : IntKind} {a : Int} (hd : BdOk m t d) (ht : den m t = some (.int k a)) (hr : relN r.c a r.n) : BdOk m t (bdUp r.c r.n d) := by
 obtain ⟨lo, hi⟩ := d
 obtain ⟨c, n⟩ := r
 have hlo : ∀ q, maxO lo q = some q → True := fun _ _ => trivial
 have L : ∀ x, lo = some x → x ≤ a := fun x hx => by obtain ⟨k', a', g1, g2⟩ := hd.1 x hx; rw [den_int ht g1]; exact g2
 have U : ∀ x, hi = some x → a ≤ x := fun x hx => by obtain ⟨k', a', g1, g2⟩ := hd.2 x hx; rw [den_int ht g1]; exact g2
 have mx : ∀ q x, q ≤ a → maxO lo q = some x → x ≤ a := by
  intro q x hq hx
  unfold maxO at hx
  split at hx
  ·rename_i z
   rw [zaa] at hx
   cases hx
   have := L z rfl
   split <;> omega
  ·cases hx; exact hq
 have mn : ∀ q x, a ≤ q → minO hi q = some x → a ≤ x := by
  intro q x hq hx
  unfold minO at hx
  split at hx
  ·rename_i z
   rw [zaa] at hx
   cases hx
   have := U z rfl
   split <;> omega
  ·cases hx; exact hq
 have fin : ∀ lo' hi', (∀ x, lo' = some x → x ≤ a) → (∀ x, hi' = some x → a ≤ x) → BdOk m t ⟨lo', hi'⟩ := fun lo' hi' h1 h2 => ⟨fun x hx => ⟨k, a, ht, h1 x hx⟩, fun x hx => ⟨k, a, ht, h2 x hx⟩⟩
 show BdOk m t (bdUp c n ⟨lo, hi⟩)
 unfold bdUp
 simp only [relN] at hr
 simp only
 split
 ·exact fin _ _ L fun x hx => mn _ x (by simp at hr; omega) hx
 ·exact fin _ _ L fun x hx => mn _ x (by simp at hr; omega) hx
 ·exact fin _ _ (fun x hx => mx _ x (by simp at hr; omega) hx) U
 ·exact fin _ _ (fun x hx => mx _ x (by simp at hr; omega) hx) U
 ·exact fin _ _ (fun x hx => mx _ x (by simp at hr; omega) hx) fun x hx => mn _ x (by simp at hr; omega) hx
 ·have hr : a ≠ n := hr
  refine fin _ _ (fun x hx => ?_) fun x hx => ?_
  ·rw [zaa] at hx
   split at hx
   ·rename_i hi'
    cases hx
    unfold isO at hi'
    split at hi'
    ·rename_i z
     have := L z rfl
     have := of_decide_eq_true hi'
     omega
    ·cases hi'
   ·exact L x hx
  ·rw [zaa] at hx
   split at hx
   ·rename_i hi'
    cases hx
    unfold isO at hi'
    split at hi'
    ·rename_i z
     have := U z rfl
     have := of_decide_eq_true hi'
     omega
    ·cases hi'
   ·exact U x hx
 ·exact fin _ _ L U
theorem bdGo_ok {t : Value} : ∀ {Γ : Facts} {d : Bnd}, Holds m Γ → BdOk m t d → BdOk m t (bdGo t Γ d)
 | [], _, _, h => h
 | (c, b) :: Γ, d, hΓ, h => by
   have ih := bdGo_ok (t := t) (d := d) (Γ := Γ) (fun c b h => hΓ c b (List.mem_cons_of_mem _ h)) h
   show BdOk m t (bdF t (bdGo t Γ d) (c, b))
   unfold bdF
   simp only
   split
   ·rename_i r hr
    obtain ⟨k, a, h1, h2⟩ := relF_ok (hΓ _ _ List.mem_cons_self) hr
    exact bdUp_ok ih h1 h2
   ·exact ih
theorem bdN_ok {t : Value} (hΓ : Holds m Γ) : ∀ {k : Nat} {d : Bnd}, BdOk m t d → BdOk m t (bdN t Γ k d)
 | 0, _, h => h
 | k + 1, d, h => by
   show BdOk m t (bdN t Γ k (bdGo t Γ d))
   exact bdN_ok hΓ (bdGo_ok hΓ h)
theorem bdOf_ok {t : Value} (hΓ : Holds m Γ) : BdOk m t (bdOf t Γ) := by
 have h0 : BdOk m t ⟨none, none⟩ := ⟨fun _ h => (by cases h), fun _ h => (by cases h)⟩
 have h1 := bdGo_ok hΓ h0
 unfold bdOf
 split
 rename_i lo hi he
 rw [he] at h1
 cases lo with
 | none => cases hi with
   | none => exact h0
   | some _ => exact bdN_ok hΓ h1
 | some _ => exact bdN_ok hΓ h1
theorem neF_ok {t : Value} {n : Int} : ∀ {Γ : Facts}, Holds m Γ → neF t n Γ = true → ∃ k a, den m t = some (.int k a) ∧ a ≠ n
 | [], _, h => by cases h
 | (c, b) :: Γ, hΓ, h => by
   have tl := neF_ok (t := t) (n := n) (Γ := Γ) (fun c b h => hΓ c b (List.mem_cons_of_mem _ h))
   unfold neF at h
   simp only at h
   split at h
   ·rename_i r hr
    obtain ⟨cc, q⟩ := r
    simp only [zaa] at h
    split at h
    ·rename_i hc
     obtain ⟨g1, g2⟩ := zac hc
     have g1 := zad g1
     have g3 := of_decide_eq_true g2
     subst g1; subst g3
     obtain ⟨k, a, h1, h2⟩ := relF_ok (hΓ _ _ List.mem_cons_self) hr
     exact ⟨k, a, h1, h2⟩
    ·exact tl h
   ·exact tl h
theorem ltO_ok {o : Option Int} {n : Int} (h : ltO o n = true) : ∃ x, o = some x ∧ x < n := by
 unfold ltO at h
 split at h
 ·exact ⟨_, rfl, of_decide_eq_true h⟩
 ·cases h
theorem gtO_ok {o : Option Int} {n : Int} (h : gtO o n = true) : ∃ x, o = some x ∧ n < x := by
 unfold gtO at h
 split at h
 ·exact ⟨_, rfl, of_decide_eq_true h⟩
 ·cases h
theorem isO_ok {o : Option Int} {n : Int} (h : isO o n = true) : o = some n := by
 unfold isO at h
 split at h
 ·rw [of_decide_eq_true h]
 ·cases h
theorem bdDec_ok {t : Value} {d : Bnd} {ne : Bool} {c : Nat} {n : Int} {b : Bool} (hd : BdOk m t d) (hne : ne = true → ∃ k a, den m t = some (.int k a) ∧ a ≠ n) (h : bdDec d ne c n = some b) :
  (12 ≤ c ∧ c ≤ 17) ∧ ∃ k a, den m t = some (.int k a) ∧ relN (if b = true then c else negC c) a n := by
 obtain ⟨lo, hi⟩ := d
 have L : ∀ x, lo = some x → ∃ k a, den m t = some (.int k a) ∧ x ≤ a := hd.1
 have U : ∀ x, hi = some x → ∃ k a, den m t = some (.int k a) ∧ a ≤ x := hd.2
 unfold bdDec at h
 simp only at h
 have two : ∀ {p q : Bool} {x y : Bool}, cnd p (some x) (cnd q (some y) none) = some b → (p = true ∧ b = x) ∨ (q = true ∧ b = y) := by
  intro p q x y h
  cases p
  ·cases q
   ·cases h
   ·cases h; exact .inr ⟨rfl, rfl⟩
  ·cases h; exact .inl ⟨rfl, rfl⟩
 have ups : ∀ {q : Int}, ltO hi q = true → ∃ k a, den m t = some (.int k a) ∧ a < q := fun {q} h => by
  obtain ⟨x, e, hx⟩ := ltO_ok h
  obtain ⟨k, a, g1, g2⟩ := U x e
  exact ⟨k, a, g1, by omega⟩
 have los : ∀ {q : Int}, gtO lo q = true → ∃ k a, den m t = some (.int k a) ∧ q < a := fun {q} h => by
  obtain ⟨x, e, hx⟩ := gtO_ok h
  obtain ⟨k, a, g1, g2⟩ := L x e
  exact ⟨k, a, g1, by omega⟩
 have nes : (ltO hi n || (gtO lo n || ne)) = true → ∃ k a, den m t = some (.int k a) ∧ a ≠ n := by
  intro h
  rw [Bool.or_eq_true, Bool.or_eq_true] at h
  rcases h with h | h | h
  ·obtain ⟨k, a, g1, g2⟩ := ups h; exact ⟨k, a, g1, by omega⟩
  ·obtain ⟨k, a, g1, g2⟩ := los h; exact ⟨k, a, g1, by omega⟩
  ·exact hne h
 have eqs : (isO lo n && isO hi n) = true → ∃ k a, den m t = some (.int k a) ∧ a = n := by
  intro h
  obtain ⟨h1, h2⟩ := zac h
  obtain ⟨k, a, g1, g2⟩ := L n (isO_ok h1)
  obtain ⟨k', a', g3, g4⟩ := U n (isO_ok h2)
  have := den_int g1 g3
  exact ⟨k, a, g1, by omega⟩
 have wrap : ∀ {c : Nat} {b : Bool} {R : Int → Prop}, (∃ k a, den m t = some (.int k a) ∧ R a) → (∀ a, R a → relN (if b = true then c else negC c) a n) → ∃ k a, den m t = some (.int k a) ∧ relN (if b = true then c else negC c) a n :=
  fun ⟨k, a, g1, g2⟩ h => ⟨k, a, g1, h a g2⟩
 split at h
 ·refine ⟨by omega, ?_⟩
  rcases two h with ⟨h', rfl⟩ | ⟨h', rfl⟩
  ·exact wrap (ups h') fun a ha => by simp [relN]; omega
  ·exact wrap (los h') fun a ha => by simp [relN, negC]; omega
 ·refine ⟨by omega, ?_⟩
  rcases two h with ⟨h', rfl⟩ | ⟨h', rfl⟩
  ·exact wrap (ups h') fun a ha => by simp [relN]; omega
  ·exact wrap (los h') fun a ha => by simp [relN, negC]; omega
 ·refine ⟨by omega, ?_⟩
  rcases two h with ⟨h', rfl⟩ | ⟨h', rfl⟩
  ·exact wrap (los h') fun a ha => by simp [relN]; omega
  ·exact wrap (ups h') fun a ha => by simp [relN, negC]; omega
 ·refine ⟨by omega, ?_⟩
  rcases two h with ⟨h', rfl⟩ | ⟨h', rfl⟩
  ·exact wrap (los h') fun a ha => by simp [relN]; omega
  ·exact wrap (ups h') fun a ha => by simp [relN, negC]; omega
 ·refine ⟨by omega, ?_⟩
  rcases two h with ⟨h', rfl⟩ | ⟨h', rfl⟩
  ·exact wrap (nes h') fun a ha => by simp [relN, negC]; omega
  ·exact wrap (eqs h') fun a ha => by simp [relN]; omega
 ·refine ⟨by omega, ?_⟩
  rcases two h with ⟨h', rfl⟩ | ⟨h', rfl⟩
  ·exact wrap (nes h') fun a ha => by simp [relN]; omega
  ·exact wrap (eqs h') fun a ha => by simp [relN, negC]; omega
 ·cases h
theorem rel_itp {c : Nat} (hc : 12 ≤ c ∧ c ≤ 17) {k : IntKind} {a n : Int} {b : Bool} (hr : relN (if b = true then c else negC c) a n) : itp m (16 * c + 8) [.int k a, .int k n] = some (.bool b) := by
 have e1 : (16 * c + 8) / 16 = c := by omega
 have e2 : (16 * c + 8) % 16 = 8 := by omega
 unfold itp
 rw [e1, e2, if_pos (by omega)]
 have hkk : kEq k k = true := by cases k <;> rfl
 have : stdI m c 8 [.int k a, .int k n] = some (.bool b) := by
  rcases code6 hc with rfl | rfl | rfl | rfl | rfl | rfl <;>
  ·show (if kEq k k = true then _ else none) = _
   rw [if_pos hkk]
   simp only [zao]
   cases b <;> simp [relN, negC] at hr ⊢ <;> omega
 rw [this]
 rfl
theorem bdT_ok (hΓ : Holds m Γ) {c : Nat} {u k : Value} {b : Bool} (h : bdT Γ c u k = some b) : (12 ≤ c ∧ c ≤ 17) ∧ ∃ kd a n, den m u = some (.int kd a) ∧ k = .int kd n ∧ relN (if b = true then c else negC c) a n := by
 unfold bdT at h
 split at h
 ·rename_i kd n
  split at h
  ·rename_i s hs
   rw [zaa] at h
   split at h
   ·rename_i hc
    obtain ⟨c1, c2⟩ := zac hc
    have c2 := zad c2
    obtain ⟨g0, kd', a, g1, g2⟩ := bdDec_ok (bdOf_ok hΓ) (fun hn => neF_ok hΓ hn) h
    refine ⟨g0, kd', a, n, g1, ?_, g2⟩
    have : kd' = kd := by
     unfold isSy at c1
     split at c1
     ·rename_i op nm ar cc
      have hs : some (op % 16) = some s := hs
      cases hs
      have := den_srt g1
      rw [c2] at this
      have : srt (kCode kd) (.int kd' a) = true := this
      cases kd <;> cases kd' <;> first | rfl | cases this
     ·cases c1
    rw [this]
   ·cases h
  ·cases h
 ·cases h
theorem bdM_ok (m : Mu) : MkOk m bdM := by
 intro Γ hΓ c b h
 unfold bdM at h
 split at h
 ·rename_i op nm u k c'
  rw [zaa] at h
  split at h
  ·rename_i ho
   obtain ⟨hb, hop, hno⟩ := rel_op ho
   have hd : Nat.div op 16 = op / 16 := rfl
   rw [hd] at h
   unfold orB at h
   split at h
   ·rename_i v hv
    cases h
    obtain ⟨_, kd, a, n, g1, rfl, g3⟩ := bdT_ok hΓ hv
    rw [zau hno g1 (by rw [den]), hop]
    exact rel_itp hb g3
   ·obtain ⟨g0, kd, a, n, g1, rfl, g3⟩ := bdT_ok hΓ h
    rw [zau hno (by rw [den]) g1, hop]
    refine rel_itp hb ?_
    have hb' := code6 hb
    have g3 : relN (if b = true then swapC (op / 16) else negC (swapC (op / 16))) a n := g3
    cases b <;> rcases hb' with e | e | e | e | e | e <;> rw [e] at g3 ⊢ <;> simp [relN, negC, swapC] at g3 ⊢ <;> omega
  ·cases h
 ·cases h
end
noncomputable def orM (f g : Facts → Value → Option Bool) (Γ : Facts) (c : Value) : Option Bool := orB (f Γ c) (g Γ c)
theorem orM_ok {m : Mu} {f g : Facts → Value → Option Bool} (hf : MkOk m f) (hg : MkOk m g) : MkOk m (orM f g) := by
 intro Γ hΓ c b h
 unfold orM orB at h
 split at h
 ·rename_i v hv; cases h; exact hf Γ hΓ c _ hv
 ·exact hg Γ hΓ c b h
noncomputable def cbM : Facts → Value → Option Bool := orM cvM bdM
theorem cbM_ok (m : Mu) : MkOk m cbM := orM_ok (cvM_ok m) (bdM_ok m)
end Go.Gz
