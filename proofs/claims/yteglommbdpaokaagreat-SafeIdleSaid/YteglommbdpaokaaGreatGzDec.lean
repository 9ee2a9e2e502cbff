/- The evaluator that the kernel runs: what follows from facts. -/
import Derived.Test.YteglommbdpaokaaGreatGzSm
namespace Go.Gz
open Go Go.Gx Go.RowKit
theorem zau {m : Mu} {op : Nat} {nm : String} {x y vx vy : Value} {c : Array Value} (ho : ¬ op = 1016) (hx : den m x = some vx) (hy : den m y = some vy) : den m (.func (.methodOf op nm) ⟨[x, y]⟩ c) = itp m op [vx, vy] := by
 rw [den, denA, denL, hx, denL, hy, denL]; simp only [if_neg ho]
theorem den_2I {m : Mu} {op : Nat} {nm : String} {x y v : Value} {c : Array Value} (ho : ¬ op = 1016) (h : den m (.func (.methodOf op nm) ⟨[x, y]⟩ c) = some v) : ∃ vx vy, den m x = some vx ∧ den m y = some vy ∧ itp m op [vx, vy] = some v := by
 rw [den, denA, denL] at h
 cases hx : den m x with
 | none => rw [hx] at h; simp [if_neg ho] at h
 | some vx =>
   rw [hx, denL] at h
   cases hy : den m y with
   | none => rw [hy] at h; simp [if_neg ho] at h
   | some vy =>
     rw [hy, denL] at h
     simp only [if_neg ho] at h
     exact ⟨vx, vy, rfl, rfl, h⟩
theorem den_1 {m : Mu} {op : Nat} {nm : String} {x vx : Value} {c : Array Value} (ho : ¬ op = 1016) (hx : den m x = some vx) : den m (.func (.methodOf op nm) ⟨[x]⟩ c) = itp m op [vx] := by
 rw [den, denA, denL, hx, denL]; simp only [if_neg ho]
theorem itp_eq {m : Mu} {a b : Value} {v : Value} (h : itp m 264 [a, b] = some v) : zag .eql a b = some v := by
 unfold itp at h
 rw [if_pos (by decide)] at h
 split at h
 ·rename_i u hu
  split at h
  ·cases h; exact hu
  ·cases h
 ·cases h
theorem itp_leaf {m : Mu} {op : Nat} {o : BinOp} {x y : Value} (hc : op = 200 ∧ o = .lss ∨ op = 232 ∧ o = .gtr ∨ op = 248 ∧ o = .geq) : itp m op [x, y] = match zag o x y with
  | some v => if srtA 8 v = true then some v else none
  | none => none := by
 rcases hc with ⟨rfl, rfl⟩ | ⟨rfl, rfl⟩ | ⟨rfl, rfl⟩ <;> rfl
theorem zap {o : BinOp} (k : IntKind) (a b : Int) (h : isShift o = false) : zag o (.int k a) (.int k b) = zao o k a b := by
 unfold zag
 simp only [h, Bool.false_eq_true, if_false, kEq_refl, if_true]
theorem itp_cmp {m : Mu} {op : Nat} {o : BinOp} {a b : Int} {k : IntKind} {r : Bool} (hc : op = 200 ∧ o = .lss ∨ op = 232 ∧ o = .gtr ∨ op = 248 ∧ o = .geq) (h : zao o k a b = some (.bool r)) : itp m op [.int k a, .int k b] = some (.bool r) := by
 rw [itp_leaf hc, zap k a b (by rcases hc with ⟨_, rfl⟩ | ⟨_, rfl⟩ | ⟨_, rfl⟩ <;> rfl), h]; rfl
theorem itp_cmpI {m : Mu} {op : Nat} {o : BinOp} {x y : Value} {r : Bool} (hc : op = 200 ∧ o = .lss ∨ op = 232 ∧ o = .gtr ∨ op = 248 ∧ o = .geq) (h : itp m op [x, y] = some (.bool r)) : ∃ k a b, x = .int k a ∧ y = .int k b ∧ zao o k a b = some (.bool r) := by
 rw [itp_leaf hc] at h
 have hs : isShift o = false := by rcases hc with ⟨_, rfl⟩ | ⟨_, rfl⟩ | ⟨_, rfl⟩ <;> rfl
 have hn : ∀ p q : Bool, zag o (.bool p) (.bool q) = none := by rcases hc with ⟨_, rfl⟩ | ⟨_, rfl⟩ | ⟨_, rfl⟩ <;> exact fun _ _ => rfl
 have hn2 : ∀ p q : ByteArray, zag o (.string p) (.string q) = none := by rcases hc with ⟨_, rfl⟩ | ⟨_, rfl⟩ | ⟨_, rfl⟩ <;> exact fun _ _ => rfl
 split at h
 ·rename_i v hv
  split at h
  ·cases h
   unfold zag at hv
   split at hv
   ·rename_i k a k' b
    simp only [hs, Bool.false_eq_true, if_false] at hv
    split at hv
    ·rename_i hk
     rw [← kEq_eq hk]
     exact ⟨k, a, b, rfl, rfl, hv⟩
    ·cases hv
   ·rename_i p q
    have h0 : none = some (Value.bool r) := (hn p q).symm.trans hv
    cases h0
   ·rename_i p q
    have h0 : none = some (Value.bool r) := (hn2 p q).symm.trans hv
    cases h0
   ·cases hv
  ·cases h
 ·cases h
theorem leaf_eq {a b : Value} (h : zag .eql a b = some (.bool true)) : a = b := by
 unfold zag at h
 split at h
 ·rename_i k a k' b
  simp only [isShift] at h
  simp only [Bool.false_eq_true, if_false] at h
  split at h
  ·rename_i hk
   have := kEq_eq hk
   subst this
   have h : some (Value.bool (a == b)) = some (.bool true) := h
   simp at h
   rw [h]
  ·cases h
 ·rename_i a b
  have h : some (Value.bool (a == b)) = some (.bool true) := h
  simp at h
  rw [h]
 ·rename_i a b
  have h : some (Value.bool (a.data.toList == b.data.toList)) = some (.bool true) := h
  simp at h
  rw [ByteArray.ext h]
 ·cases h
noncomputable def bEq (a b : Bool) : Bool :=
 match a with
 | true => b
 | false => !b
noncomputable def negO : Option Bool → Option Bool
 | some b => some (!b)
 | none => none
noncomputable def seekN (Γ : Facts) (c : Value) : Option Bool :=
 match seek Γ c with
 | some b => some b
 | none => negO (seek Γ (sy 296 [c]))
noncomputable def isYesO : Option Bool → Bool
 | some b => b
 | none => false
noncomputable def cong (Γ : Facts) (dc : Value → Option Bool) (x y : Value) : Bool :=
 match x with
 | .func (.methodOf op nm) ⟨[a]⟩ c => match y with
   | .func (.methodOf op' _) ⟨[b]⟩ _ => Nat.beq op op' && (!(Nat.beq op 1016) && ((isYesO (seekN Γ (sy 264 [a, b])) || isYesO (seekN Γ (sy 264 [b, a]))) && (match wt dc 1000 (.func (.methodOf op nm) ⟨[a]⟩ c) with
     | some s => Nat.ble s 9
     | none => false)))
   | _ => false
 | _ => false
noncomputable def sameT (dc : Value → Option Bool) (x y : Value) : Bool :=
 veq 1000 x y && (match wt dc 1000 x with
  | some s => Nat.ble s 9
  | none => false)
noncomputable def eqD (Γ : Facts) (dc : Value → Option Bool) (x y : Value) : Option Bool :=
 match x with
 | .bool a => match dc y with
   | some b => some (bEq a b)
   | none => none
 | x => match y with
   | .bool b => match dc x with
     | some a => some (bEq a b)
     | none => none
   | y => cnd (cong Γ dc x y || sameT dc x y) (some true) none
noncomputable def orE (o : Option Bool) (r : Option Bool) : Option Bool :=
 match o with
 | some b => some b
 | none => r
noncomputable def eqN (Γ : Facts) (x y : Value) : Option Bool :=
 orE (seekN Γ (sy 264 [x, y])) (orE (seekN Γ (sy 264 [y, x])) (orE (negO (seekN Γ (sy 280 [x, y]))) (negO (seekN Γ (sy 280 [y, x])))))
noncomputable def andO (a b : Option Bool) : Option Bool :=
 match a with
 | some p => match b with
   | some q => some (p && q)
   | none => none
 | none => none
noncomputable def andF (rec : Value → Option Bool) (x y : Value) : Option Bool :=
 match rec x with
 | some b => cnd b none (match wt rec 1000 y with
   | some s => cnd (Nat.beq s 8) (some false) none
   | none => none)
 | none => match rec y with
   | some b => cnd b none (match wt rec 1000 x with
     | some s => cnd (Nat.beq s 8) (some false) none
     | none => none)
   | none => none
noncomputable def dcop (more : Facts → Value → Option Bool) (Γ : Facts) (rec : Value → Option Bool) (c : Value) (op : Nat) (l : List Value) : Option Bool :=
 match l with
 | [x] => cnd (Nat.beq op 296) (orE (negO (rec x)) (more Γ c)) (more Γ c)
 | [x, y] => cnd (Nat.beq op 264) (orE (eqD Γ rec x y) (orE (eqN Γ x y) (more Γ c))) (cnd (Nat.beq op 280) (orE (negO (eqD Γ rec x y)) (orE (negO (eqN Γ x y)) (more Γ c))) (cnd (Nat.beq op 344) (orE (andO (rec x) (rec y)) (orE (andF rec x y) (more Γ c))) (more Γ c)))
 | _ => more Γ c
noncomputable def dcd (more : Facts → Value → Option Bool) (Γ : Facts) : Nat → Value → Option Bool :=
 @Nat.rec (fun _ => Value → Option Bool) (fun _ => none) (fun _ rec c => match seekN Γ c with
  | some b => some b
  | none => match c with
    | .bool b => some b
    | .func (.methodOf op nm) a k => dcop more Γ rec (.func (.methodOf op nm) a k) op a.toList
    | _ => none)
noncomputable def dec1 (more : Facts → Value → Option Bool) (Γ : Facts) (c : Value) : Option Bool := dcd more Γ 30 c
theorem bEq_eq (a b : Bool) : bEq a b = (a == b) := by cases a <;> cases b <;> rfl
theorem itp_beq {m : Mu} (a b : Bool) : itp m 264 [.bool a, .bool b] = some (.bool (a == b)) := rfl
theorem itp_bne {m : Mu} (a b : Bool) : itp m 280 [.bool a, .bool b] = some (.bool (!(a == b))) := rfl
theorem kinds9 {s : Nat} {v : Value} (k2 : srtA s v = true) (hs9 : s ≤ 9) : (∃ k n, v = .int k n) ∨ (∃ p, v = .bool p) ∨ ∃ s, v = .string s := by
 cases v with
 | int k n => exact .inl ⟨k, n, rfl⟩
 | bool p => exact .inr (.inl ⟨p, rfl⟩)
 | string s => exact .inr (.inr ⟨s, rfl⟩)
 | agg l => exact absurd (show s = 13 from zad k2) (by omega)
 | pointer p =>
   cases p with
   | none => exact absurd (show s = 12 from zad k2) (by omega)
   | some q =>
     have k2 : cnd (Nat.beq s 10) true (Nat.beq s 12) = true := k2
     rw [zaa] at k2
     split at k2
     ·rename_i e; have := zad e; omega
     ·have := zad k2; omega
 | slice a n c' =>
   have k2 : cnd (Nat.beq s 11) (Nat.blt n 9223372036854775808) (Nat.beq s 12) = true := k2
   rw [zaa] at k2
   split at k2
   ·rename_i e; have := zad e; omega
   ·have := zad k2; omega
 | tuple l => cases k2
 | _ => exact absurd (show s = 12 from zad k2) (by omega)
def fl (o : BinOp) (q : Bool) : Bool :=
 match o with
 | .neq => !q
 | _ => q
theorem leaf_cmpI {o : BinOp} (ho : o = .eql ∨ o = .neq) {a b : Value} {q : Bool} (h : zag o a b = some (.bool q)) :
  zag .eql a b = some (.bool (fl o q)) ∧ zag .eql b a = some (.bool (fl o q)) ∧ zag .neq a b = some (.bool (!(fl o q))) := by
 have hs : isShift o = false := by rcases ho with rfl | rfl <;> rfl
 unfold zag at h
 split at h
 ·rename_i k a k' b
  simp only [hs, Bool.false_eq_true, if_false] at h
  split at h
  ·rename_i hk
   have := kEq_eq hk
   subst this
   rw [zap _ _ _ rfl, zap _ _ _ rfl, zap _ _ _ rfl]
   have hc : (b == a) = (a == b) := by rw [Bool.eq_iff_iff, beq_iff_eq, beq_iff_eq]; exact eq_comm
   rcases ho with rfl | rfl
   ·have h : some (Value.bool (a == b)) = some (.bool q) := h
    have h : (a == b) = q := Value.bool.inj (Option.some.inj h)
    subst h
    refine ⟨rfl, ?_, rfl⟩
    show some (Value.bool (b == a)) = _
    rw [hc]; rfl
   ·have h : some (Value.bool (a != b)) = some (.bool q) := h
    have h : (!(a == b)) = q := Value.bool.inj (Option.some.inj h)
    subst h
    refine ⟨?_, ?_, ?_⟩
    ·show some (Value.bool (a == b)) = some (.bool (!(!(a == b))))
     rw [Bool.not_not]
    ·show some (Value.bool (b == a)) = some (.bool (!(!(a == b))))
     rw [Bool.not_not, hc]
    ·show some (Value.bool (!(a == b))) = some (.bool (!(!(!(a == b)))))
     rw [Bool.not_not]
  ·cases h
 ·rename_i a b
  rcases ho with rfl | rfl
  ·have h : some (Value.bool (a == b)) = some (.bool q) := h
   have h : (a == b) = q := Value.bool.inj (Option.some.inj h)
   subst h
   cases a <;> cases b <;> exact ⟨rfl, rfl, rfl⟩
  ·have h : some (Value.bool (!(a == b))) = some (.bool q) := h
   have h : (!(a == b)) = q := Value.bool.inj (Option.some.inj h)
   subst h
   cases a <;> cases b <;> exact ⟨rfl, rfl, rfl⟩
 ·rename_i a b
  have hc : (b.data.toList == a.data.toList) = (a.data.toList == b.data.toList) := by rw [Bool.eq_iff_iff, beq_iff_eq, beq_iff_eq]; exact eq_comm
  rcases ho with rfl | rfl
  ·have h : some (Value.bool (a.data.toList == b.data.toList)) = some (.bool q) := h
   have h : (a.data.toList == b.data.toList) = q := Value.bool.inj (Option.some.inj h)
   subst h
   refine ⟨rfl, ?_, rfl⟩
   show some (Value.bool (b.data.toList == a.data.toList)) = _
   rw [hc]; rfl
  ·have h : some (Value.bool (!(a.data.toList == b.data.toList))) = some (.bool q) := h
   have h : (!(a.data.toList == b.data.toList)) = q := Value.bool.inj (Option.some.inj h)
   subst h
   refine ⟨?_, ?_, ?_⟩
   ·show some (Value.bool (a.data.toList == b.data.toList)) = some (.bool (!(!(a.data.toList == b.data.toList))))
    rw [Bool.not_not]
   ·show some (Value.bool (b.data.toList == a.data.toList)) = some (.bool (!(!(a.data.toList == b.data.toList))))
    rw [Bool.not_not, hc]
   ·show some (Value.bool (!(a.data.toList == b.data.toList))) = some (.bool (!(!(!(a.data.toList == b.data.toList)))))
    rw [Bool.not_not]
 ·cases h
theorem itp_of {m : Mu} {o : BinOp} {op : Nat} (hc : op = 264 ∧ o = .eql ∨ op = 280 ∧ o = .neq) {a b : Value} : itp m op [a, b] = match zag o a b with
  | some v => if srtA 8 v = true then some v else none
  | none => none := by
 rcases hc with ⟨rfl, rfl⟩ | ⟨rfl, rfl⟩ <;> rfl
theorem itp_ofI {m : Mu} {o : BinOp} {op : Nat} (hc : op = 264 ∧ o = .eql ∨ op = 280 ∧ o = .neq) {a b v : Value} (h : itp m op [a, b] = some v) : zag o a b = some v := by
 rw [itp_of hc] at h
 split at h
 ·rename_i u hu
  split at h
  ·cases h; exact hu
  ·cases h
 ·cases h
def Told (m : Mu) (x y : Value) (b : Bool) : Prop := ∃ vx vy, den m x = some vx ∧ den m y = some vy ∧ zag .eql vx vy = some (.bool b) ∧ zag .neq vx vy = some (.bool (!b))
section
variable {m : Mu} {Γ : Facts} (hΓ : Holds m Γ)
include hΓ
theorem seek_den {c : Value} {b : Bool} (h : seek Γ c = some b) : den m c = some (.bool b) := hΓ _ _ (seek_mem h)
theorem seekN_den {c : Value} {b : Bool} (h : seekN Γ c = some b) : den m c = some (.bool b) := by
 unfold seekN at h
 split at h
 ·rename_i b0 hb; cases h; exact seek_den hΓ hb
 ·unfold negO at h
  split at h
  ·rename_i b0 hb
   cases h
   have hd := seek_den hΓ hb
   unfold sy at hd
   rw [den, denA, denL] at hd
   cases hc : den m c with
   | none => rw [hc] at hd; cases hd
   | some v =>
     rw [hc, denL] at hd
     cases v with
     | bool q =>
       have hd : some (Value.bool (!q)) = some (.bool b0) := hd
       have hd : (!q) = b0 := by simpa using hd
       rw [← hd]; cases q <;> rfl
     | int k n => cases hd
     | _ => cases hd
  ·cases h
theorem yes_den {c : Value} (h : isYesO (seekN Γ c) = true) : den m c = some (.bool true) := by
 unfold isYesO at h
 split at h
 ·rename_i b hb; subst h; exact seekN_den hΓ hb
 ·cases h
theorem eqD_ok {dc : Value → Option Bool} (hdc : ∀ c b, dc c = some b → den m c = some (.bool b)) {x y : Value} {b : Bool} (h : eqD Γ dc x y = some b) :
  (∃ p q, den m x = some (.bool p) ∧ den m y = some (.bool q) ∧ b = (p == q)) ∨ (b = true ∧ ∃ v, den m x = some v ∧ den m y = some v ∧ ((∃ k n, v = .int k n) ∨ (∃ p, v = .bool p) ∨ ∃ s, v = .string s)) := by
 unfold eqD at h
 split at h
 ·rename_i a
  split at h
  ·rename_i q hq
   cases h
   exact .inl ⟨a, q, by rw [den], hdc _ _ hq, bEq_eq a q⟩
  ·cases h
 ·split at h
  ·split at h
   ·rename_i q _ p hp
    cases h
    exact .inl ⟨p, q, hdc _ _ hp, by rw [den], bEq_eq p q⟩
   ·cases h
  ·rw [zaa] at h
   split at h
   ·rename_i hc
    cases h
    right
    refine ⟨rfl, ?_⟩
    rw [Bool.or_eq_true] at hc
    rcases hc with hc | hc
    rotate_left
    ·obtain ⟨h1, h2⟩ := zac hc
     have := veq_eq _ _ _ h1
     subst this
     split at h2
     ·rename_i s hs
      obtain ⟨v, k1, k2⟩ := wt_ok hdc 1000 _ s hs
      exact ⟨v, k1, k1, kinds9 k2 (zaw h2)⟩
     ·cases h2
    unfold cong at hc
    split at hc
    ·rename_i op nm a c _
     split at hc
     ·rename_i op' nm' a' c' _
      obtain ⟨h1, h2⟩ := zac hc
      obtain ⟨h2, h3⟩ := zac h2
      obtain ⟨h3, h4⟩ := zac h3
      have h1 := zad h1
      subst h1
      have ho : ¬ op = 1016 := by intro h; subst h; cases h2
      obtain ⟨va, g1, g2⟩ : ∃ va, den m a = some va ∧ den m a' = some va := by
       rw [Bool.or_eq_true] at h3
       rcases h3 with h3 | h3
       ·obtain ⟨va, vb, g1, g2, g3⟩ := den_2I (by decide) (yes_den hΓ h3)
        have := leaf_eq (itp_eq g3)
        subst this
        exact ⟨va, g1, g2⟩
       ·obtain ⟨va, vb, g1, g2, g3⟩ := den_2I (by decide) (yes_den hΓ h3)
        have := leaf_eq (itp_eq g3)
        subst this
        exact ⟨va, g2, g1⟩
      split at h4
      ·rename_i s hs
       obtain ⟨v, k1, k2⟩ := wt_ok hdc 1000 _ s hs
       refine ⟨v, k1, ?_, ?_⟩
       ·rw [den_1 ho g1] at k1
        rw [den_1 ho g2]; exact k1
       ·exact kinds9 k2 (zaw h4)
      ·cases h4
     ·cases hc
    ·cases hc
   ·cases h
omit hΓ in
theorem orE_I {o r : Option Bool} {b : Bool} (h : orE o r = some b) : o = some b ∨ r = some b := by
 unfold orE at h
 split at h
 ·left; exact h
 ·right; exact h
omit hΓ in
theorem negO_I {o : Option Bool} {b : Bool} (h : negO o = some b) : o = some (!b) := by
 unfold negO at h
 split at h
 ·cases h; rw [Bool.not_not]
 ·cases h
theorem eqN_ok {x y : Value} {b : Bool} (h : eqN Γ x y = some b) : Told m x y b := by
 have swap : ∀ {a b : Value} {q : Bool}, zag .eql a b = some (.bool q) → zag .eql b a = some (.bool q) ∧ zag .neq b a = some (.bool (!q)) := fun h =>
  have h1 := (leaf_cmpI (.inl rfl) h).2.1
  ⟨h1, (leaf_cmpI (.inl rfl) h1).2.2⟩
 rcases orE_I h with h | h
 ·obtain ⟨vx, vy, g1, g2, g3⟩ := den_2I (by decide) (seekN_den hΓ h)
  have g4 := itp_ofI (.inl ⟨rfl, rfl⟩) g3
  exact ⟨vx, vy, g1, g2, g4, (leaf_cmpI (.inl rfl) g4).2.2⟩
 rcases orE_I h with h | h
 ·obtain ⟨vx, vy, g1, g2, g3⟩ := den_2I (by decide) (seekN_den hΓ h)
  obtain ⟨g5, g6⟩ := swap (itp_ofI (.inl ⟨rfl, rfl⟩) g3)
  exact ⟨vy, vx, g2, g1, g5, g6⟩
 rcases orE_I h with h | h
 ·obtain ⟨vx, vy, g1, g2, g3⟩ := den_2I (by decide) (seekN_den hΓ (negO_I h))
  have g4 := itp_ofI (.inr ⟨rfl, rfl⟩) g3
  have g5 := leaf_cmpI (.inr rfl) g4
  have g6 : zag .eql vx vy = some (.bool b) := by have := g5.1; simpa [fl] using this
  exact ⟨vx, vy, g1, g2, g6, g4⟩
 ·obtain ⟨vx, vy, g1, g2, g3⟩ := den_2I (by decide) (seekN_den hΓ (negO_I h))
  have g4 := itp_ofI (.inr ⟨rfl, rfl⟩) g3
  have g5 := leaf_cmpI (.inr rfl) g4
  have g6 : zag .eql vx vy = some (.bool b) := by have := g5.1; simpa [fl] using this
  obtain ⟨g7, g8⟩ := swap g6
  exact ⟨vy, vx, g2, g1, g7, g8⟩
omit hΓ in
theorem andF_ok {rec : Value → Option Bool} (hrec : ∀ c b, rec c = some b → den m c = some (.bool b)) {x y : Value} {b : Bool} {nm : String} {k : Array Value} (h : andF rec x y = some b) : den m (.func (.methodOf 344 nm) ⟨[x, y]⟩ k) = some (.bool b) := by
 have bl : ∀ {z : Value} {s : Nat}, wt rec 1000 z = some s → Nat.beq s 8 = true → ∃ q, den m z = some (.bool q) := by
  intro z s hz h8
  obtain ⟨v, h1, h2⟩ := wt_ok hrec 1000 z s hz
  rw [zad h8] at h2
  obtain ⟨q, rfl⟩ := srt_bool (zat (by decide) h2)
  exact ⟨q, h1⟩
 unfold andF at h
 split at h
 ·rename_i p hp
  rw [zaa] at h
  split at h
  ·cases h
  ·rename_i hpf
   have hpf : p = false := by simpa using hpf
   subst hpf
   split at h
   ·rename_i s hs
    rw [zaa] at h
    split at h
    ·rename_i h8
     cases h
     obtain ⟨q, hq⟩ := bl hs h8
     rw [zau (by decide) (hrec _ _ hp) hq]; rfl
    ·cases h
   ·cases h
 ·split at h
  ·rename_i p hp
   rw [zaa] at h
   split at h
   ·cases h
   ·rename_i hpf
    have hpf : p = false := by simpa using hpf
    subst hpf
    split at h
    ·rename_i s hs
     rw [zaa] at h
     split at h
     ·rename_i h8
      cases h
      obtain ⟨q, hq⟩ := bl hs h8
      rw [zau (by decide) hq (hrec _ _ hp)]
      cases q <;> rfl
     ·cases h
    ·cases h
  ·cases h
theorem dcop_ok {more : Facts → Value → Option Bool} (hm : MkOk m more) {rec : Value → Option Bool} (hrec : ∀ c b, rec c = some b → den m c = some (.bool b)) {op : Nat} {nm : String} {l : List Value} {k : Array Value} {b : Bool}
  (h : dcop more Γ rec (.func (.methodOf op nm) ⟨l⟩ k) op l = some b) : den m (.func (.methodOf op nm) ⟨l⟩ k) = some (.bool b) := by
 have hmo : ∀ c b, more Γ c = some b → den m c = some (.bool b) := hm Γ hΓ
 have orE_ok : ∀ {o : Option Bool} {c : Value} {b : Bool}, (∀ b, o = some b → den m c = some (.bool b)) → orE o (more Γ c) = some b → den m c = some (.bool b) := by
  intro o c b ho h
  unfold orE at h
  split at h
  ·cases h; exact ho _ rfl
  ·exact hmo _ _ h
 unfold dcop at h
 split at h
 ·rename_i x
  rw [zaa] at h
  split at h
  ·rename_i ho
   have ho := zad ho
   subst ho
   refine orE_ok (fun b hb => ?_) h
   unfold negO at hb
   split at hb
   ·rename_i p hp
    cases hb
    rw [den_1 (by decide) (hrec _ _ hp)]; rfl
   ·cases hb
  ·exact hmo _ _ h
 ·rename_i x y
  rw [zaa, zaa] at h
  split at h
  ·rename_i ho
   have ho := zad ho
   subst ho
   rcases orE_I h with h | h
   rotate_left
   ·refine orE_ok (fun b hb => ?_) h
    obtain ⟨vx, vy, g1, g2, g3, _⟩ := eqN_ok hΓ hb
    rw [zau (by decide) g1 g2, itp_of (.inl ⟨rfl, rfl⟩), g3]; rfl
   refine (fun hb => ?_ : eqD Γ rec x y = some b → _) h
   rcases eqD_ok hΓ hrec hb with ⟨p, q, h1, h2, rfl⟩ | ⟨rfl, v, h1, h2, h3⟩
   ·rw [zau (by decide) h1 h2]; rfl
   ·rw [zau (by decide) h1 h2]
    rcases h3 with ⟨k, n, rfl⟩ | ⟨p, rfl⟩ | ⟨s, rfl⟩
    ·unfold itp
     rw [if_pos (by decide)]
     show (match zag .eql (.int k n) (.int k n) with | some v => _ | none => _) = _
     rw [zap k n n rfl]
     show (if srtA 8 (Value.bool (n == n)) = true then _ else _) = _
     rw [beq_self_eq_true]; rfl
    ·rw [itp_beq, beq_self_eq_true]
    ·unfold itp
     rw [if_pos (by decide)]
     show (if srtA 8 (Value.bool (s.data.toList == s.data.toList)) = true then _ else _) = _
     rw [beq_self_eq_true]; rfl
  ·split at h
   ·rename_i ho
    have ho := zad ho
    subst ho
    rcases orE_I h with h | h
    rotate_left
    ·refine orE_ok (fun b hb => ?_) h
     obtain ⟨vx, vy, g1, g2, _, g3⟩ := eqN_ok hΓ (negO_I hb)
     rw [zau (by decide) g1 g2, itp_of (.inr ⟨rfl, rfl⟩), g3, Bool.not_not]; rfl
    refine (fun hb => ?_ : negO (eqD Γ rec x y) = some b → _) h
    unfold negO at hb
    split at hb
    ·rename_i b0 hb0
     cases hb
     rcases eqD_ok hΓ hrec hb0 with ⟨p, q, h1, h2, rfl⟩ | ⟨rfl, v, h1, h2, h3⟩
     ·rw [zau (by decide) h1 h2]; rfl
     ·rw [zau (by decide) h1 h2]
      rcases h3 with ⟨k, n, rfl⟩ | ⟨p, rfl⟩ | ⟨s, rfl⟩
      ·unfold itp
       rw [if_pos (by decide)]
       show (match zag .neq (.int k n) (.int k n) with | some v => _ | none => _) = _
       rw [zap k n n rfl]
       show (if srtA 8 (Value.bool (n != n)) = true then _ else _) = _
       rw [show (n != n) = false by simp]; rfl
      ·rw [itp_bne, beq_self_eq_true]
      ·unfold itp
       rw [if_pos (by decide)]
       show (if srtA 8 (Value.bool (!(s.data.toList == s.data.toList))) = true then _ else _) = _
       rw [beq_self_eq_true]; rfl
    ·cases hb
   ·rw [zaa] at h
    split at h
    ·rename_i ho
     have ho := zad ho
     subst ho
     rcases orE_I h with h | h
     rotate_left
     ·exact orE_ok (fun b hb => andF_ok hrec hb) h
     refine (fun hb => ?_ : andO (rec x) (rec y) = some b → _) h
     unfold andO at hb
     split at hb
     ·rename_i p hp
      split at hb
      ·rename_i q hq
       cases hb
       rw [zau (by decide) (hrec _ _ hp) (hrec _ _ hq)]; rfl
      ·cases hb
     ·cases hb
    ·exact hmo _ _ h
 ·exact hmo _ _ h
theorem dcd_ok {more : Facts → Value → Option Bool} (hm : MkOk m more) : ∀ (d : Nat) (c : Value) (b : Bool), dcd more Γ d c = some b → den m c = some (.bool b)
 | 0, _, _, h => by cases h
 | d + 1, c, b, h => by
   have ih := dcd_ok hm d
   have h : (match seekN Γ c with
    | some b => some b
    | none => match (generalizing := false) c with
      | .bool b => some b
      | .func (.methodOf op nm) a k => dcop more Γ (dcd more Γ d) (.func (.methodOf op nm) a k) op a.toList
      | _ => none) = some b := h
   split at h
   ·rename_i b0 hb; cases h; exact seekN_den hΓ hb
   ·split at h
    ·cases h; rw [den]
    ·rename_i op nm a k _
     obtain ⟨l⟩ := a
     exact dcop_ok hΓ hm ih h
    ·cases h
end
theorem dec1_ok {m : Mu} {more : Facts → Value → Option Bool} (hm : MkOk m more) : MkOk m (dec1 more) := fun _ hΓ c b h => dcd_ok hΓ hm 30 c b h
end Go.Gz
