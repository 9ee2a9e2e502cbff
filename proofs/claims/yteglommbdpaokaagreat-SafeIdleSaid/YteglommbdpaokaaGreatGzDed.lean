/- The evaluator that the kernel runs: loops over a slice whose elements may not turn: what is there, that numbers stay small. -/
import Derived.Test.YteglommbdpaokaaGreatGzDec
namespace Go.Gz
open Go Go.Gx Go.RowKit
noncomputable def ge0C : Value → Bool
 | .int k n => kEq k .i64 && decide (0 ≤ n)
 | _ => false
noncomputable def nonneg (Γ : Facts) (i : Value) : Bool := cnd (ge0C i) true (isYesO (seekN Γ (sy 248 [i, .int .i64 0])))
noncomputable def inRange (Γ : Facts) (sl i : Value) : Bool := nonneg Γ i && isYesO (seekN Γ (sy 200 [i, sy 675 [sl]]))
noncomputable def elemA (Γ : Facts) (sl : Value) (op : Nat) (l : List Value) : Bool :=
 match l with
 | [s, i, e] => Nat.beq op 714 && (veq 1000 s sl && (veq 1000 e (.int .i64 1) && inRange Γ sl i))
 | _ => false
noncomputable def elemL (Γ : Facts) (sl : Value) (z op : Nat) (l : List Value) : Bool :=
 match l with
 | [.func (.methodOf op' _) a _] => Nat.beq op (640 + z) && elemA Γ sl op' a.toList
 | _ => false
noncomputable def elemT (Γ : Facts) (sl : Value) (z : Nat) (t : Value) : Bool :=
 match t with
 | .func (.methodOf op _) a _ => cnd (elemA Γ sl op a.toList) true (elemL Γ sl z op a.toList)
 | _ => false
noncomputable def succT (i' i : Value) : Bool :=
 match i' with
 | .func (.methodOf op _) ⟨[j, o]⟩ _ => Nat.beq op 19 && (veq 1000 o (.int .i64 1) && veq 1000 j i)
 | .int k' n' => match i with
   | .int k n => kEq k k' && decide (n' = n + 1)
   | _ => false
 | _ => false
noncomputable def restT (sl x : Value) : Option Value :=
 match x with
 | .func (.methodOf op _) ⟨[u, i]⟩ _ => cnd (Nat.beq op 35 && veq 1000 u (sy 675 [sl])) (some i) none
 | _ => none
noncomputable def topOf (v c : Value) : Option Value :=
 match c with
 | .func (.methodOf op _) ⟨[i, w]⟩ _ => cnd (Nat.beq op 248 && veq 1000 w v) (some i) none
 | _ => none
noncomputable def findTop (v : Value) : Facts → Option Value
 | [] => none
 | x :: l => match x with
   | ⟨c, b⟩ => match topOf v c with
     | some i => cnd b (some i) (findTop v l)
     | none => findTop v l
noncomputable def isNoO : Option Bool → Bool
 | some b => !b
 | none => false
noncomputable def dcl (Γ : Facts) (sl : Value) (z : Nat) (c : Value) : Option Bool :=
 match c with
 | .func (.methodOf op _) ⟨[t]⟩ _ => cnd (Nat.beq op 1016 && elemT Γ sl z t) (some true) none
 | _ => none
noncomputable def lenAt (Γ : Facts) (sl : Value) (z : Nat) (x : Value) (v : Value) : Bool :=
 match v with
 | .agg l => (match x with
   | .int k n => kEq k .i64 && decide ((l.size : Int) ≤ n)
   | _ => false) && (Nat.ble l.size 1000000 && (wt (dcl Γ sl z) 1000 (.agg l)).isSome)
 | .func (.methodOf op _) ⟨[u, .agg ⟨[w]⟩]⟩ _ => Nat.beq op 765 && ((wt (dcl Γ sl z) 1000 (.agg ⟨[w]⟩)).isSome && (match findTop (sy 771 [u]) Γ with
   | some i => succT x i && inRange Γ sl i
   | none => false))
 | _ => false
noncomputable def lenT (Γ : Facts) (sl : Value) (z : Nat) (x y : Value) : Bool :=
 match y with
 | .func (.methodOf op _) ⟨[v]⟩ _ => Nat.beq op 771 && lenAt Γ sl z x v
 | _ => false
section
variable {m : Mu} {Γ : Facts} (hΓ : Holds m Γ)
theorem ge0C_ok {i : Value} (h : ge0C i = true) : ∃ a, i = .int .i64 a ∧ 0 ≤ a := by
 unfold ge0C at h
 split at h
 ·rename_i k n
  obtain ⟨h1, h2⟩ := zac h
  have := kEq_eq h1
  subst this
  exact ⟨n, rfl, of_decide_eq_true h2⟩
 ·cases h
include hΓ
omit hΓ in
theorem den_3 {op : Nat} {nm : String} {x y z vx vy vz : Value} {c : Array Value} (ho : ¬ op = 1016) (hx : den m x = some vx) (hy : den m y = some vy) (hz : den m z = some vz) : den m (.func (.methodOf op nm) ⟨[x, y, z]⟩ c) = itp m op [vx, vy, vz] := by
 rw [den, denA, denL, hx, denL, hy, denL, hz, denL]; simp only [if_neg ho]
omit hΓ in
theorem i64_wrap {n : Int} (h0 : 0 ≤ n) (h1 : n < 9223372036854775808) : IntKind.wrap .i64 n = n := by
 have : wfK .i64 n = true := by rw [wfK_iff]; simp only; omega
 unfold wfK at this
 exact of_decide_eq_true this
omit hΓ in
theorem itp_add {a b : Int} (h0 : 0 ≤ a + b) (h1 : a + b < 9223372036854775808) : itp m 19 [.int .i64 a, .int .i64 b] = some (.int .i64 (a + b)) := by
 unfold itp
 rw [if_pos (by decide)]
 have : stdI m (19 / 16) (19 % 16) [.int .i64 a, .int .i64 b] = some (.int .i64 (a + b)) := by
  show zag .add (.int .i64 a) (.int .i64 b) = _
  rw [zap _ _ _ rfl]
  show some (Value.int .i64 (IntKind.wrap .i64 (a + b))) = _
  rw [i64_wrap h0 h1]
 rw [this]
 simp only
 rw [if_pos]
 exact zaq (zav (k := .i64) (by rw [wfK_iff]; simp only; omega))
omit hΓ in
theorem itp_sub {a b : Int} (h0 : 0 ≤ a - b) (h1 : a - b < 9223372036854775808) : itp m 35 [.int .i64 a, .int .i64 b] = some (.int .i64 (a - b)) := by
 unfold itp
 rw [if_pos (by decide)]
 have : stdI m (35 / 16) (35 % 16) [.int .i64 a, .int .i64 b] = some (.int .i64 (a - b)) := by
  show zag .sub (.int .i64 a) (.int .i64 b) = _
  rw [zap _ _ _ rfl]
  show some (Value.int .i64 (IntKind.wrap .i64 (a - b))) = _
  rw [i64_wrap h0 h1]
 rw [this]
 simp only
 rw [if_pos]
 exact zaq (zav (k := .i64) (by rw [wfK_iff]; simp only; omega))
omit hΓ in
theorem succT_ok {i' i : Value} {a : Int} (h : succT i' i = true) (hi : den m i = some (.int .i64 a)) (h0 : 0 ≤ a) (h1 : a + 1 < 9223372036854775808) : den m i' = some (.int .i64 (a + 1)) := by
 unfold succT at h
 split at h
 ·rename_i op nm j o c
  obtain ⟨h2, h3⟩ := zac h
  obtain ⟨h3, h4⟩ := zac h3
  have e2 := zad h2
  have e3 := veq_eq _ _ _ h3
  have e4 := veq_eq _ _ _ h4
  subst e2 e3 e4
  rw [zau (by decide) hi (by rw [den]), itp_add (by omega) h1]
 ·rename_i k' n'
  split at h
  ·rename_i k n
   obtain ⟨h2, h3⟩ := zac h
   have h3 := of_decide_eq_true h3
   have h2 := kEq_eq h2
   rw [den] at hi
   cases hi
   rw [den, ← h2, h3]
  ·cases h
 ·cases h
omit hΓ in
theorem restT_ok {sl x i : Value} {a : Int} {len : Nat} (h : restT sl x = some i) (hi : den m i = some (.int .i64 a)) (hl : den m (sy 675 [sl]) = some (.int .i64 len)) (h0 : 0 ≤ (len : Int) - a) (h1 : (len : Int) - a < 9223372036854775808) : den m x = some (.int .i64 (len - a)) := by
 unfold restT at h
 split at h
 ·rename_i op nm u j c
  rw [zaa] at h
  split at h
  ·rename_i hc
   cases h
   obtain ⟨h2, h3⟩ := zac hc
   have e2 := zad h2
   have e3 := veq_eq _ _ _ h3
   subst e2 e3
   rw [zau (by decide) hl hi, itp_sub h0 h1]
  ·cases h
 ·cases h
omit hΓ in
theorem findTop_mem {v i : Value} : ∀ {Γ : Facts}, findTop v Γ = some i → ∃ nm c, (.func (.methodOf 248 nm) ⟨[i, v]⟩ c, true) ∈ Γ
 | [], h => by cases h
 | (c, b) :: l, h => by
   have tl : findTop v l = some i → ∃ nm c', (.func (.methodOf 248 nm) ⟨[i, v]⟩ c', true) ∈ (c, b) :: l := fun h => by
    obtain ⟨nm, c', h⟩ := findTop_mem h; exact ⟨nm, c', List.mem_cons_of_mem _ h⟩
   unfold findTop at h
   simp only at h
   split at h
   ·rename_i j hj
    rw [zaa] at h
    split at h
    ·rename_i hb
     subst hb
     cases h
     unfold topOf at hj
     split at hj
     ·rename_i op nm i' w k
      rw [zaa] at hj
      split at hj
      ·rename_i hc
       cases hj
       obtain ⟨h1, h2⟩ := zac hc
       have h1 := zad h1
       have h2 := veq_eq _ _ _ h2
       subst h1 h2
       exact ⟨nm, k, List.mem_cons_self⟩
      ·cases hj
     ·cases hj
    ·exact tl h
   ·exact tl h
omit hΓ in
theorem denL_len : ∀ {l r : List Value}, denL m l = some r → r.length = l.length
 | [], r, h => by rw [denL] at h; cases h; rfl
 | v :: l, r, h => by
   rw [denL] at h
   split at h
   ·split at h
    ·rename_i a _ b hb
     cases h
     rw [List.length_cons, List.length_cons, denL_len hb]
    ·cases h
   ·cases h
omit hΓ in
theorem den_len {v : Value} {l : Array Value} (h : den m v = some (.agg l)) (hl : l.size < 9223372036854775808) (nm : String) (c : Array Value) : den m (.func (.methodOf 771 nm) ⟨[v]⟩ c) = some (.int .i64 l.size) := by
 rw [den_1 (by decide) h]
 have hw : srtA 3 (.int .i64 (l.size : Int)) = true := zaq (zav (k := .i64) (by rw [wfK_iff]; simp only; omega))
 show (if srtA 3 (.int .i64 (l.size : Int)) = true then some (Value.int .i64 (l.size : Int)) else none) = _
 rw [if_pos hw]
end
end Go.Gz
