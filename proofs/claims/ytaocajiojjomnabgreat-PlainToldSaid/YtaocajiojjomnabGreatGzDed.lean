/- The evaluator that the kernel runs: loops over a slice whose elements may not turn: what is there, that numbers stay small. -/
import Derived.Test.YtaocajiojjomnabGreatGzDec
namespace Go.Gz
open Go Go.Gx Go.RowKit
def ElemOk (m : Mu) (sl : Value) (z : Nat) : Prop := ∀ a len cap, den m sl = some (.slice a len cap) → ∀ i, i < len → ∃ b off l t f x, a = some ⟨b, off, none⟩ ∧ m.K b = some (.cells l t f) ∧ l.toList[off + i]? = some x ∧ srt z x = true
noncomputable def ge0C : Value → Bool
 | .int k n => kEq k .i64 && decide (0 ≤ n)
 | _ => false
noncomputable def nonneg (Γ : Facts) (i : Value) : Bool := cnd (ge0C i) true (isYesO (seekN Γ (sy 248 [i, .int .i64 0])))
noncomputable def inRange (Γ : Facts) (sl i : Value) : Bool := nonneg Γ i && isYesO (seekN Γ (sy 200 [i, sy 675 [sl]]))
noncomputable def elemA (Γ : Facts) (sl : Value) (op : Nat) (l : List Value) : Bool :=
 match l with
 | [s, i, e] => Nat.beq op 714 && (veq 1000 s sl && (veq 1000 e (.int .i64 1) && inRange Γ sl i))
 | _ => false
noncomputable def elemL (Γ : Facts) (sl : Value) (z op : Nat) (l : List Value) : Bool :=
 match l with
 | [.func (.methodOf op' _) a _] => Nat.beq op (640 + z) && elemA Γ sl op' a.toList
 | _ => false
noncomputable def elemT (Γ : Facts) (sl : Value) (z : Nat) (t : Value) : Bool :=
 match t with
 | .func (.methodOf op _) a _ => cnd (elemA Γ sl op a.toList) true (elemL Γ sl z op a.toList)
 | _ => false
noncomputable def succT (i' i : Value) : Bool :=
 match i' with
 | .func (.methodOf op _) ⟨[j, o]⟩ _ => Nat.beq op 19 && (veq 1000 o (.int .i64 1) && veq 1000 j i)
 | .int k' n' => match i with
   | .int k n => kEq k k' && decide (n' = n + 1)
   | _ => false
 | _ => false
noncomputable def ge0S (Γ : Facts) (sl x : Value) : Bool :=
 cnd (ge0C x) true (match x with
 | .func (.methodOf op _) ⟨[j, o]⟩ _ => Nat.beq op 19 && (veq 1000 o (.int .i64 1) && inRange Γ sl j)
 | _ => false)
noncomputable def restT (sl x : Value) : Option Value :=
 match x with
 | .func (.methodOf op _) ⟨[u, i]⟩ _ => cnd (Nat.beq op 35 && veq 1000 u (sy 675 [sl])) (some i) none
 | _ => none
noncomputable def rk1 (Γ : Facts) (sl x y : Value) : Bool :=
 match restT sl x, restT sl y with
 | some i', some i => succT i' i && inRange Γ sl i
 | _, _ => false
noncomputable def rk2 (Γ : Facts) (sl x y : Value) : Bool :=
 match restT sl x with
 | some i => veq 1000 y (.int .i64 0) && inRange Γ sl i
 | none => false
noncomputable def topOf (v c : Value) : Option Value :=
 match c with
 | .func (.methodOf op _) ⟨[i, w]⟩ _ => cnd (Nat.beq op 248 && veq 1000 w v) (some i) none
 | _ => none
noncomputable def findTop (v : Value) : Facts → Option Value
 | [] => none
 | x :: l => match x with
   | ⟨c, b⟩ => match topOf v c with
     | some i => cnd b (some i) (findTop v l)
     | none => findTop v l
noncomputable def isNoO : Option Bool → Bool
 | some b => !b
 | none => false
noncomputable def smallT (Γ : Facts) (sl : Value) (N : Nat) (x y : Value) : Bool :=
 match findTop x Γ with
 | some i => veq 1000 y (.int .i64 1073741824) && (inRange Γ sl i && (Nat.ble N 1000000 && isNoO (seekN Γ (sy 232 [sy 675 [sl], .int .i64 N]))))
 | none => false
noncomputable def dcl (Γ : Facts) (sl : Value) (z : Nat) (c : Value) : Option Bool :=
 match c with
 | .func (.methodOf op _) ⟨[t]⟩ _ => cnd (Nat.beq op 1016 && elemT Γ sl z t) (some true) none
 | _ => none
noncomputable def lenAt (Γ : Facts) (sl : Value) (z : Nat) (x : Value) (v : Value) : Bool :=
 match v with
 | .agg l => (match x with
   | .int k n => kEq k .i64 && decide ((l.size : Int) ≤ n)
   | _ => false) && (Nat.ble l.size 1000000 && (wt (dcl Γ sl z) 1000 (.agg l)).isSome)
 | .func (.methodOf op _) ⟨[u, .agg ⟨[w]⟩]⟩ _ => Nat.beq op 765 && ((wt (dcl Γ sl z) 1000 (.agg ⟨[w]⟩)).isSome && (match findTop (sy 771 [u]) Γ with
   | some i => succT x i && inRange Γ sl i
   | none => false))
 | _ => false
noncomputable def lenT (Γ : Facts) (sl : Value) (z : Nat) (x y : Value) : Bool :=
 match y with
 | .func (.methodOf op _) ⟨[v]⟩ _ => Nat.beq op 771 && lenAt Γ sl z x v
 | _ => false
noncomputable def topT (Γ : Facts) (sl x y : Value) : Bool :=
 match findTop y Γ with
 | some i => succT x i && inRange Γ sl i
 | none => false
noncomputable def loopC (sl : Value) (z N : Nat) (Γ : Facts) (op : Nat) (l : List Value) : Bool :=
 match l with
 | [t] => Nat.beq op 1016 && elemT Γ sl z t
 | [x, y] => cnd (Nat.beq op 248) (cnd (veq 1000 y (.int .i64 0)) (ge0S Γ sl x) (cnd (topT Γ sl x y) true (lenT Γ sl z x y))) (cnd (Nat.beq op 200) (cnd (rk1 Γ sl x y) true (smallT Γ sl N x y)) (Nat.beq op 232 && rk2 Γ sl x y))
 | _ => false
noncomputable def loopM (sl : Value) (z N : Nat) (Γ : Facts) (c : Value) : Option Bool :=
 match c with
 | .func (.methodOf op _) a _ => cnd (loopC sl z N Γ op a.toList) (some true) none
 | _ => none
section
variable {m : Mu} {Γ : Facts} (hΓ : Holds m Γ)
theorem ge0C_ok {i : Value} (h : ge0C i = true) : ∃ a, i = .int .i64 a ∧ 0 ≤ a := by
 unfold ge0C at h
 split at h
 ·rename_i k n
  obtain ⟨h1, h2⟩ := zab h
  have := kEq_eq h1
  subst this
  exact ⟨n, rfl, of_decide_eq_true h2⟩
 ·cases h
include hΓ
theorem inRange_den {sl i : Value} (h : inRange Γ sl i = true) : ∃ (a : Int) (len cap : Nat) (ad : Option Addr), den m i = some (.int .i64 a) ∧ den m sl = some (.slice ad len cap) ∧ den m (sy 675 [sl]) = some (.int .i64 len) ∧ 0 ≤ a ∧ a < len ∧ len < 9223372036854775808 := by
 obtain ⟨h1, h2⟩ := zab h
 obtain ⟨vi, vu, g1, g2, g3⟩ := den_2I (by decide) (yes_den hΓ h2)
 obtain ⟨k, a, b, rfl, rfl, g4⟩ := itp_cmpI (.inl ⟨rfl, rfl⟩) g3
 have g5 : a < b := by
  have g4 : some (Value.bool (decide (a < b))) = some (.bool true) := g4
  simpa using g4
 have hu : ∃ ad len cap, den m sl = some (.slice ad len cap) ∧ k = .i64 ∧ b = (len : Int) ∧ len < 9223372036854775808 := by
  unfold sy at g2
  rw [den, denA, denL] at g2
  cases hs : den m sl with
  | none => rw [hs] at g2; cases g2
  | some v =>
    rw [hs, denL] at g2
    have hi := itp_srt (show itp m 675 [v] = some (.int k b) from g2)
    cases v with
    | slice ad len cap =>
      have g2 : (if srtA 3 (.int .i64 (len : Int)) = true then some (Value.int .i64 (len : Int)) else none) = some (.int k b) := g2
      split at g2
      ·rename_i hw
       cases g2
       refine ⟨ad, len, cap, rfl, rfl, rfl, ?_⟩
       have hw : cnd (Nat.beq 3 3) (wfK .i64 (len : Int)) (Nat.beq 3 12) = true := hw
       have hw : wfK .i64 (len : Int) = true := hw
       rw [wfK_iff] at hw
       simp only at hw
       omega
      ·cases g2
    | bool q => cases g2
    | int k n => cases g2
    | _ => cases g2
 obtain ⟨ad, len, cap, e1, rfl, rfl, e4⟩ := hu
 refine ⟨a, len, cap, ad, g1, e1, g2, ?_, g5, e4⟩
 unfold nonneg at h1
 rw [zaa] at h1
 split at h1
 ·rename_i hc
  obtain ⟨a', rfl, ha⟩ := ge0C_ok hc
  rw [den] at g1
  cases g1
  exact ha
 ·obtain ⟨vi', v0, k1, k2, k3⟩ := den_2I (by decide) (yes_den hΓ h1)
  rw [g1] at k1
  cases k1
  rw [den] at k2
  cases k2
  obtain ⟨k', a2, b2, e5, e6, k4⟩ := itp_cmpI (.inr (.inr ⟨rfl, rfl⟩)) k3
  cases e5
  cases e6
  have k4 : some (Value.bool (decide (a ≥ 0))) = some (.bool true) := k4
  simpa using k4
omit hΓ in
theorem den_3 {op : Nat} {nm : String} {x y z vx vy vz : Value} {c : Array Value} (ho : ¬ op = 1016) (hx : den m x = some vx) (hy : den m y = some vy) (hz : den m z = some vz) : den m (.func (.methodOf op nm) ⟨[x, y, z]⟩ c) = itp m op [vx, vy, vz] := by
 rw [den, denA, denL, hx, denL, hy, denL, hz, denL]; simp only [if_neg ho]
theorem elemA_ok {sl : Value} {z op : Nat} {l : List Value} (he : ElemOk m sl z) (h : elemA Γ sl op l = true) (nm : String) (c : Array Value) :
  ∃ b off lb t f x, den m (.func (.methodOf op nm) ⟨l⟩ c) = some (.pointer (some ⟨b, off, none⟩)) ∧ m.K b = some (.cells lb t f) ∧ lb.toList[off]? = some x ∧ srt z x = true := by
 unfold elemA at h
 split at h
 ·rename_i s i e
  obtain ⟨h1, h2⟩ := zab h
  obtain ⟨h2, h3⟩ := zab h2
  obtain ⟨h3, h4⟩ := zab h3
  have e1 := zae h1
  have e2 := veq_eq _ _ _ h2
  have e3 := veq_eq _ _ _ h3
  subst e1 e2 e3
  obtain ⟨a, len, cap, ad, g1, g2, _, g4, g5, _⟩ := inRange_den hΓ h4
  obtain ⟨b, off, lb, t, f, x, rfl, k2, k3, k4⟩ := he _ _ _ g2 a.toNat (by omega)
  refine ⟨b, off + a.toNat * 1, lb, t, f, x, ?_, k2, by rw [Nat.mul_one]; exact k3, k4⟩
  rw [den_3 (by decide) g2 g1 (by rw [den])]
  unfold itp
  rw [if_pos (by decide)]
  have : stdI m (714 / 16) (714 % 16) [.slice (some ⟨b, off, none⟩) len cap, .int .i64 a, .int .i64 1] = some (.pointer (some ⟨b, off + a.toNat * 1, none⟩)) := by
   show (if 0 ≤ a ∧ a < (len : Int) ∧ (0 : Int) ≤ 1 then some (Value.pointer (some ⟨b, off + a.toNat * (1 : Int).toNat, none⟩)) else none) = _
   rw [if_pos ⟨g4, g5, by decide⟩]; rfl
  rw [this]; rfl
 ·cases h
theorem elemT_ok {sl t : Value} {z : Nat} (he : ElemOk m sl z) (hz : z < 13) (h : elemT Γ sl z t = true) : ∃ v, den m t = some v := by
 unfold elemT at h
 split at h
 ·rename_i op nm a c
  obtain ⟨l⟩ := a
  rw [zaa] at h
  split at h
  ·rename_i h1
   obtain ⟨b, off, _, _, _, _, g1, _⟩ := elemA_ok hΓ he h1 nm c
   exact ⟨_, g1⟩
  ·unfold elemL at h
   split at h
   ·rename_i op' nm' a' c' hl
    obtain ⟨l'⟩ := a'
    obtain ⟨h1, h2⟩ := zab h
    have h1 := zae h1
    subst h1
    obtain ⟨b, off, lb, t, f, x, g1, g2, g3, g4⟩ := elemA_ok hΓ he h2 nm' c'
    have hl : l = [.func (.methodOf op' nm') ⟨l'⟩ c'] := hl
    subst hl
    refine ⟨x, ?_⟩
    rw [den_1 (by omega) g1]
    unfold itp
    rw [if_pos (by omega)]
    have e1 : (640 + z) / 16 = 40 := by omega
    have e2 : (640 + z) % 16 = z := by omega
    rw [e1, e2]
    have : stdI m 40 z [.pointer (some ⟨b, off, none⟩)] = some x := by
     show (match m.K b with
      | some (.cells l _ _) => l.toList[off]?
      | _ => none) = _
     rw [g2]; exact g3
    rw [this]
    simp only
    rw [if_pos (srt_srtA g4)]
   ·cases h
 ·cases h
omit hΓ in
theorem i64_wrap {n : Int} (h0 : 0 ≤ n) (h1 : n < 9223372036854775808) : IntKind.wrap .i64 n = n := by
 have : wfK .i64 n = true := by rw [wfK_iff]; simp only; omega
 unfold wfK at this
 exact of_decide_eq_true this
omit hΓ in
theorem itp_add {a b : Int} (h0 : 0 ≤ a + b) (h1 : a + b < 9223372036854775808) : itp m 19 [.int .i64 a, .int .i64 b] = some (.int .i64 (a + b)) := by
 unfold itp
 rw [if_pos (by decide)]
 have : stdI m (19 / 16) (19 % 16) [.int .i64 a, .int .i64 b] = some (.int .i64 (a + b)) := by
  show zam .add (.int .i64 a) (.int .i64 b) = _
  rw [leaf_int _ _ _ rfl]
  show some (Value.int .i64 (IntKind.wrap .i64 (a + b))) = _
  rw [i64_wrap h0 h1]
 rw [this]
 simp only
 rw [if_pos]
 exact srt_srtA (srt_int (k := .i64) (by rw [wfK_iff]; simp only; omega))
omit hΓ in
theorem itp_sub {a b : Int} (h0 : 0 ≤ a - b) (h1 : a - b < 9223372036854775808) : itp m 35 [.int .i64 a, .int .i64 b] = some (.int .i64 (a - b)) := by
 unfold itp
 rw [if_pos (by decide)]
 have : stdI m (35 / 16) (35 % 16) [.int .i64 a, .int .i64 b] = some (.int .i64 (a - b)) := by
  show zam .sub (.int .i64 a) (.int .i64 b) = _
  rw [leaf_int _ _ _ rfl]
  show some (Value.int .i64 (IntKind.wrap .i64 (a - b))) = _
  rw [i64_wrap h0 h1]
 rw [this]
 simp only
 rw [if_pos]
 exact srt_srtA (srt_int (k := .i64) (by rw [wfK_iff]; simp only; omega))
theorem ge0S_ok {sl x : Value} (h : ge0S Γ sl x = true) : ∃ a, den m x = some (.int .i64 a) ∧ 0 ≤ a := by
 unfold ge0S at h
 rw [zaa] at h
 split at h
 ·rename_i h1
  obtain ⟨a, rfl, ha⟩ := ge0C_ok h1
  exact ⟨a, by rw [den], ha⟩
 ·split at h
  ·rename_i op nm j o c
   obtain ⟨h1, h2⟩ := zab h
   obtain ⟨h2, h3⟩ := zab h2
   have e1 := zae h1
   have e2 := veq_eq _ _ _ h2
   subst e1 e2
   obtain ⟨a, len, cap, ad, g1, _, _, g4, g5, g6⟩ := inRange_den hΓ h3
   refine ⟨a + 1, ?_, by omega⟩
   rw [den_2 (by decide) g1 (by rw [den]), itp_add (by omega) (by omega)]
  ·cases h
omit hΓ in
theorem succT_ok {i' i : Value} {a : Int} (h : succT i' i = true) (hi : den m i = some (.int .i64 a)) (h0 : 0 ≤ a) (h1 : a + 1 < 9223372036854775808) : den m i' = some (.int .i64 (a + 1)) := by
 unfold succT at h
 split at h
 ·rename_i op nm j o c
  obtain ⟨h2, h3⟩ := zab h
  obtain ⟨h3, h4⟩ := zab h3
  have e2 := zae h2
  have e3 := veq_eq _ _ _ h3
  have e4 := veq_eq _ _ _ h4
  subst e2 e3 e4
  rw [den_2 (by decide) hi (by rw [den]), itp_add (by omega) h1]
 ·rename_i k' n'
  split at h
  ·rename_i k n
   obtain ⟨h2, h3⟩ := zab h
   have h3 := of_decide_eq_true h3
   have h2 := kEq_eq h2
   rw [den] at hi
   cases hi
   rw [den, ← h2, h3]
  ·cases h
 ·cases h
omit hΓ in
theorem restT_ok {sl x i : Value} {a : Int} {len : Nat} (h : restT sl x = some i) (hi : den m i = some (.int .i64 a)) (hl : den m (sy 675 [sl]) = some (.int .i64 len)) (h0 : 0 ≤ (len : Int) - a) (h1 : (len : Int) - a < 9223372036854775808) : den m x = some (.int .i64 (len - a)) := by
 unfold restT at h
 split at h
 ·rename_i op nm u j c
  rw [zaa] at h
  split at h
  ·rename_i hc
   cases h
   obtain ⟨h2, h3⟩ := zab hc
   have e2 := zae h2
   have e3 := veq_eq _ _ _ h3
   subst e2 e3
   rw [den_2 (by decide) hl hi, itp_sub h0 h1]
  ·cases h
 ·cases h
omit hΓ in
theorem findTop_mem {v i : Value} : ∀ {Γ : Facts}, findTop v Γ = some i → ∃ nm c, (.func (.methodOf 248 nm) ⟨[i, v]⟩ c, true) ∈ Γ
 | [], h => by cases h
 | (c, b) :: l, h => by
   have tl : findTop v l = some i → ∃ nm c', (.func (.methodOf 248 nm) ⟨[i, v]⟩ c', true) ∈ (c, b) :: l := fun h => by
    obtain ⟨nm, c', h⟩ := findTop_mem h; exact ⟨nm, c', List.mem_cons_of_mem _ h⟩
   unfold findTop at h
   simp only at h
   split at h
   ·rename_i j hj
    rw [zaa] at h
    split at h
    ·rename_i hb
     subst hb
     cases h
     unfold topOf at hj
     split at hj
     ·rename_i op nm i' w k
      rw [zaa] at hj
      split at hj
      ·rename_i hc
       cases hj
       obtain ⟨h1, h2⟩ := zab hc
       have h1 := zae h1
       have h2 := veq_eq _ _ _ h2
       subst h1 h2
       exact ⟨nm, k, List.mem_cons_self⟩
      ·cases hj
     ·cases hj
    ·exact tl h
   ·exact tl h
theorem findTop_ok {v i : Value} {a : Int} (h : findTop v Γ = some i) (hi : den m i = some (.int .i64 a)) : ∃ b, den m v = some (.int .i64 b) ∧ b ≤ a := by
 obtain ⟨nm, c, hm⟩ := findTop_mem h
 obtain ⟨vi, vv, g1, g2, g3⟩ := den_2I (by decide) (hΓ _ _ hm)
 rw [hi] at g1
 cases g1
 obtain ⟨k, a', b, e1, rfl, g4⟩ := itp_cmpI (.inr (.inr ⟨rfl, rfl⟩)) g3
 cases e1
 have g4 : some (Value.bool (decide (a ≥ b))) = some (.bool true) := g4
 exact ⟨b, g2, by simpa using g4⟩
theorem smallT_ok {sl x y : Value} {N : Nat} (h : smallT Γ sl N x y = true) : ∃ b, den m x = some (.int .i64 b) ∧ den m y = some (.int .i64 1073741824) ∧ b < 1073741824 := by
 unfold smallT at h
 split at h
 ·rename_i i hi
  obtain ⟨h1, h2⟩ := zab h
  obtain ⟨h2, h3⟩ := zab h2
  obtain ⟨h3, h4⟩ := zab h3
  have e1 := veq_eq _ _ _ h1
  subst e1
  obtain ⟨a, len, cap, ad, g1, _, g3, g4, g5, g6⟩ := inRange_den hΓ h2
  obtain ⟨b, k1, k2⟩ := findTop_ok hΓ hi g1
  refine ⟨b, k1, by rw [den], ?_⟩
  have hN := zar h3
  unfold isNoO at h4
  split at h4
  ·rename_i q hq
   have hq := seekN_den hΓ hq
   obtain ⟨vx, vy, e1, e2, e3⟩ := den_2I (by decide) hq
   rw [g3] at e1
   cases e1
   rw [den] at e2
   cases e2
   obtain ⟨k, a', b', f1, f2, f3⟩ := itp_cmpI (.inr (.inl ⟨rfl, rfl⟩)) e3
   cases f1
   cases f2
   have f3 : some (Value.bool (decide ((len : Int) > N))) = some (.bool q) := f3
   have hqf : q = false := by simpa using h4
   subst hqf
   have : ¬ (len : Int) > N := by simpa using f3
   omega
  ·cases h4
 ·cases h
theorem topT_ok {sl x y : Value} (h : topT Γ sl x y = true) : ∃ a b, den m x = some (.int .i64 a) ∧ den m y = some (.int .i64 b) ∧ b ≤ a := by
 unfold topT at h
 split at h
 ·rename_i i hi
  obtain ⟨h6, h7⟩ := zab h
  obtain ⟨a, len, cap, ad, g1, _, g3, g4, g5, g6⟩ := inRange_den hΓ h7
  obtain ⟨b, k1, k2⟩ := findTop_ok hΓ hi g1
  exact ⟨a + 1, b, succT_ok h6 g1 g4 (by omega), k1, by omega⟩
 ·cases h
theorem dcl_ok {sl : Value} {z : Nat} (he : ElemOk m sl z) (hz : z < 13) (c : Value) (b : Bool) (h : dcl Γ sl z c = some b) : den m c = some (.bool b) := by
 unfold dcl at h
 split at h
 ·rw [zaa] at h
  split at h
  ·rename_i hc
   cases h
   obtain ⟨h1, h2⟩ := zab hc
   have e1 := zae h1
   subst e1
   obtain ⟨v, hv⟩ := elemT_ok hΓ he hz h2
   rw [den, denA, denL, hv, denL]; rfl
  ·cases h
 ·cases h
omit hΓ in
theorem denL_len : ∀ {l r : List Value}, denL m l = some r → r.length = l.length
 | [], r, h => by rw [denL] at h; cases h; rfl
 | v :: l, r, h => by
   rw [denL] at h
   split at h
   ·split at h
    ·rename_i a _ b hb
     cases h
     rw [List.length_cons, List.length_cons, denL_len hb]
    ·cases h
   ·cases h
omit hΓ in
theorem den_len {v : Value} {l : Array Value} (h : den m v = some (.agg l)) (hl : l.size < 9223372036854775808) (nm : String) (c : Array Value) : den m (.func (.methodOf 771 nm) ⟨[v]⟩ c) = some (.int .i64 l.size) := by
 rw [den_1 (by decide) h]
 have hw : srtA 3 (.int .i64 (l.size : Int)) = true := srt_srtA (srt_int (k := .i64) (by rw [wfK_iff]; simp only; omega))
 show (if srtA 3 (.int .i64 (l.size : Int)) = true then some (Value.int .i64 (l.size : Int)) else none) = _
 rw [if_pos hw]
theorem lenT_ok {sl x y : Value} {z : Nat} (he : ElemOk m sl z) (hz : z < 13) (h : lenT Γ sl z x y = true) : ∃ a b, den m x = some (.int .i64 a) ∧ den m y = some (.int .i64 b) ∧ b ≤ a := by
 unfold lenT at h
 split at h
 ·rename_i op nm v c
  obtain ⟨h1, h2⟩ := zab h
  have e1 := zae h1
  subst e1
  unfold lenAt at h2
  split at h2
  ·rename_i l
   obtain ⟨h3, h4⟩ := zab h2
   obtain ⟨h4, h5⟩ := zab h4
   split at h3
   ·rename_i k n
    obtain ⟨h6, h7⟩ := zab h3
    have e2 := kEq_eq h6
    subst e2
    have h7 := of_decide_eq_true h7
    have h4 := zar h4
    obtain ⟨s, hs⟩ := Option.isSome_iff_exists.1 h5
    obtain ⟨v', g1, g2⟩ := wt_ok (dcl_ok hΓ he hz) 1000 _ s hs
    have g0 := g1
    rw [den, denA] at g1
    split at g1
    ·rename_i r hr
     cases g1
     have hlen := denL_len hr
     refine ⟨n, l.size, by rw [den], ?_, h7⟩
     have hsz : (⟨r⟩ : Array Value).size = l.size := hlen
     rw [den_len g0 (by rw [hsz]; omega), hsz]
    ·cases g1
   ·cases h3
  ·rename_i op' nm' u w c'
   obtain ⟨h3, h4⟩ := zab h2
   obtain ⟨h4, h5⟩ := zab h4
   have e2 := zae h3
   subst e2
   split at h5
   ·rename_i i hi
    obtain ⟨h6, h7⟩ := zab h5
    obtain ⟨a, len, cap, ad, g1, _, g3, g4, g5, g6⟩ := inRange_den hΓ h7
    obtain ⟨b, k1, k2⟩ := findTop_ok hΓ hi g1
    have hx := succT_ok h6 g1 g4 (by omega)
    obtain ⟨s, hs⟩ := Option.isSome_iff_exists.1 h4
    obtain ⟨v', f1, f2⟩ := wt_ok (dcl_ok hΓ he hz) 1000 _ s hs
    have f0 := f1
    rw [den, denA] at f1
    split at f1
    ·rename_i r hr
     cases f1
     have hlen : r.length = 1 := denL_len hr
     -- u is a list
     have hu : ∃ lu : Array Value, den m u = some (.agg lu) ∧ b = (lu.size : Int) := by
      unfold sy at k1
      rw [den, denA, denL] at k1
      cases hu : den m u with
      | none => rw [hu] at k1; cases k1
      | some vu =>
        rw [hu, denL] at k1
        cases vu with
        | agg lu =>
          have k1 : (if srtA 3 (.int .i64 (lu.size : Int)) = true then some (Value.int .i64 (lu.size : Int)) else none) = some (.int .i64 b) := k1
          split at k1
          ·cases k1; exact ⟨lu, rfl, rfl⟩
          ·cases k1
        | bool q => cases k1
        | int k n => cases k1
        | _ => cases k1
     obtain ⟨lu, hu, rfl⟩ := hu
     have hap : den m (.func (.methodOf 765 nm') ⟨[u, .agg ⟨[w]⟩]⟩ c') = some (.agg ⟨lu.toList ++ r⟩) := by
      rw [den_2 (by decide) hu f0]; rfl
     have hsz : (⟨lu.toList ++ r⟩ : Array Value).size = lu.size + 1 := by
      show (lu.toList ++ r).length = _
      rw [List.length_append, hlen]; rfl
     refine ⟨a + 1, ((lu.size + 1 : Nat) : Int), hx, ?_, by omega⟩
     rw [den_len hap (by rw [hsz]; omega), hsz]
    ·cases f1
   ·cases h5
  ·cases h2
 ·cases h
theorem loopC_ok {sl : Value} {z N op : Nat} {l : List Value} (he : ElemOk m sl z) (hz : z < 13) (h : loopC sl z N Γ op l = true) (nm : String) (c : Array Value) : den m (.func (.methodOf op nm) ⟨l⟩ c) = some (.bool true) := by
 unfold loopC at h
 split at h
 ·rename_i t
  obtain ⟨h1, h2⟩ := zab h
  have h1 := zae h1
  subst h1
  obtain ⟨v, hv⟩ := elemT_ok hΓ he hz h2
  rw [den, denA, denL, hv, denL]; rfl
 ·rename_i x y
  rw [zaa] at h
  split at h
  ·rename_i ho
   have ho := zae ho
   subst ho
   rw [zaa] at h
   split at h
   ·rename_i h1
    have h1 := veq_eq _ _ _ h1
    subst h1
    obtain ⟨a, g1, g2⟩ := ge0S_ok hΓ h
    rw [den_2 (by decide) g1 (by rw [den])]
    refine itp_cmp (.inr (.inr ⟨rfl, rfl⟩)) ?_
    show some (Value.bool (decide (a ≥ 0))) = _
    rw [decide_eq_true (by omega)]
   ·have h : ∃ a b, den m x = some (.int .i64 a) ∧ den m y = some (.int .i64 b) ∧ b ≤ a := by
      rw [zaa] at h
      split at h
      ·rename_i h1; exact topT_ok hΓ h1
      ·exact lenT_ok hΓ he hz h
    obtain ⟨a, b, g1, g2, g3⟩ := h
    rw [den_2 (by decide) g1 g2]
    refine itp_cmp (.inr (.inr ⟨rfl, rfl⟩)) ?_
    show some (Value.bool (decide (a ≥ b))) = _
    rw [decide_eq_true (by omega)]
  ·rw [zaa] at h
   split at h
   ·rename_i ho
    have ho := zae ho
    subst ho
    rw [zaa] at h
    split at h
    rotate_left
    ·obtain ⟨b, g1, g2, g3⟩ := smallT_ok hΓ h
     rw [den_2 (by decide) g1 g2]
     refine itp_cmp (.inl ⟨rfl, rfl⟩) ?_
     show some (Value.bool (decide (b < 1073741824))) = _
     rw [decide_eq_true g3]
    rename_i hk
    replace h := hk
    unfold rk1 at h
    split at h
    ·rename_i i' i hx hy
     obtain ⟨h1, h2⟩ := zab h
     obtain ⟨a, len, cap, ad, g1, _, g3, g4, g5, g6⟩ := inRange_den hΓ h2
     have hs := succT_ok h1 g1 g4 (by omega)
     rw [den_2 (by decide) (restT_ok hx hs g3 (by omega) (by omega)) (restT_ok hy g1 g3 (by omega) (by omega))]
     refine itp_cmp (.inl ⟨rfl, rfl⟩) ?_
     show some (Value.bool (decide ((len : Int) - (a + 1) < len - a))) = _
     rw [decide_eq_true (by omega)]
    ·cases h
   ·obtain ⟨h1, h2⟩ := zab h
    have ho := zae h1
    subst ho
    unfold rk2 at h2
    split at h2
    ·rename_i i hx
     obtain ⟨h3, h4⟩ := zab h2
     have h3 := veq_eq _ _ _ h3
     subst h3
     obtain ⟨a, len, cap, ad, g1, _, g3, g4, g5, g6⟩ := inRange_den hΓ h4
     rw [den_2 (by decide) (restT_ok hx g1 g3 (by omega) (by omega)) (by rw [den])]
     refine itp_cmp (.inr (.inl ⟨rfl, rfl⟩)) ?_
     show some (Value.bool (decide ((len : Int) - a > 0))) = _
     rw [decide_eq_true (by omega)]
    ·cases h2
 ·cases h
end
theorem loopM_ok {m : Mu} {sl : Value} {z N : Nat} (he : ElemOk m sl z) (hz : z < 13) : MkOk m (loopM sl z N) := by
 intro Γ hΓ c b h
 unfold loopM at h
 split at h
 ·rename_i op nm a k
  obtain ⟨l⟩ := a
  rw [zaa] at h
  split at h
  ·rename_i h1; cases h; exact loopC_ok hΓ he hz h1 nm k
  ·cases h
 ·cases h
end Go.Gz
