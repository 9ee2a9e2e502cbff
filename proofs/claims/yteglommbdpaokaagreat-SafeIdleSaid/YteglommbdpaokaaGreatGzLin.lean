/- The evaluator that the kernel runs: what follows for sums of numbers, out of what is told of them. -/
import Derived.Test.YteglommbdpaokaaGreatGzRl
namespace Go.Gz
open Go Go.Gx Go.RowKit
structure Ln where
 c : Int
 l : List (Int × Value)
structure Iv where
 lo : Int
 hi : Int
noncomputable def ivL (ab : Value → Option Iv) : List (Int × Value) → Int → Int → Option Iv
 | [], lo, hi => some ⟨lo, hi⟩
 | x :: l, lo, hi => match x with
   | ⟨k, v⟩ => match ab v with
     | some ⟨a, b⟩ => cnd (decide (0 ≤ k)) (ivL ab l (lo + k * a) (hi + k * b)) (ivL ab l (lo + k * b) (hi + k * a))
     | none => none
noncomputable def ivOf (ab : Value → Option Iv) (L : Ln) : Option Iv :=
 match L with
 | ⟨c, l⟩ => ivL ab l c c
noncomputable def addA (k : Int) (v : Value) : List (Int × Value) → List (Int × Value)
 | [] => [(k, v)]
 | x :: l => match x with
   | ⟨k', u⟩ => cnd (veq 1000 u v) (cnd (decide (k + k' = 0)) l ((k + k', u) :: l)) ((k', u) :: addA k v l)
noncomputable def addL (s : Int) : List (Int × Value) → List (Int × Value) → List (Int × Value)
 | [], r => r
 | x :: l, r => match x with
   | ⟨k, v⟩ => addL s l (addA (s * k) v r)
noncomputable def addLn (s : Int) (A B : Ln) : Ln :=
 match A, B with
 | ⟨c, l⟩, ⟨c', l'⟩ => ⟨s * c + c', addL s l l'⟩
noncomputable def mulA (s : Int) : List (Int × Value) → List (Int × Value)
 | [] => []
 | x :: l => match x with
   | ⟨k, v⟩ => (s * k, v) :: mulA s l
noncomputable def mulLn (s : Int) (A : Ln) : Ln :=
 match A with
 | ⟨c, l⟩ => cnd (decide (s = 0)) ⟨0, []⟩ ⟨s * c, mulA s l⟩
noncomputable def fitIv (o : Option Iv) (L : Ln) : Option Ln :=
 match o with
 | some ⟨a, b⟩ => cnd (decide (-4611686018427387904 ≤ a) && decide (b ≤ 4611686018427387904)) (some L) none
 | none => none
noncomputable def isC (L : Ln) : Option Int :=
 match L with
 | ⟨c, l⟩ => match l with
   | [] => some c
   | _ => none
noncomputable def mulO (ab : Value → Option Iv) (A B : Ln) : Option Ln :=
 match isC A with
 | some s => fitIv (ivOf ab (mulLn s B)) (mulLn s B)
 | none => match isC B with
   | some s => fitIv (ivOf ab (mulLn s A)) (mulLn s A)
   | none => none
noncomputable def atomL (ab : Value → Option Iv) (v : Value) : Option Ln :=
 match ab v with
 | some _ => some ⟨0, [(1, v)]⟩
 | none => none
noncomputable def opL (ab : Value → Option Iv) (op : Nat) (v : Value) (A B : Option Ln) : Option Ln :=
 match A with
 | some A => match B with
   | some B => cnd (Nat.beq op 19) (fitIv (ivOf ab (addLn 1 A B)) (addLn 1 A B)) (cnd (Nat.beq op 35) (fitIv (ivOf ab (addLn (-1) B A)) (addLn (-1) B A)) (cnd (Nat.beq op 51) (mulO ab A B) none))
   | none => atomL ab v
 | none => atomL ab v
noncomputable def linT (ab : Value → Option Iv) : Nat → Value → Option Ln :=
 @Nat.rec (fun _ => Value → Option Ln) (fun _ => none) (fun _ rec v => match v with
  | .int .i64 n => some ⟨n, []⟩
  | .func (.methodOf op nm) a c => match a.toList with
    | [x, y] => cnd (Nat.beq op 19 || (Nat.beq op 35 || Nat.beq op 51)) (match opL ab op (.func (.methodOf op nm) a c) (rec x) (rec y) with
      | some L => some L
      | none => atomL ab (.func (.methodOf op nm) a c)) (atomL ab (.func (.methodOf op nm) a c))
    | _ => atomL ab (.func (.methodOf op nm) a c)
  | _ => none)
noncomputable def ge0I (ab : Value → Option Iv) (L : Ln) : Bool :=
 match ivOf ab L with
 | some ⟨a, _⟩ => decide (0 ≤ a)
 | none => false
noncomputable def relLn (c : Nat) (D : Ln) : List Ln :=
 match D with
 | ⟨k, l⟩ => match c with
   | 12 => [⟨k - 1, l⟩]
   | 13 => [⟨k, l⟩]
   | 14 => [mulLn (-1) ⟨k + 1, l⟩]
   | 15 => [mulLn (-1) ⟨k, l⟩]
   | 16 => [⟨k, l⟩, mulLn (-1) ⟨k, l⟩]
   | _ => []
noncomputable def factLn (ab : Value → Option Iv) (x : Value × Bool) : List Ln :=
 match x with
 | ⟨c, b⟩ => match c with
   | .func (.methodOf op _) ⟨[u, v]⟩ _ => cnd (Nat.beq (Nat.mod op 16) 8 && (Nat.ble 12 (Nat.div op 16) && Nat.ble (Nat.div op 16) 17))
     (cnd (isK u || isK v) [] (match linT ab 30 u with
      | some A => match linT ab 30 v with
        | some B => relLn (cnd b (Nat.div op 16) (negC (Nat.div op 16))) (addLn (-1) A B)
        | none => []
      | none => [])) []
   | _ => []
noncomputable def factsLn (ab : Value → Option Iv) : Facts → List Ln
 | [] => []
 | x :: l => factLn ab x ++ factsLn ab l
noncomputable def hasA (v : Value) : List (Int × Value) → Bool
 | [] => false
 | x :: l => match x with
   | ⟨_, u⟩ => cnd (veq 1000 u v) true (hasA v l)
noncomputable def shareA : List (Int × Value) → List (Int × Value) → Bool
 | [], _ => false
 | x :: l, r => match x with
   | ⟨_, v⟩ => cnd (hasA v r) true (shareA l r)
noncomputable def shareL (F L : Ln) : Bool :=
 match F, L with
 | ⟨_, l⟩, ⟨_, r⟩ => shareA l r
noncomputable def ge0F1 (ab : Value → Option Iv) (L : Ln) : List Ln → Bool
 | [] => false
 | F :: l => cnd (shareL F L) (cnd (ge0I ab (addLn (-1) F L)) true (ge0F1 ab L l)) (ge0F1 ab L l)
noncomputable def ge0L (ab : Value → Option Iv) (F : List Ln) (L : Ln) : Bool := cnd (ge0I ab L) true (ge0F1 ab L F)
noncomputable def decLn (ab : Value → Option Iv) (F : List Ln) (c : Nat) (D : Ln) : Option Bool :=
 match D with
 | ⟨k, l⟩ => match c with
   | 12 => cnd (ge0L ab F ⟨k - 1, l⟩) (some true) (cnd (ge0L ab F (mulLn (-1) ⟨k, l⟩)) (some false) none)
   | 13 => cnd (ge0L ab F ⟨k, l⟩) (some true) (cnd (ge0L ab F (mulLn (-1) ⟨k + 1, l⟩)) (some false) none)
   | 14 => cnd (ge0L ab F (mulLn (-1) ⟨k + 1, l⟩)) (some true) (cnd (ge0L ab F ⟨k, l⟩) (some false) none)
   | 15 => cnd (ge0L ab F (mulLn (-1) ⟨k, l⟩)) (some true) (cnd (ge0L ab F ⟨k - 1, l⟩) (some false) none)
   | 16 => cnd (ge0L ab F ⟨k - 1, l⟩ || ge0L ab F (mulLn (-1) ⟨k + 1, l⟩)) (some false) (cnd (l.isEmpty && decide (k = 0)) (some true) none)
   | 17 => cnd (ge0L ab F ⟨k - 1, l⟩ || ge0L ab F (mulLn (-1) ⟨k + 1, l⟩)) (some true) (cnd (l.isEmpty && decide (k = 0)) (some false) none)
   | _ => none
abbrev Rgf := Facts → Value → Option Iv
noncomputable def andIv (lo hi : Option Int) (o : Option Iv) : Option Iv :=
 match lo with
 | some a => match hi with
   | some b => match o with
     | some ⟨a', b'⟩ => some ⟨cnd (decide (a < a')) a' a, cnd (decide (b' < b)) b' b⟩
     | none => some ⟨a, b⟩
   | none => match o with
     | some ⟨a', b'⟩ => some ⟨cnd (decide (a < a')) a' a, b'⟩
     | none => none
 | none => match hi with
   | some b => match o with
     | some ⟨a', b'⟩ => some ⟨a', cnd (decide (b' < b)) b' b⟩
     | none => none
   | none => o
noncomputable def abOf (rg : Rgf) (Γ : Facts) (v : Value) : Option Iv :=
 cnd (i64S v) (match bdOf v Γ with
  | ⟨lo, hi⟩ => andIv lo hi (rg Γ v)) none
noncomputable def linC (rg : Rgf) (Γ : Facts) (c : Nat) (u v : Value) : Option Bool :=
 match linT (abOf rg Γ) 30 u with
 | some A => match linT (abOf rg Γ) 30 v with
   | some B => match decLn (abOf rg Γ) [] c (addLn (-1) A B) with
     | some b => some b
     | none => decLn (abOf rg Γ) (factsLn (abOf rg Γ) Γ) c (addLn (-1) A B)
   | none => none
 | none => none
noncomputable def linM (rg : Rgf) (Γ : Facts) (c : Value) : Option Bool :=
 match c with
 | .func (.methodOf op _) ⟨[u, v]⟩ _ => cnd (Nat.beq (Nat.mod op 16) 8 && (Nat.ble 12 (Nat.div op 16) && Nat.ble (Nat.div op 16) 17)) (cnd (i64S u && i64S v) (linC rg Γ (Nat.div op 16) u v) none) none
 | _ => none
section
variable {m : Mu}
noncomputable def num (m : Mu) (v : Value) : Int := match den m v with
 | some (.int _ a) => a
 | _ => 0
theorem num_of {v : Value} {k : IntKind} {a : Int} (h : den m v = some (.int k a)) : num m v = a := by unfold num; rw [h]
noncomputable def sumA (m : Mu) : List (Int × Value) → Int
 | [] => 0
 | (k, v) :: l => k * num m v + sumA m l
noncomputable def sumLn (m : Mu) (L : Ln) : Int := L.c + sumA m L.l
def AbOk (m : Mu) (ab : Value → Option Iv) : Prop := ∀ v x, ab v = some x → ∃ a, den m v = some (.int .i64 a) ∧ x.lo ≤ a ∧ a ≤ x.hi
variable {ab : Value → Option Iv} (hab : AbOk m ab)
theorem addA_sum (k : Int) (v : Value) : ∀ l, sumA m (addA k v l) = k * num m v + sumA m l
 | [] => rfl
 | (k', u) :: l => by
   show sumA m (cnd (veq 1000 u v) (cnd (decide (k + k' = 0)) l ((k + k', u) :: l)) ((k', u) :: addA k v l)) = _
   rw [zaa]
   split
   ·rename_i hv
    have := veq_eq _ _ _ hv
    subst this
    rw [zaa]
    split
    ·rename_i h0
     have h0 : k + k' = 0 := of_decide_eq_true h0
     have : k * num m u + (k' * num m u + sumA m l) = (k + k') * num m u + sumA m l := by rw [Int.add_mul]; omega
     show sumA m l = k * num m u + (k' * num m u + sumA m l)
     rw [this, h0]; simp
    ·show (k + k') * num m u + sumA m l = k * num m u + (k' * num m u + sumA m l)
     rw [Int.add_mul]; omega
   ·show k' * num m u + sumA m (addA k v l) = k * num m v + (k' * num m u + sumA m l)
    rw [addA_sum k v l]; omega
theorem addL_sum (s : Int) : ∀ l r, sumA m (addL s l r) = s * sumA m l + sumA m r
 | [], r => by simp [addL, sumA]
 | (k, v) :: l, r => by
   show sumA m (addL s l (addA (s * k) v r)) = _
   rw [addL_sum s l, addA_sum]
   show s * sumA m l + (s * k * num m v + sumA m r) = s * (k * num m v + sumA m l) + sumA m r
   rw [Int.mul_add, Int.mul_assoc]; omega
theorem addLn_sum (s : Int) (A B : Ln) : sumLn m (addLn s A B) = s * sumLn m A + sumLn m B := by
 obtain ⟨c, l⟩ := A
 obtain ⟨c', l'⟩ := B
 show s * c + c' + sumA m (addL s l l') = s * (c + sumA m l) + (c' + sumA m l')
 rw [addL_sum, Int.mul_add]; omega
theorem mulA_sum (s : Int) : ∀ l, sumA m (mulA s l) = s * sumA m l
 | [] => by simp [mulA, sumA]
 | (k, v) :: l => by
   show s * k * num m v + sumA m (mulA s l) = s * (k * num m v + sumA m l)
   rw [mulA_sum s l, Int.mul_add, Int.mul_assoc]
theorem mulLn_sum (s : Int) (A : Ln) : sumLn m (mulLn s A) = s * sumLn m A := by
 obtain ⟨c, l⟩ := A
 show sumLn m (cnd (decide (s = 0)) ⟨0, []⟩ ⟨s * c, mulA s l⟩) = _
 rw [zaa]
 split
 ·rename_i h0
  have h0 : s = 0 := of_decide_eq_true h0
  subst h0
  simp [sumLn, sumA]
 ·show s * c + sumA m (mulA s l) = s * (c + sumA m l)
  rw [mulA_sum, Int.mul_add]
include hab
theorem ivL_ok : ∀ (l : List (Int × Value)) (lo hi : Int) {x : Iv}, ivL ab l lo hi = some x → ∀ n, lo ≤ n → n ≤ hi → x.lo ≤ n + sumA m l ∧ n + sumA m l ≤ x.hi
 | [], lo, hi, x, h, n, h1, h2 => by cases h; simp [sumA]; exact ⟨h1, h2⟩
 | (k, v) :: l, lo, hi, x, h, n, h1, h2 => by
   have h : (match ab v with
    | some ⟨a, b⟩ => cnd (decide (0 ≤ k)) (ivL ab l (lo + k * a) (hi + k * b)) (ivL ab l (lo + k * b) (hi + k * a))
    | none => none) = some x := h
   split at h
   ·rename_i a b hv
    obtain ⟨z, hz, g1, g2⟩ := hab _ _ hv
    simp only at g1 g2
    have hn := num_of hz
    show x.lo ≤ n + (k * num m v + sumA m l) ∧ n + (k * num m v + sumA m l) ≤ x.hi
    rw [hn, ← Int.add_assoc]
    rw [zaa] at h
    split at h
    ·rename_i hk
     have hk : 0 ≤ k := of_decide_eq_true hk
     have := Int.mul_le_mul_of_nonneg_left g1 hk
     have := Int.mul_le_mul_of_nonneg_left g2 hk
     exact ivL_ok l _ _ h _ (by omega) (by omega)
    ·rename_i hk
     have hk : ¬ 0 ≤ k := fun h => hk (decide_eq_true h)
     have := Int.mul_le_mul_of_nonpos_left (a := k) (by omega) g1
     have := Int.mul_le_mul_of_nonpos_left (a := k) (by omega) g2
     exact ivL_ok l _ _ h _ (by omega) (by omega)
   ·cases h
theorem ivOf_ok {L : Ln} {x : Iv} (h : ivOf ab L = some x) : x.lo ≤ sumLn m L ∧ sumLn m L ≤ x.hi := by
 obtain ⟨c, l⟩ := L
 exact ivL_ok hab l c c h c (Int.le_refl _) (Int.le_refl _)
theorem fitIv_ok {L L' : Ln} (h : fitIv (ivOf ab L) L = some L') : L' = L ∧ -4611686018427387904 ≤ sumLn m L ∧ sumLn m L ≤ 4611686018427387904 := by
 unfold fitIv at h
 split at h
 ·rename_i a b hi
  have := ivOf_ok hab hi
  simp only at this
  rw [zaa] at h
  split at h
  ·rename_i hck
   obtain ⟨h1, h2⟩ := zac hck
   have h1 := of_decide_eq_true h1
   have h2 := of_decide_eq_true h2
   cases h
   exact ⟨rfl, by omega, by omega⟩
  ·cases h
 ·cases h
omit hab in
theorem isC_ok {L : Ln} {s : Int} (h : isC L = some s) : sumLn m L = s := by
 obtain ⟨c, l⟩ := L
 unfold isC at h
 simp only at h
 split at h
 ·cases h; simp [sumLn, sumA]
 ·cases h
theorem mulO_ok {A B L : Ln} (h : mulO ab A B = some L) : sumLn m L = sumLn m A * sumLn m B ∧ -4611686018427387904 ≤ sumLn m L ∧ sumLn m L ≤ 4611686018427387904 := by
 unfold mulO at h
 split at h
 ·rename_i s hs
  obtain ⟨rfl, h1, h2⟩ := fitIv_ok hab h
  rw [mulLn_sum] at h1 h2 ⊢
  rw [isC_ok hs]
  exact ⟨rfl, h1, h2⟩
 ·split at h
  ·rename_i s hs
   obtain ⟨rfl, h1, h2⟩ := fitIv_ok hab h
   rw [mulLn_sum] at h1 h2 ⊢
   rw [isC_ok hs]
   exact ⟨Int.mul_comm _ _, h1, h2⟩
  ·cases h
theorem atomL_ok {v : Value} {L : Ln} (h : atomL ab v = some L) : ∃ a, den m v = some (.int .i64 a) ∧ sumLn m L = a := by
 unfold atomL at h
 split at h
 ·rename_i x hx
  cases h
  obtain ⟨a, ha, _⟩ := hab _ _ hx
  exact ⟨a, ha, by simp [sumLn, sumA, num_of ha]⟩
 ·cases h
omit hab in
theorem arith_den {op : Nat} {nm : String} {x y : Value} {c : Array Value} {a b r : Int} {o : BinOp} (ho : op = 16 * binCode o + 3) (hb : o = .add ∨ o = .sub ∨ o = .mul) (hx : den m x = some (.int .i64 a)) (hy : den m y = some (.int .i64 b)) (hr : zao o .i64 a b = some (.int .i64 (IntKind.i64.wrap r))) (h1 : -4611686018427387904 ≤ r) (h2 : r ≤ 4611686018427387904) :
  den m (.func (.methodOf op nm) ⟨[x, y]⟩ c) = some (.int .i64 r) := by
 have hw : IntKind.i64.wrap r = r := IntWalk.i64_in _ (by omega)
 rw [hw] at hr
 rw [den_any]
 subst ho
 refine den_sy (c := binCode o) (s := 3) (by decide) (binCode_lt o) (denL2 hx hy) ?_ (zav (k := .i64) (by rw [wfK_iff]; simp only; omega))
 rw [stdI2]
 have hs : isShift o = false := by rcases hb with rfl | rfl | rfl <;> rfl
 simp [zag, hs, kEq_refl, hr]
theorem opL_ok {op : Nat} {nm : String} {x y : Value} {c : Array Value} {A B : Option Ln} {L : Ln} (hA : ∀ L, A = some L → ∃ a, den m x = some (.int .i64 a) ∧ sumLn m L = a) (hB : ∀ L, B = some L → ∃ a, den m y = some (.int .i64 a) ∧ sumLn m L = a)
  (h : opL ab op (.func (.methodOf op nm) ⟨[x, y]⟩ c) A B = some L) : ∃ a, den m (.func (.methodOf op nm) ⟨[x, y]⟩ c) = some (.int .i64 a) ∧ sumLn m L = a := by
 unfold opL at h
 split at h
 ·rename_i A
  split at h
  ·rename_i B
   obtain ⟨a, ha, hsa⟩ := hA A rfl
   obtain ⟨b, hb, hsb⟩ := hB B rfl
   rw [zaa] at h
   split at h
   ·rename_i ho
    obtain ⟨rfl, h1, h2⟩ := fitIv_ok hab h
    rw [addLn_sum, hsa, hsb] at h1 h2 ⊢
    exact ⟨_, arith_den (o := .add) (by rw [zad ho]; rfl) (.inl rfl) ha hb (r := 1 * a + b) (by simp [zao]) h1 h2, rfl⟩
   ·rw [zaa] at h
    split at h
    ·rename_i ho
     obtain ⟨rfl, h1, h2⟩ := fitIv_ok hab h
     rw [addLn_sum, hsa, hsb] at h1 h2 ⊢
     exact ⟨_, arith_den (o := .sub) (by rw [zad ho]; rfl) (.inr (.inl rfl)) ha hb (r := -1 * b + a) (by simp only [zao]; congr 3; omega) h1 h2, rfl⟩
    ·rw [zaa] at h
     split at h
     ·rename_i ho
      obtain ⟨e1, h1, h2⟩ := mulO_ok hab h
      rw [e1, hsa, hsb] at h1 h2
      exact ⟨_, arith_den (o := .mul) (by rw [zad ho]; rfl) (.inr (.inr rfl)) ha hb (r := a * b) (by simp [zao]) h1 h2, by rw [e1, hsa, hsb]⟩
     ·cases h
  ·exact atomL_ok hab h
 ·exact atomL_ok hab h
omit hab in
theorem linT_sy {d op : Nat} {nm : String} (l : List Value) {c : Array Value} : linT ab (d + 1) (.func (.methodOf op nm) ⟨l⟩ c) = (match l with
 | [x, y] => cnd (Nat.beq op 19 || (Nat.beq op 35 || Nat.beq op 51)) (match opL ab op (.func (.methodOf op nm) ⟨l⟩ c) (linT ab d x) (linT ab d y) with
   | some L => some L
   | none => atomL ab (.func (.methodOf op nm) ⟨l⟩ c)) (atomL ab (.func (.methodOf op nm) ⟨l⟩ c))
 | _ => atomL ab (.func (.methodOf op nm) ⟨l⟩ c)) := rfl
theorem linT_ok : ∀ (d : Nat) {v : Value} {L : Ln}, linT ab d v = some L → ∃ a, den m v = some (.int .i64 a) ∧ sumLn m L = a
 | 0, v, L, h => by cases h
 | d + 1, v, L, h => by
   cases v with
   | int k n =>
     cases k with
     | i64 =>
       have h : some (⟨n, []⟩ : Ln) = some L := h
       cases h
       exact ⟨n, by rw [den], by simp [sumLn, sumA]⟩
     | _ => cases h
   | func fn a c =>
     cases fn with
     | methodOf op nm =>
       obtain ⟨l⟩ := a
       rw [linT_sy] at h
       split at h
       ·rename_i x y
        rw [zaa] at h
        split at h
        ·split at h
         ·rename_i L' hL
          cases h
          exact opL_ok hab (fun L h => linT_ok d h) (fun L h => linT_ok d h) hL
         ·exact atomL_ok hab h
        ·exact atomL_ok hab h
       ·exact atomL_ok hab h
     | _ => cases h
   | _ => cases h
theorem ge0I_ok {L : Ln} (h : ge0I ab L = true) : 0 ≤ sumLn m L := by
 unfold ge0I at h
 split at h
 ·rename_i a b hi
  have := (ivOf_ok hab hi).1
  have h := of_decide_eq_true h
  simp only at this
  omega
 ·cases h
omit hab in
theorem sumLn_c (k : Int) (l : List (Int × Value)) : sumLn m ⟨k, l⟩ = k + sumA m l := rfl
omit hab in
theorem relLn_ok {c : Nat} {D : Ln} {a b : Int} (hD : sumLn m D = b - a) (hr : relN c a b) : ∀ F ∈ relLn c D, 0 ≤ sumLn m F := by
 obtain ⟨k, l⟩ := D
 rw [sumLn_c] at hD
 intro F hF
 unfold relLn at hF
 simp only at hF
 split at hF
 ·simp only [List.mem_singleton] at hF; subst hF; have hr : a < b := hr; rw [sumLn_c]; omega
 ·simp only [List.mem_singleton] at hF; subst hF; have hr : a ≤ b := hr; rw [sumLn_c]; omega
 ·simp only [List.mem_singleton] at hF; subst hF; have hr : a > b := hr; rw [mulLn_sum, sumLn_c]; omega
 ·simp only [List.mem_singleton] at hF; subst hF; have hr : a ≥ b := hr; rw [mulLn_sum, sumLn_c]; omega
 ·have hr : a = b := hr
  simp only [List.mem_cons, List.not_mem_nil, or_false] at hF
  rcases hF with rfl | rfl
  ·rw [sumLn_c]; omega
  ·rw [mulLn_sum, sumLn_c]; omega
 ·simp at hF
theorem factLn_ok {x : Value × Bool} (hx : den m x.1 = some (.bool x.2)) : ∀ F ∈ factLn ab x, 0 ≤ sumLn m F := by
 obtain ⟨c, b⟩ := x
 intro F hF
 unfold factLn at hF
 simp only at hF hx
 split at hF
 ·rename_i op nm u v cc
  rw [zaa] at hF
  split at hF
  ·rename_i hop
   obtain ⟨h1, h2, h3⟩ := rel_op hop
   rw [zaa] at hF
   split at hF
   ·simp at hF
   ·split at hF
    ·rename_i A hA
     split at hF
     ·rename_i B hB
      obtain ⟨a, ha, hsa⟩ := linT_ok hab _ hA
      obtain ⟨b', hb, hsb⟩ := linT_ok hab _ hB
      rw [zau h3 ha hb, h2] at hx
      have hr := cmp_rel h1 hx
      rw [zaa] at hF
      refine relLn_ok (a := a) (b := b') ?_ hr F hF
      rw [addLn_sum, hsa, hsb]; omega
     ·simp at hF
    ·simp at hF
  ·simp at hF
 ·simp at hF
theorem factsLn_ok : ∀ {Γ : Facts}, Holds m Γ → ∀ F ∈ factsLn ab Γ, 0 ≤ sumLn m F
 | [], _, F, hF => by simp [factsLn] at hF
 | x :: Γ, h, F, hF => by
   rcases List.mem_append.1 hF with hF | hF
   ·exact factLn_ok hab (x := x) (h x.1 x.2 List.mem_cons_self) F hF
   ·exact factsLn_ok (fun c b hc => h c b (List.mem_cons_of_mem _ hc)) F hF
theorem ge0F1_ok {L : Ln} : ∀ {Fs : List Ln}, (∀ F ∈ Fs, 0 ≤ sumLn m F) → ge0F1 ab L Fs = true → 0 ≤ sumLn m L
 | [], _, h => by cases h
 | F :: l, hF, h => by
   have h : cnd (shareL F L) (cnd (ge0I ab (addLn (-1) F L)) true (ge0F1 ab L l)) (ge0F1 ab L l) = true := h
   have ih := ge0F1_ok (L := L) (Fs := l) (fun F h => hF F (List.mem_cons_of_mem _ h))
   rw [zaa, zaa] at h
   split at h
   ·split at h
    ·rename_i h0
     have := ge0I_ok hab h0
     rw [addLn_sum] at this
     have := hF F List.mem_cons_self
     omega
    ·exact ih h
   ·exact ih h
theorem ge0L_ok {Fs : List Ln} (hF : ∀ F ∈ Fs, 0 ≤ sumLn m F) {L : Ln} (h : ge0L ab Fs L = true) : 0 ≤ sumLn m L := by
 unfold ge0L at h
 rw [zaa] at h
 split at h
 ·rename_i h0; exact ge0I_ok hab h0
 ·exact ge0F1_ok hab hF h
theorem decLn_ok {Fs : List Ln} (hF : ∀ F ∈ Fs, 0 ≤ sumLn m F) {c : Nat} {D : Ln} {a b : Int} {r : Bool} (hD : sumLn m D = b - a) (h : decLn ab Fs c D = some r) : relN (if r = true then c else negC c) a b := by
 obtain ⟨k, l⟩ := D
 have g := fun {L : Ln} (h : ge0L ab Fs L = true) => ge0L_ok hab hF h
 rw [sumLn_c] at hD
 unfold decLn at h
 simp only at h
 split at h
 ·rw [zaa, zaa] at h
  split at h
  ·rename_i h0; have h0 := g h0; rw [sumLn_c] at h0; cases h; simp [relN]; omega
  ·split at h
   ·rename_i h0; have h0 := g h0; rw [mulLn_sum, sumLn_c] at h0; cases h; simp [relN, negC]; omega
   ·cases h
 ·rw [zaa, zaa] at h
  split at h
  ·rename_i h0; have h0 := g h0; rw [sumLn_c] at h0; cases h; simp [relN]; omega
  ·split at h
   ·rename_i h0; have h0 := g h0; rw [mulLn_sum, sumLn_c] at h0; cases h; simp [relN, negC]; omega
   ·cases h
 ·rw [zaa, zaa] at h
  split at h
  ·rename_i h0; have h0 := g h0; rw [mulLn_sum, sumLn_c] at h0; cases h; simp [relN]; omega
  ·split at h
   ·rename_i h0; have h0 := g h0; rw [sumLn_c] at h0; cases h; simp [relN, negC]; omega
   ·cases h
 ·rw [zaa, zaa] at h
  split at h
  ·rename_i h0; have h0 := g h0; rw [mulLn_sum, sumLn_c] at h0; cases h; simp [relN]; omega
  ·split at h
   ·rename_i h0; have h0 := g h0; rw [sumLn_c] at h0; cases h; simp [relN, negC]; omega
   ·cases h
 ·rw [zaa, zaa] at h
  split at h
  ·rename_i h0
   cases h
   rw [Bool.or_eq_true] at h0
   simp only [relN, negC, Bool.false_eq_true, if_false]
   rcases h0 with h0 | h0
   ·have h0 := g h0; rw [sumLn_c] at h0; omega
   ·have h0 := g h0; rw [mulLn_sum, sumLn_c] at h0; omega
  ·split at h
   ·rename_i h0
    cases h
    obtain ⟨h1, h2⟩ := zac h0
    have h2 := of_decide_eq_true h2
    have : l = [] := by cases l <;> first | rfl | cases h1
    subst this
    simp [sumA] at hD
    simp [relN]; omega
   ·cases h
 ·rw [zaa, zaa] at h
  split at h
  ·rename_i h0
   cases h
   rw [Bool.or_eq_true] at h0
   simp only [relN, if_true]
   rcases h0 with h0 | h0
   ·have h0 := g h0; rw [sumLn_c] at h0; omega
   ·have h0 := g h0; rw [mulLn_sum, sumLn_c] at h0; omega
  ·split at h
   ·rename_i h0
    cases h
    obtain ⟨h1, h2⟩ := zac h0
    have h2 := of_decide_eq_true h2
    have : l = [] := by cases l <;> first | rfl | cases h1
    subst this
    simp [sumA] at hD
    simp [relN, negC]; omega
   ·cases h
 ·cases h
end
def RgfOk (m : Mu) (rg : Rgf) : Prop := ∀ Γ, Holds m Γ → ∀ v x, rg Γ v = some x → ∃ a, den m v = some (.int .i64 a) ∧ x.lo ≤ a ∧ a ≤ x.hi
theorem i64S_den {m : Mu} {v : Value} {k : IntKind} {a : Int} (h : i64S v = true) (hd : den m v = some (.int k a)) : k = .i64 := by
 unfold i64S at h
 split at h
 ·rename_i s hs
  have h := zad h
  subst h
  have := sort_den (by decide) hs hd
  cases k <;> first | rfl | cases this
 ·cases h
theorem abOf_ok {m : Mu} {rg : Rgf} (hr : RgfOk m rg) {Γ : Facts} (hΓ : Holds m Γ) : AbOk m (abOf rg Γ) := by
 intro v x h
 unfold abOf at h
 rw [zaa] at h
 split at h
 ·rename_i h3
  have hb := bdOf_ok (t := v) hΓ
  split at h
  ·rename_i lo hi hbd
   rw [hbd] at hb
   obtain ⟨b1, b2⟩ := hb
   simp only at b1 b2
   have g := hr Γ hΓ v
   generalize rg Γ v = o at h g
   unfold andIv at h
   split at h
   ·rename_i a
    obtain ⟨k1, z, hz, h1⟩ := b1 a rfl
    have := i64S_den h3 hz
    subst this
    split at h
    ·rename_i b
     obtain ⟨k2, z2, hz2, h2⟩ := b2 b rfl
     have := den_int hz hz2
     subst this
     split at h
     ·rename_i a' b'
      obtain ⟨z3, hz3, h4, h5⟩ := g _ rfl
      have := den_int hz hz3
      subst this
      cases h
      refine ⟨z, hz, ?_, ?_⟩
      ·simp only [zaa]; split <;> assumption
      ·simp only [zaa]; split <;> assumption
     ·cases h; exact ⟨z, hz, h1, h2⟩
    ·split at h
     ·rename_i a' b'
      obtain ⟨z3, hz3, h4, h5⟩ := g _ rfl
      have := den_int hz hz3
      subst this
      cases h
      refine ⟨z, hz, ?_, h5⟩
      simp only [zaa]; split <;> assumption
     ·cases h
   ·split at h
    ·rename_i b
     obtain ⟨k2, z, hz, h2⟩ := b2 b rfl
     have := i64S_den h3 hz
     subst this
     split at h
     ·rename_i a' b'
      obtain ⟨z3, hz3, h4, h5⟩ := g _ rfl
      have := den_int hz hz3
      subst this
      cases h
      refine ⟨z, hz, h4, ?_⟩
      simp only [zaa]; split <;> assumption
     ·cases h
    ·exact g _ h
 ·cases h
theorem linM_ok {m : Mu} {rg : Rgf} (hr : RgfOk m rg) : MkOk m (linM rg) := by
 intro Γ hΓ c b h
 have hab := abOf_ok hr hΓ
 unfold linM at h
 split at h
 ·rename_i op nm u v cc
  rw [zaa] at h
  split at h
  ·rename_i hop
   obtain ⟨h1, h2, h3⟩ := rel_op hop
   rw [zaa] at h
   split at h
   ·unfold linC at h
    split at h
    ·rename_i A hA
     split at h
     ·rename_i B hB
      obtain ⟨a, ha, hsa⟩ := linT_ok hab _ hA
      obtain ⟨b', hb, hsb⟩ := linT_ok hab _ hB
      have hD : sumLn m (addLn (-1) A B) = b' - a := by rw [addLn_sum, hsa, hsb]; omega
      have hr : relN (if b = true then Nat.div op 16 else negC (Nat.div op 16)) a b' := by
       split at h
       ·rename_i b0 hb0
        cases h
        exact decLn_ok hab (Fs := []) (fun F h => by simp at h) hD hb0
       ·exact decLn_ok hab (factsLn_ok hab hΓ) hD h
      rw [zau h3 ha hb, h2]
      exact rel_itp h1 hr
     ·cases h
    ·cases h
   ·cases h
  ·cases h
 ·cases h
end Go.Gz
