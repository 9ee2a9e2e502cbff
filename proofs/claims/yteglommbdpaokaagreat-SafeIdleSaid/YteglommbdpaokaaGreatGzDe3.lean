/- The evaluator that the kernel runs: what follows from facts: what means something (elements of slices of texts, their lengths, their bytes, one of some), parts of what is told of two, bytes as numbers. -/
import Derived.Test.YteglommbdpaokaaGreatGzLf
namespace Go.Gz
open Go Go.Gx Go.RowKit
noncomputable def isF (o : Option Bool) : Bool :=
 match o with
 | some b => !b
 | none => false
noncomputable def isT (o : Option Bool) : Bool :=
 match o with
 | some b => b
 | none => false
noncomputable def ge0F (Γ : Facts) (i : Value) : Bool := ge0C i || (isF (seekN Γ (sy 200 [i, .int .i64 0])) || (isT (seekN Γ (sy 248 [i, .int .i64 0])) || isF (bdM Γ (sy 200 [i, .int .i64 0]))))
noncomputable def ltF (Γ : Facts) (i n : Value) : Bool := isT (seekN Γ (sy 200 [i, n])) || isF (seekN Γ (sy 248 [i, n]))
noncomputable def rngF (Γ : Facts) (i n : Value) : Bool := ge0F Γ i && ltF Γ i n
noncomputable def txA (Γ : Facts) (t : Value) : Bool :=
 match t with
 | .func (.methodOf op _) ⟨[sl, i, e]⟩ _ => Nat.beq op 714 && (veq 5 e (.int .i64 1) && (isT (seekN Γ (sy 80008 [sl])) && rngF Γ i (sy 675 [sl])))
 | _ => false
noncomputable def txE (Γ : Facts) (t : Value) : Bool :=
 match t with
 | .func (.methodOf op _) ⟨[a]⟩ _ => Nat.beq op 649 && txA Γ a
 | _ => false
noncomputable def txN (Γ : Facts) (t : Value) : Bool :=
 match t with
 | .func (.methodOf op _) ⟨[a]⟩ _ => Nat.beq op 691 && txE Γ a
 | _ => false
noncomputable def txB (Γ : Facts) (t : Value) : Bool :=
 match t with
 | .func (.methodOf op _) ⟨[a, i]⟩ _ => Nat.beq op 804 && (txE Γ a && rngF Γ i (sy 691 [a]))
 | _ => false
noncomputable def selT (Γ : Facts) (t : Value) : Bool :=
 match t with
 | .func (.methodOf op _) ⟨[.agg cs, i]⟩ _ => Nat.beq (Nat.div op 16) 49 && (Nat.blt (Nat.mod op 16) 9 && ((match wtL (wt (fun _ => none) 1000) cs.toList with
   | some ss => allB (fun s => Nat.beq s (Nat.mod op 16)) ss
   | none => false) && (ge0F Γ i && (isT (seekN Γ (sy 200 [i, .int .i64 (.ofNat cs.size)])) || (isF (seekN Γ (sy 248 [i, .int .i64 (.ofNat cs.size)])) || isT (bdM Γ (sy 200 [i, .int .i64 (.ofNat cs.size)])))))))
 | _ => false
noncomputable def meansM (Γ : Facts) (c : Value) : Option Bool :=
 match c with
 | .func (.methodOf op _) ⟨[t]⟩ _ => cnd (Nat.beq op 1016 && (txA Γ t || (txE Γ t || (txN Γ t || (txB Γ t || selT Γ t))))) (some true) none
 | _ => none
def TxOk (m : Mu) : Prop := ∀ (p : Option Addr) (k c : Nat), itp m 80008 [.slice p k c] = some (.bool true) → ∃ L, txt m.K p k = some L
section
variable {m : Mu} {Γ : Facts} (hΓ : Holds m Γ)
include hΓ
theorem isT_den {c : Value} (h : isT (seekN Γ c) = true) : den m c = some (.bool true) := by
 unfold isT at h
 split at h
 ·rename_i b hb; subst h; exact seekN_den hΓ hb
 ·cases h
theorem isF_den {c : Value} (h : isF (seekN Γ c) = true) : den m c = some (.bool false) := by
 unfold isF at h
 split at h
 ·rename_i b hb
  have : b = false := by simpa using h
  subst this; exact seekN_den hΓ hb
 ·cases h
theorem isFb_den {c : Value} (h : isF (bdM Γ c) = true) : den m c = some (.bool false) := by
 unfold isF at h
 split at h
 ·rename_i b hb
  have : b = false := by simpa using h
  subst this; exact bdM_ok m Γ hΓ _ _ hb
 ·cases h
theorem isTb_den {c : Value} (h : isT (bdM Γ c) = true) : den m c = some (.bool true) := by
 unfold isT at h
 split at h
 ·rename_i b hb; subst h; exact bdM_ok m Γ hΓ _ _ hb
 ·cases h
omit hΓ in
theorem lss_inv {x y : Value} {b : Bool} (h : den m (sy 200 [x, y]) = some (.bool b)) : ∃ k a n, den m x = some (.int k a) ∧ den m y = some (.int k n) ∧ b = decide (a < n) := by
 obtain ⟨vx, vy, h1, h2, h3⟩ := den_2I (by decide) h
 obtain ⟨k, a, n, rfl, rfl, h4⟩ := itp_cmpI (.inl ⟨rfl, rfl⟩) h3
 simp only [zao, Option.some.injEq, Value.bool.injEq] at h4
 exact ⟨k, a, n, h1, h2, h4.symm⟩
omit hΓ in
theorem geq_inv {x y : Value} {b : Bool} (h : den m (sy 248 [x, y]) = some (.bool b)) : ∃ k a n, den m x = some (.int k a) ∧ den m y = some (.int k n) ∧ b = decide (a ≥ n) := by
 obtain ⟨vx, vy, h1, h2, h3⟩ := den_2I (by decide) h
 obtain ⟨k, a, n, rfl, rfl, h4⟩ := itp_cmpI (.inr (.inr ⟨rfl, rfl⟩)) h3
 simp only [zao, Option.some.injEq, Value.bool.injEq] at h4
 exact ⟨k, a, n, h1, h2, h4.symm⟩
theorem ge0F_ok {i : Value} (h : ge0F Γ i = true) : ∃ a, den m i = some (.int .i64 a) ∧ 0 ≤ a := by
 unfold ge0F at h
 rw [Bool.or_eq_true, Bool.or_eq_true, Bool.or_eq_true] at h
 rcases h with h | h | h | h
 ·obtain ⟨a, rfl, h0⟩ := ge0C_ok h
  exact ⟨a, by rw [den], h0⟩
 ·obtain ⟨k, a, n, h1, h2, h3⟩ := lss_inv (isF_den hΓ h)
  rw [den] at h2
  cases h2
  exact ⟨a, h1, by have := of_decide_eq_false h3.symm; omega⟩
 ·obtain ⟨k, a, n, h1, h2, h3⟩ := geq_inv (isT_den hΓ h)
  rw [den] at h2
  cases h2
  exact ⟨a, h1, by have := of_decide_eq_true h3.symm; omega⟩
 ·obtain ⟨k, a, n, h1, h2, h3⟩ := lss_inv (isFb_den hΓ h)
  rw [den] at h2
  cases h2
  exact ⟨a, h1, by have := of_decide_eq_false h3.symm; omega⟩
theorem ltF_ok {i n : Value} (h : ltF Γ i n = true) : ∃ k a b, den m i = some (.int k a) ∧ den m n = some (.int k b) ∧ a < b := by
 unfold ltF at h
 rw [Bool.or_eq_true] at h
 rcases h with h | h
 ·obtain ⟨k, a, n, h1, h2, h3⟩ := lss_inv (isT_den hΓ h)
  exact ⟨k, a, n, h1, h2, of_decide_eq_true h3.symm⟩
 ·obtain ⟨k, a, n, h1, h2, h3⟩ := geq_inv (isF_den hΓ h)
  exact ⟨k, a, n, h1, h2, by have := of_decide_eq_false h3.symm; omega⟩
theorem rngF_ok {i n : Value} (h : rngF Γ i n = true) : ∃ (a : Nat) (b : Int), den m i = some (.int .i64 (a : Int)) ∧ den m n = some (.int .i64 b) ∧ (a : Int) < b := by
 unfold rngF at h
 obtain ⟨h1, h2⟩ := zac h
 obtain ⟨a, g1, g2⟩ := ge0F_ok hΓ h1
 obtain ⟨k, a', b, g3, g4, g5⟩ := ltF_ok hΓ h2
 rw [g1] at g3
 cases g3
 obtain ⟨q, rfl⟩ := Int.eq_ofNat_of_zero_le g2
 exact ⟨q, b, g1, g4, g5⟩
variable (ht : TxOk m)
include ht
theorem txA_ok {t : Value} (h : txA Γ t = true) : ∃ (b off : Nat) (cs : List Value) (ty : TypeId) (z : Nat × Nat) (s : ByteArray), den m t = some (.pointer (some ⟨b, off, none⟩)) ∧ m.K b = some (.cells cs.toArray ty z) ∧ cs[off]? = some (.string s) ∧ s.size < 9223372036854775808 := by
 unfold txA at h
 split at h
 ·rename_i op nm sl i e c
  obtain ⟨h0, h⟩ := zac h
  obtain ⟨h1, h⟩ := zac h
  obtain ⟨h2, h3⟩ := zac h
  have h0 := zad h0
  subst h0
  have := veq_eq _ _ _ h1
  subst this
  obtain ⟨a, n, g1, g2, g3⟩ := rngF_ok hΓ h3
  -- the slice
  unfold sy at g2
  have gs : ∃ v, den m sl = some v := by
   cases hs : den m sl with
   | none => rw [den, denA, denL, hs] at g2; simp at g2
   | some v => exact ⟨v, rfl⟩
  obtain ⟨vs, hs⟩ := gs
  rw [den_1 (by decide) hs] at g2
  have hsl : ∃ p k c', vs = .slice p k c' ∧ n = k := by
   unfold itp at g2
   rw [if_pos (by decide)] at g2
   cases vs with
   | slice p k c' =>
     refine ⟨p, k, c', rfl, ?_⟩
     have g2 : (if srtA 3 (.int .i64 (k : Int)) = true then some (Value.int .i64 (k : Int)) else none) = some (.int .i64 n) := g2
     split at g2
     ·cases g2; rfl
     ·cases g2
   | bool q => cases g2
   | int k q => cases g2
   | _ => cases g2
  obtain ⟨p, k, c', rfl, rfl⟩ := hsl
  have htx := isT_den hΓ h2
  unfold sy at htx
  rw [den_1 (by decide) hs] at htx
  obtain ⟨L, hL⟩ := ht p k c' htx
  obtain ⟨q1, q2, q3⟩ := txt_get2 hL
  have hal : a < L.length := by omega
  rcases q2 with q2 | ⟨b, off, cs, ty, z, rfl, e2, e3⟩
  ·omega
  ·refine ⟨b, off + a, cs, ty, z, L[a], ?_, e2, e3 a hal, q3 a hal⟩
   rw [den_3 (by decide) hs g1 (by rw [den])]
   unfold itp
   rw [if_pos (by decide)]
   show (match (if 0 ≤ (a : Int) ∧ (a : Int) < (k : Int) ∧ (0 : Int) ≤ 1 then some (Value.pointer (some ⟨b, off + (a : Int).toNat * (1 : Int).toNat, none⟩)) else none) with
    | some v => if srtA 10 v = true then some v else none
    | none => none) = _
   rw [if_pos ⟨by omega, by omega, by omega⟩]
   have : off + (a : Int).toNat * (1 : Int).toNat = off + a := by simp
   rw [this]
   rfl
 ·cases h
theorem txE_ok {t : Value} (h : txE Γ t = true) : ∃ s : ByteArray, den m t = some (.string s) ∧ s.size < 9223372036854775808 := by
 unfold txE at h
 split at h
 ·rename_i op nm a c
  obtain ⟨h0, h⟩ := zac h
  have h0 := zad h0
  subst h0
  obtain ⟨b, off, cs, ty, z, s, g1, g2, g3, g4⟩ := txA_ok hΓ ht h
  refine ⟨s, ?_, g4⟩
  rw [den_1 (by decide) g1]
  unfold itp
  rw [if_pos (by decide)]
  show (match (match m.K b with
   | some (.cells l _ _) => l.toList[off]?
   | _ => none) with
   | some v => if srtA 9 v = true then some v else none
   | none => none) = _
  rw [g2]
  simp only [g3]
  rfl
 ·cases h
theorem txN_ok {t : Value} (h : txN Γ t = true) : ∃ v, den m t = some v := by
 unfold txN at h
 split at h
 ·rename_i op nm a c
  obtain ⟨h0, h⟩ := zac h
  have h0 := zad h0
  subst h0
  obtain ⟨s, g1, g2⟩ := txE_ok hΓ ht h
  refine ⟨.int .i64 s.size, ?_⟩
  rw [den_1 (by decide) g1]
  unfold itp
  rw [if_pos (by decide)]
  show (if srtA 3 (Value.int .i64 s.size) = true then some (Value.int .i64 s.size) else none) = _
  rw [if_pos]
  exact zav (k := .i64) (by rw [wfK_iff]; simp only; omega)
 ·cases h
theorem txB_ok {t : Value} (h : txB Γ t = true) : ∃ v, den m t = some v := by
 unfold txB at h
 split at h
 ·rename_i op nm a i c
  obtain ⟨h0, h⟩ := zac h
  obtain ⟨h1, h2⟩ := zac h
  have h0 := zad h0
  subst h0
  obtain ⟨s, g1, g2⟩ := txE_ok hΓ ht h1
  obtain ⟨j, n, g3, g4, g5⟩ := rngF_ok hΓ h2
  unfold sy at g4
  rw [den_1 (by decide) g1] at g4
  have g4 : (if srtA 3 (Value.int .i64 s.size) = true then some (Value.int .i64 s.size) else none) = some (.int .i64 n) := g4
  have hn : n = s.size := by
   split at g4
   ·cases g4; rfl
   ·cases g4
  subst hn
  have hj : j < s.data.toList.length := by
   have : s.data.toList.length = s.size := by simp
   omega
  refine ⟨.int .u8 (s.data.toList[j]).toNat, ?_⟩
  rw [zau (by decide) g1 g3]
  unfold itp
  rw [if_pos (by decide)]
  show (match (if (0 : Int) ≤ (j : Int) then (s.data.toList[(j : Int).toNat]?).map fun b => Value.int .u8 b.toNat else none) with
   | some v => if srtA 4 v = true then some v else none
   | none => none) = _
  rw [if_pos (by omega), Int.toNat_natCast, List.getElem?_eq_getElem hj]
  simp only [Option.map_some]
  rw [if_pos]
  refine zav (k := .u8) ?_
  rw [wfK_iff]
  simp only
  have := (s.data.toList[j]).toNat_lt
  omega
 ·cases h
omit hΓ ht in
theorem op49 {op : Nat} (h : Nat.beq (Nat.div op 16) 49 = true) : op / 16 < 64 ∧ ¬ op = 1016 := by
 have h : op / 16 = 49 := zad h
 omega
omit ht in
theorem selT_ok {t : Value} (h : selT Γ t = true) : ∃ v, den m t = some v := by
 unfold selT at h
 split at h
 ·rename_i op nm cs i c
  obtain ⟨h0, h⟩ := zac h
  obtain ⟨h1, h⟩ := zac h
  obtain ⟨h2, h⟩ := zac h
  obtain ⟨h3, h4⟩ := zac h
  obtain ⟨o1, o2⟩ := op49 h0
  have h0 : op / 16 = 49 := zad h0
  obtain ⟨a, g1, g2⟩ := ge0F_ok hΓ h3
  obtain ⟨q, rfl⟩ := Int.eq_ofNat_of_zero_le g2
  have hlt : q < cs.size := by
   rw [Bool.or_eq_true, Bool.or_eq_true] at h4
   have fin : ∀ {b : Bool}, (den m (sy 200 [i, .int .i64 (.ofNat cs.size)]) = some (.bool true)) → q < cs.size := fun h => by
    obtain ⟨k, a, n, e1, e2, e3⟩ := lss_inv h
    rw [g1] at e1
    cases e1
    rw [den] at e2
    cases e2
    have := of_decide_eq_true e3.symm
    have e : Int.ofNat cs.size = (cs.size : Int) := rfl
    omega
   rcases h4 with h | h | h
   ·exact fin (b := true) (isT_den hΓ h)
   ·obtain ⟨k, a, n, e1, e2, e3⟩ := geq_inv (isF_den hΓ h)
    rw [g1] at e1
    cases e1
    rw [den] at e2
    cases e2
    have := of_decide_eq_false e3.symm
    have e : Int.ofNat cs.size = (cs.size : Int) := rfl
    omega
   ·exact fin (b := true) (isTb_den hΓ h)
  split at h2
  ·rename_i ss hss
   obtain ⟨r, k1, k2⟩ := wtL_ok (m := m) (f := wt (fun _ => none) 1000) (fun v s hv => wt_ok (m := m) (dec := fun _ => none) (fun c b h => by cases h) 1000 v s hv) cs.toList ss hss
   have hall : ∀ (ss : List Nat) (r : List Value), Srts ss r → allB (fun s => Nat.beq s (op % 16)) ss = true → ∀ (j : Nat) (v : Value), r[j]? = some v → srtA (op % 16) v = true := by
    intro ss
    induction ss with
    | nil => intro r h _ j v hv; cases r <;> first | simp at hv | exact h.elim
    | cons s ss ih =>
      intro r h ha j v hv
      cases r with
      | nil => exact h.elim
      | cons a r =>
        unfold allB at ha
        rw [zaa] at ha
        split at ha
        ·rename_i hs
         cases j with
         | zero => simp at hv; subst hv; rw [← zad hs]; exact h.1
         | succ j => exact ih r h.2 ha j v (by simpa using hv)
        ·cases ha
   have hlen : ∀ {l r : List Value}, denL m l = some r → r.length = l.length := fun h => denL_size h
   have hrl := hlen k1
   have hv : r[q]? = some (r[q]'(by rw [hrl]; simpa using hlt)) := List.getElem?_eq_getElem _
   have hsv := hall ss r k2 h2 q _ hv
   refine ⟨r[q]'(by rw [hrl]; simpa using hlt), ?_⟩
   rw [zau o2 (by rw [den]; obtain ⟨l⟩ := cs; rw [denA, k1]) g1]
   unfold itp
   rw [if_pos o1, h0]
   show (match (if (0 : Int) ≤ (q : Int) then r[(q : Int).toNat]? else none) with
    | some v => if srtA (op % 16) v = true then some v else none
    | none => none) = _
   rw [if_pos (by omega), Int.toNat_natCast, hv]
   simp only
   rw [if_pos hsv]
  ·cases h2
 ·cases h
end
theorem meansM_ok {m : Mu} (ht : TxOk m) : MkOk m meansM := by
 intro Γ hΓ c b h
 unfold meansM at h
 split at h
 ·rename_i op nm t c'
  rw [zaa] at h
  split at h
  ·rename_i ho
   cases h
   obtain ⟨h0, h1⟩ := zac ho
   have h0 := zad h0
   subst h0
   have : ∃ v, den m t = some v := by
    rw [Bool.or_eq_true, Bool.or_eq_true, Bool.or_eq_true, Bool.or_eq_true] at h1
    rcases h1 with h | h | h | h | h
    ·obtain ⟨b, off, cs, ty, z, s, g1, _⟩ := txA_ok hΓ ht h; exact ⟨_, g1⟩
    ·obtain ⟨s, g1, _⟩ := txE_ok hΓ ht h; exact ⟨_, g1⟩
    ·exact txN_ok hΓ ht h
    ·exact txB_ok hΓ ht h
    ·exact selT_ok hΓ h
   obtain ⟨v, hv⟩ := this
   rw [den, denA, denL, hv]
   simp only [denL, if_true]
  ·cases h
 ·cases h
noncomputable def inTwo (f : Value → Bool) (x : Value) : Bool :=
 match x with
 | .func (.methodOf op _) ⟨[a, b]⟩ _ => cnd (Nat.beq op 344) (cnd (f a) true (f b)) false
 | _ => false
noncomputable def inConj (c : Value) : Nat → Value → Bool :=
 @Nat.rec (fun _ => Value → Bool) (fun _ => false) (fun _ rec x => cnd (veq 1000 x c) true (inTwo rec x))
noncomputable def conjM (Γ : Facts) (c : Value) : Option Bool :=
 @List.rec (Value × Bool) (fun _ => Option Bool) none (fun x _ ih => match x with
  | ⟨e, b⟩ => cnd (b && inConj c 20 e) (some true) ih) Γ
theorem inConj_ok {m : Mu} {c : Value} : ∀ (d : Nat) (x : Value), inConj c d x = true → den m x = some (.bool true) → den m c = some (.bool true)
 | 0, _, h, _ => by cases h
 | d + 1, x, h, hx => by
   have h0 : cnd (veq 1000 x c) true (inTwo (inConj c d) x) = true := h
   clear h
   rw [zaa] at h0
   split at h0
   ·rename_i hv; rw [← veq_eq _ _ _ hv]; exact hx
   ·have ih := inConj_ok (m := m) (c := c) d
    generalize inConj c d = f at h0 ih
    unfold inTwo at h0
    split at h0
    ·rename_i op nm a b c' _
     rw [zaa] at h0
     split at h0
     ·rename_i ho
      have ho := zad ho
      subst ho
      obtain ⟨va, vb, g1, g2, g3⟩ := den_2I (by decide) hx
      have : va = .bool true ∧ vb = .bool true := by
       unfold itp at g3
       rw [if_pos (by decide)] at g3
       have g3 : (match (match va, vb with
        | .bool a, .bool b => some (Value.bool (a && b))
        | _, _ => none) with
        | some v => if srtA 8 v = true then some v else none
        | none => none) = some (.bool true) := g3
       split at g3
       ·rename_i v hv
        split at hv
        ·rename_i p q
         cases hv
         split at g3
         ·simp only [Option.some.injEq, Value.bool.injEq, Bool.and_eq_true] at g3
          rw [g3.1, g3.2]; exact ⟨rfl, rfl⟩
         ·cases g3
        ·cases hv
       ·cases g3
      rw [this.1] at g1
      rw [this.2] at g2
      rw [zaa] at h0
      split at h0
      ·rename_i ha; exact ih a ha g1
      ·exact ih b h0 g2
     ·cases h0
    ·cases h0
theorem conjM_ok (m : Mu) : MkOk m conjM := by
 intro Γ
 induction Γ with
 | nil => intro _ c b h; cases h
 | cons x Γ ih =>
   intro hΓ c b h
   obtain ⟨e, b0⟩ := x
   have h : cnd (b0 && inConj c 20 e) (some true) (conjM Γ c) = some b := h
   rw [zaa] at h
   split at h
   ·rename_i hc
    cases h
    obtain ⟨h1, h2⟩ := zac hc
    subst h1
    exact inConj_ok 20 e h2 (hΓ _ _ List.mem_cons_self)
   ·exact ih (fun c b h => hΓ c b (List.mem_cons_of_mem _ h)) c b h
noncomputable def byteM (Γ : Facts) (c : Value) : Option Bool :=
 match c with
 | .func (.methodOf op _) ⟨[x, .int k n]⟩ _ => cnd (Nat.beq op 264 && (kEq k .u8 && hasS 4 x)) (orB (seekN Γ (sy 264 [sy 322 [x], .int .i32 n])) (cbM Γ (sy 264 [sy 322 [x], .int .i32 n]))) none
 | _ => none
theorem byteM_ok (m : Mu) : MkOk m byteM := by
 intro Γ hΓ c b h
 unfold byteM at h
 split at h
 ·rename_i op nm x k n c'
  rw [zaa] at h
  split at h
  ·rename_i hc
   obtain ⟨h0, h1⟩ := zac hc
   obtain ⟨h1, h2⟩ := zac h1
   have h0 := zad h0
   subst h0
   have h1 := kEq_eq h1
   subst h1
   have hd : den m (sy 264 [sy 322 [x], .int .i32 n]) = some (.bool b) := by
    unfold orB at h
    split at h
    ·rename_i v hv; cases h; exact seekN_den hΓ hv
    ·exact cbM_ok m Γ hΓ _ _ h
   obtain ⟨v1, v2, g1, g2, g3⟩ := den_2I (by decide) hd
   rw [den] at g2
   cases g2
   -- the byte
   have hx : ∃ v, den m x = some v := by
    cases hs : den m x with
    | none =>
      unfold sy at g1
      rw [den, denA, denL, hs] at g1
      simp at g1
    | some v => exact ⟨v, rfl⟩
   obtain ⟨vx, hx⟩ := hx
   unfold sy at g1
   rw [den_1 (by decide) hx] at g1
   have h4 : srtA 4 vx = true := by
    unfold hasS at h2
    split at h2
    ·rename_i s hs
     have hs4 := zad h2
     subst hs4
     unfold sortOf at hs
     split at hs
     ·rename_i k' q
      rw [zaa] at hs
      split at hs
      ·rename_i hw
       rw [den] at hx
       cases hx
       have : kCode k' = 4 := by simpa using hs
       rw [← this]
       exact zaq (zav hw)
      ·cases hs
     ·cases hs
     ·cases hs
     ·split at hs
      ·rename_i op2 nm2
       have hs2 : Nat.mod op2 16 = 4 := by simpa using hs
       have := den_srt hx
       have e : op2 % 16 = 4 := hs2
       rw [e] at this; exact this
      ·cases hs
     ·cases hs
    ·cases h2
   have hbyte : ∃ a, vx = .int .u8 a ∧ wfK .u8 a = true := by
    have := zat (by decide) h4
    obtain ⟨k', a, rfl, hk, hw⟩ := srt_num (by decide) this
    have : k' = .u8 := by cases k' <;> first | rfl | cases hk
    subst this
    exact ⟨a, rfl, hw⟩
   obtain ⟨a, rfl, hw⟩ := hbyte
   rw [wfK_iff] at hw
   simp only at hw
   have hwr : IntKind.wrap .i32 a = a := by
    have : wfK .i32 a = true := by rw [wfK_iff]; simp only; omega
    unfold wfK at this
    exact of_decide_eq_true this
   have hv1 : v1 = .int .i32 a := by
    have g1 : (if srtA 2 (Value.int .i32 (IntKind.wrap .i32 a)) = true then some (Value.int .i32 (IntKind.wrap .i32 a)) else none) = some v1 := g1
    rw [hwr] at g1
    split at g1
    ·cases g1; rfl
    ·cases g1
   subst hv1
   rw [zau (by decide) hx (by rw [den])]
   have g3 := itp_ofI (.inl ⟨rfl, rfl⟩) g3
   rw [itp_of (o := .eql) (.inl ⟨rfl, rfl⟩)]
   have e : zag .eql (.int .u8 a) (.int .u8 n) = some (.bool b) := by
    rw [zap _ _ _ rfl]
    rw [zap _ _ _ rfl] at g3
    exact g3
   rw [e]; rfl
  ·cases h
 ·cases h
noncomputable def anyM : Facts → Value → Option Bool := orM meansM (orM conjM (orM byteM cbM))
theorem anyM_ok {m : Mu} (ht : TxOk m) : MkOk m anyM := orM_ok (meansM_ok ht) (orM_ok (conjM_ok m) (orM_ok (byteM_ok m) (cbM_ok m)))
end Go.Gz
