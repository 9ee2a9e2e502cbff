/- The evaluator that the kernel runs: rules: what follows from what is known, one by one, each by a proof of its own. -/
import Derived.Test.YteglommbdpaokaaGreatGzOp
namespace Go.Gz
open Go Go.Gx Go.RowKit
structure Cd where
 ts : List (Value × Nat)
 G : Facts
 b : Bool
abbrev Rul := Facts → Value → List Cd
noncomputable def typed (dec : Value → Option Bool) : List (Value × Nat) → Bool
 | [] => true
 | x :: l => match x with
   | ⟨t, s⟩ => match wt dec 1000 t with
     | some s' => cnd (Nat.beq s' s) (typed dec l) false
     | none => false
noncomputable def firstR (d : Facts → Value → Option Bool) (Γ : Facts) : List Cd → Option Bool
 | [] => none
 | x :: l => match x with
   | ⟨ts, G, b⟩ => cnd (knowsL d Γ G) (cnd (typed (d Γ) ts) (some b) (firstR d Γ l)) (firstR d Γ l)
noncomputable def ruleM (d : Facts → Value → Option Bool) (r : Rul) (Γ : Facts) (c : Value) : Option Bool := firstR d Γ (r Γ c)
def Typed (m : Mu) (ts : List (Value × Nat)) : Prop := ∀ x ∈ ts, ∃ v, den m x.1 = some v ∧ srtA x.2 v = true
def RulOk (m : Mu) (r : Rul) : Prop := ∀ Γ c, ∀ x ∈ r Γ c, Typed m x.ts → Holds m x.G → den m c = some (.bool x.b)
theorem typed_ok {m : Mu} {dec : Value → Option Bool} (hd : ∀ c b, dec c = some b → den m c = some (.bool b)) : ∀ {ts : List (Value × Nat)}, typed dec ts = true → Typed m ts
 | [], _ => fun _ h => by simp at h
 | (t, s) :: l, h => by
   have h2 : (match wt dec 1000 t with
    | some s' => cnd (Nat.beq s' s) (typed dec l) false
    | none => false) = true := h
   clear h
   split at h2
   ·rename_i s' hs
    rw [zaa] at h2
    split at h2
    ·rename_i he
     have he := zad he
     subst he
     intro x hx
     rcases List.mem_cons.1 hx with rfl | hx
     ·exact wt_ok hd 1000 t s' hs
     ·exact typed_ok hd h2 x hx
    ·cases h2
   ·cases h2
theorem ruleM_ok {m : Mu} {d : Facts → Value → Option Bool} (hd : MkOk m d) {r : Rul} (hr : RulOk m r) : MkOk m (ruleM d r) := by
 intro Γ hΓ c b h
 have h : firstR d Γ (r Γ c) = some b := h
 have hall := hr Γ c
 generalize r Γ c = l at h hall
 induction l with
 | nil => cases h
 | cons x l ih =>
   obtain ⟨ts, G, b0⟩ := x
   have h2 : cnd (knowsL d Γ G) (cnd (typed (d Γ) ts) (some b0) (firstR d Γ l)) (firstR d Γ l) = some b := h
   have ih2 := fun h => ih h fun x hx => hall x (List.mem_cons_of_mem _ hx)
   rw [zaa, zaa] at h2
   split at h2
   ·rename_i hk
    split at h2
    ·rename_i ht
     cases h2
     exact hall _ List.mem_cons_self (typed_ok (hd Γ hΓ) ht) (knowsL_ok hd hΓ hk)
    ·exact ih2 h2
   ·exact ih2 h2
noncomputable def catR : List Rul → Rul
 | [], _, _ => []
 | r :: l, Γ, c => r Γ c ++ catR l Γ c
theorem catR_ok {m : Mu} : ∀ {l : List Rul}, (∀ r ∈ l, RulOk m r) → RulOk m (catR l)
 | [], _ => fun Γ c x hx => by simp [catR] at hx
 | r :: l, h => fun Γ c x hx => by
   have hx : x ∈ r Γ c ++ catR l Γ c := hx
   rcases List.mem_append.1 hx with hx | hx
   ·exact h r List.mem_cons_self Γ c x hx
   ·exact catR_ok (fun r hr => h r (List.mem_cons_of_mem _ hr)) Γ c x hx
structure Rg where
 op : Nat
 lo : Int
 hi : Int
noncomputable def findG (o : Nat) : List Rg → Option (Int × Int)
 | [] => none
 | x :: l => match x with
   | ⟨op, lo, hi⟩ => cnd (Nat.beq op o) (some (lo, hi)) (findG o l)
noncomputable def rgAns (op : Nat) (lo hi n : Int) : Option Bool :=
 cnd (Nat.beq op 200) (cnd (decide (hi < n)) (some true) (cnd (decide (n ≤ lo)) (some false) none))
 (cnd (Nat.beq op 216) (cnd (decide (hi ≤ n)) (some true) (cnd (decide (n < lo)) (some false) none))
 (cnd (Nat.beq op 232) (cnd (decide (n < lo)) (some true) (cnd (decide (hi ≤ n)) (some false) none))
 (cnd (Nat.beq op 248) (cnd (decide (n ≤ lo)) (some true) (cnd (decide (hi < n)) (some false) none)) none)))
noncomputable def rngR (tab : List Rg) : Rul := fun _ c =>
 match c with
 | .func (.methodOf op _) ⟨[.func (.methodOf o nm) a k, .int .i64 n]⟩ _ => match findG o tab with
   | some (lo, hi) => match rgAns op lo hi n with
     | some b => [⟨[(.func (.methodOf o nm) a k, 3)], [], b⟩]
     | none => []
   | none => []
 | _ => []
def RgOk (m : Mu) (tab : List Rg) : Prop := ∀ x ∈ tab, ∀ (nm : String) (a k : Array Value) (n : Int), den m (.func (.methodOf x.op nm) a k) = some (.int .i64 n) → x.lo ≤ n ∧ n ≤ x.hi
theorem findG_ok {o : Nat} {lo hi : Int} : ∀ {tab : List Rg}, findG o tab = some (lo, hi) → (⟨o, lo, hi⟩ : Rg) ∈ tab
 | [], h => by cases h
 | ⟨op, l, u⟩ :: tab, h => by
   have h : cnd (Nat.beq op o) (some (l, u)) (findG o tab) = some (lo, hi) := h
   rw [zaa] at h
   split at h
   ·rename_i he
    cases h
    rw [← zad he]; exact List.mem_cons_self
   ·exact List.mem_cons_of_mem _ (findG_ok h)
theorem srtA_i64 {v : Value} (h : srtA 3 v = true) : ∃ n, v = .int .i64 n := by
 have h := zat (by decide) h
 obtain ⟨k, n, rfl, hk, _⟩ := srt_num (s := 3) (by decide) h
 have : k = .i64 := by cases k <;> first | rfl | cases hk
 subst this
 exact ⟨n, rfl⟩
theorem rngR_ok {m : Mu} {tab : List Rg} (ht : RgOk m tab) : RulOk m (rngR tab) := by
 intro Γ c x hx hty _
 unfold rngR at hx
 split at hx
 ·rename_i op nm0 o nm a k n cc
  split at hx
  ·rename_i lo hi hf
   split at hx
   ·rename_i b hb
    have hx : x = ⟨[(.func (.methodOf o nm) a k, 3)], [], b⟩ := by simpa using hx
    subst hx
    obtain ⟨v, h1, h2⟩ := hty _ List.mem_cons_self
    obtain ⟨q, rfl⟩ := srtA_i64 h2
    have hr := ht _ (findG_ok hf) nm a k q h1
    simp only at hr
    unfold rgAns at hb
    simp only [zaa] at hb
    have hn : den m (.int .i64 n) = some (.int .i64 n) := by rw [den]
    split at hb
    ·rename_i ho
     have ho := zad ho
     subst ho
     rw [zau (by decide) h1 hn, itp_cmp (o := .lss) (.inl ⟨rfl, rfl⟩) rfl]
     split at hb
     ·rename_i h3; cases hb; have h3 := of_decide_eq_true h3; simp; omega
     ·split at hb
      ·rename_i h3; cases hb; have h3 := of_decide_eq_true h3; simp; omega
      ·cases hb
    ·split at hb
     ·rename_i ho
      have ho := zad ho
      subst ho
      rw [zau (by decide) h1 hn]
      show (match zag .leq (.int .i64 q) (.int .i64 n) with | some v => if srtA 8 v = true then some v else none | none => none) = _
      rw [zap _ _ _ rfl]
      show some (Value.bool (decide (q ≤ n))) = _
      split at hb
      ·rename_i h3; cases hb; have h3 := of_decide_eq_true h3; simp; omega
      ·split at hb
       ·rename_i h3; cases hb; have h3 := of_decide_eq_true h3; simp; omega
       ·cases hb
     ·split at hb
      ·rename_i ho
       have ho := zad ho
       subst ho
       rw [zau (by decide) h1 hn, itp_cmp (o := .gtr) (.inr (.inl ⟨rfl, rfl⟩)) rfl]
       split at hb
       ·rename_i h3; cases hb; have h3 := of_decide_eq_true h3; simp; omega
       ·split at hb
        ·rename_i h3; cases hb; have h3 := of_decide_eq_true h3; simp; omega
        ·cases hb
      ·split at hb
       ·rename_i ho
        have ho := zad ho
        subst ho
        rw [zau (by decide) h1 hn, itp_cmp (o := .geq) (.inr (.inr ⟨rfl, rfl⟩)) rfl]
        split at hb
        ·rename_i h3; cases hb; have h3 := of_decide_eq_true h3; simp; omega
        ·split at hb
         ·rename_i h3; cases hb; have h3 := of_decide_eq_true h3; simp; omega
         ·cases hb
       ·cases hb
   ·simp at hx
  ·simp at hx
 ·simp at hx
theorem sel_inv {m : Mu} {nm : String} {k : Array Value} {l : List Value} {i v : Value} (h : den m (.func (.methodOf 791 nm) ⟨[.agg ⟨l⟩, i]⟩ k) = some v) : ∃ (t : Value), t ∈ l ∧ den m t = some v := by
 obtain ⟨va, vi, h1, h2, h3⟩ := den_2I (by decide) h
 rw [den, denA] at h1
 split at h1
 ·rename_i vs hvs
  cases h1
  unfold itp at h3
  rw [if_pos (by decide)] at h3
  have h3 : (match (match vi with
   | .int _ j => if 0 ≤ j then vs[j.toNat]? else none
   | _ => none) with
   | some v => if srtA 7 v = true then some v else none
   | none => none) = some v := by
   cases vi <;> exact h3
  split at h3
  ·rename_i u hu
   split at h3
   ·cases h3
    split at hu
    ·rename_i kd j
     split at hu
     ·obtain ⟨t, g1, g2⟩ := denL_get hvs _ _ hu
      exact ⟨t, List.mem_of_getElem? g1, g2⟩
     ·cases hu
    ·cases hu
   ·cases h3
  ·cases h3
 ·cases h1
theorem code_yes {m : Mu} {op : Nat} {l : List Value} (h64 : 64 ≤ op / 16) (h8 : op % 16 = 8) (hne : op ≠ 1016) (h : den m (sy op l) = some (.bool true)) : ∃ vs, denL m l = some vs ∧ m.I op vs = .bool true := by
 unfold sy at h
 rw [den, denA] at h
 split at h
 ·rename_i vs hvs
  rw [if_neg hne] at h
  unfold itp at h
  rw [if_neg (by omega), h8] at h
  refine ⟨vs, hvs, ?_⟩
  have h : (if srtA 8 (fixS 8 (m.I op vs)) = true then some (fixS 8 (m.I op vs)) else none) = some (.bool true) := h
  unfold fixS at h
  split at h
  ·exact Option.some.inj h
  ·simp [dflt, codeK, cnd] at h
 ·rw [if_neg hne] at h; cases h
theorem code_num {m : Mu} {op : Nat} {nm : String} {a k : Array Value} {n : Int} (h64 : 64 ≤ op / 16) (h3 : op % 16 = 3) (hne : op ≠ 1016) (h : den m (.func (.methodOf op nm) a k) = some (.int .i64 n)) : ∃ vs, m.I op vs = .int .i64 n ∨ n = 0 := by
 rw [den] at h
 split at h
 ·rename_i vs hvs
  rw [if_neg hne] at h
  unfold itp at h
  rw [if_neg (by omega), h3] at h
  refine ⟨vs, ?_⟩
  have h : (if srtA 3 (fixS 3 (m.I op vs)) = true then some (fixS 3 (m.I op vs)) else none) = some (.int .i64 n) := h
  unfold fixS at h
  split at h
  ·exact .inl (Option.some.inj h)
  ·right
   have h : srtA 3 (Value.int .i64 0) = true ∧ 0 = n := by simpa [dflt, codeK, cnd] using h
   exact h.2.symm
 ·rw [if_neg hne] at h; cases h
theorem den_1Inv {m : Mu} {op : Nat} {nm : String} {x v : Value} {c : Array Value} (ho : ¬ op = 1016) (h : den m (.func (.methodOf op nm) ⟨[x]⟩ c) = some v) : ∃ vx, den m x = some vx ∧ itp m op [vx] = some v := by
 rw [den, denA, denL] at h
 cases hx : den m x with
 | none => rw [hx] at h; simp [if_neg ho] at h
 | some vx =>
   rw [hx, denL] at h
   simp only [if_neg ho] at h
   exact ⟨vx, rfl, h⟩
theorem den_anyname {m : Mu} {op : Nat} {nm nm2 : String} {a c c2 : Array Value} : den m (.func (.methodOf op nm) a c) = den m (.func (.methodOf op nm2) a c2) := by rw [den, den]
theorem byte_inv {m : Mu} {x y v : Value} (h : itp m 804 [x, y] = some v) : ∃ (s : ByteArray) (a : Nat), x = .string s ∧ ∃ ha : a < s.data.toList.length, v = .int .u8 (s.data.toList[a]).toNat := by
 have h : (match (match x, y with
  | .string s, .int _ j => if 0 ≤ j then (s.data.toList[j.toNat]?).map fun b => Value.int .u8 b.toNat else none
  | _, _ => none) with
  | some v => if srtA 4 v = true then some v else none
  | none => none) = some v := by cases x <;> cases y <;> exact h
 split at h
 ·rename_i u hu
  split at h
  ·cases h
   split at hu
   ·rename_i s kd j _
    split at hu
    ·cases hq : s.data.toList[j.toNat]? with
     | none => rw [hq] at hu; cases hu
     | some q =>
       rw [hq] at hu
       cases hu
       obtain ⟨h1, h2⟩ := List.getElem?_eq_some_iff.1 hq
       exact ⟨s, j.toNat, rfl, h1, by rw [h2]⟩
    ·cases hu
   ·cases hu
  ·cases h
 ·cases h
theorem load_inv2 {m : Mu} {s : ByteArray} {x : Value} (h : itp m 649 [x] = some (.string s)) : ∃ b off cs t z, x = .pointer (some ⟨b, off, none⟩) ∧ m.K b = some (.cells (List.toArray cs) t z) ∧ cs[off]? = some (.string s) := by
 have h : (match (match x with
  | .pointer (some ⟨b, off, none⟩) => match m.K b with
    | some (.cells l _ _) => l.toList[off]?
    | _ => none
  | _ => none) with
  | some v => if srtA 9 v = true then some v else none
  | none => none) = some (.string s) := h
 split at h
 ·rename_i u hu
  split at h
  ·cases h
   split at hu
   ·rename_i b off
    split at hu
    ·rename_i l t z hK
     exact ⟨b, off, l.toList, t, z, rfl, by rw [hK], hu⟩
    ·cases hu
   ·cases hu
  ·cases h
 ·cases h
theorem elem_inv {m : Mu} {L i : Value} {l3 : List Value} {b o : Nat} (h1 : denL m [L, i, .int .i64 1] = some l3) (h2 : stdI m 44 10 l3 = some (.pointer (some ⟨b, o, none⟩))) :
  ∃ k c ii off, den m L = some (.slice (some ⟨b, off, none⟩) k c) ∧ ii < k ∧ o = off + ii := by
 obtain ⟨vL, e1, d1⟩ : ∃ v, l3[0]? = some v ∧ den m L = some v := by
  have hl := denL_size h1
  obtain ⟨t, q1, q2⟩ := denL_get h1 0 (l3[0]'(by rw [hl]; simp)) (List.getElem?_eq_getElem _)
  cases q1
  exact ⟨_, List.getElem?_eq_getElem _, q2⟩
 obtain ⟨vi, e2, d2⟩ : ∃ v, l3[1]? = some v ∧ den m i = some v := by
  have hl := denL_size h1
  obtain ⟨t, q1, q2⟩ := denL_get h1 1 (l3[1]'(by rw [hl]; simp)) (List.getElem?_eq_getElem _)
  cases q1
  exact ⟨_, List.getElem?_eq_getElem _, q2⟩
 have d3 : den m (.int .i64 1) = some (.int .i64 1) := by rw [den]
 simp only [denL, d1, d2, d3, Option.some.injEq] at h1
 subst h1
 have h2 : (match vL, vi, Value.int .i64 1 with
  | .slice (some ⟨b, off, none⟩) len _, .int _ i, .int _ e => if 0 ≤ i ∧ i < len ∧ 0 ≤ e then some (Value.pointer (some ⟨b, off + i.toNat * e.toNat, none⟩)) else none
  | _, _, _ => none) = some (.pointer (some ⟨b, o, none⟩)) := h2
 split at h2
 ·rename_i b0 off len cc k1 ii k2 e he _
  split at h2
  ·rename_i hc
   cases h2
   cases he
   exact ⟨len, cc, ii.toNat, off, d1, by omega, by simp⟩
  ·cases h2
 ·cases h2
end Go.Gz
