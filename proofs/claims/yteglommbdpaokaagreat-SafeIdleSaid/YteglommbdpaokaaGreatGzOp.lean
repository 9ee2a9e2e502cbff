/- The evaluator that the kernel runs: opaque codes: what a function answers, whatever that is; two functions that answer the same share one. -/
import Derived.Test.YteglommbdpaokaaGreatGzTr
import Derived.Test.YteglommbdpaokaaGreatGzDe3
namespace Go.Gz
open Go Go.Gx Go.RowKit
structure Oq where
 f : FuncId
 perm : List Nat
 ps : List Pt
noncomputable def pickL (l : List Value) : List Nat → List Value
 | [] => []
 | i :: r => (match nth l i with
   | some v => v
   | none => undef) :: pickL l r
def KAll (K : Nat → Option Obj) (w : World) : Prop := ∀ r o, K r = some o → w.heap[r]? = some o
def AllGive (P : Program) (K : Nat → Option Obj) (q : List Oq) (l : List Value) (v : Value) : Prop := ∀ w, KAll K w → ∀ x ∈ q, GivesZ P x.f (unfl x.ps (pickL l x.perm)) w v
structure Otab where
 s : Nat
 q : List Oq
 im : List (Value × Facts)
 dv : Value
abbrev Base0 := (Nat → Option Obj) → Nat → List Value → Value
noncomputable def muV (G : Base0) (K : Nat → Option Obj) (l : List Value) : Mu := ⟨fun op a => if 8192 ≤ op / 16 then l.getD (op / 16 - 8192) undef else G K op a, K⟩
def Tells (G : Base0) (K : Nat → Option Obj) (im : List (Value × Facts)) (l : List Value) (v : Value) : Prop := ∀ x ∈ im, v = x.1 → Holds (muV G K l) x.2
open Classical in
noncomputable def opq (P : Program) (G : Base0) (tab : List Otab) (K : Nat → Option Obj) (k : Nat) (l : List Value) : Value :=
 match tab[k]? with
 | some q => if h : ∃ v, srt q.s v = true ∧ AllGive P K q.q l v ∧ Tells G K q.im l v then Classical.choose h else q.dv
 | none => undef
theorem opq_give {P : Program} {G : Base0} {tab : List Otab} {K : Nat → Option Obj} {k : Nat} {l : List Value} {q : Otab} (hq : tab[k]? = some q) (h : ∃ v, srt q.s v = true ∧ AllGive P K q.q l v ∧ Tells G K q.im l v) : srt q.s (opq P G tab K k l) = true ∧ AllGive P K q.q l (opq P G tab K k l) ∧ Tells G K q.im l (opq P G tab K k l) := by
 unfold opq
 rw [hq]
 simp only
 rw [dif_pos h]
 exact Classical.choose_spec h
noncomputable def dvOk (dv : Value) : List (Value × Facts) → Bool
 | [] => true
 | x :: l => match x with
   | ⟨c, _⟩ => cnd (isK c && !(veq 1000 dv c)) (dvOk dv l) false
theorem veq_K {v : Value} (h : isK v = true) : veq 1000 v v = true := by
 cases v with
 | int k n => show (kEq k k && decide (n = n)) = true; rw [kEq_refl]; simp
 | bool b => show cnd b b (!b) = true; cases b <;> rfl
 | string s =>
   show natsEq s.data.toList s.data.toList = true
   generalize s.data.toList = l
   induction l with
   | nil => rfl
   | cons a l ih => show cnd (Nat.beq a.toNat a.toNat) (natsEq l l) false = true; rw [Nat.beq_refl, ih]; rfl
 | _ => cases h
theorem dvOk_ne {dv : Value} : ∀ {im : List (Value × Facts)}, dvOk dv im = true → ∀ x ∈ im, dv ≠ x.1
 | [], _, x, hx => by simp at hx
 | (c, Γ) :: im, h, x, hx => by
   have h2 : cnd (isK c && !(veq 1000 dv c)) (dvOk dv im) false = true := h
   clear h
   rw [zaa] at h2
   split at h2
   ·rename_i h1
    obtain ⟨h1, h3⟩ := zac h1
    rcases List.mem_cons.1 hx with rfl | hx
    ·intro e
     have e : dv = c := e
     subst e
     rw [veq_K h1] at h3
     cases h3
    ·exact dvOk_ne h2 x hx
   ·cases h2
theorem opq_tells {P : Program} {G : Base0} {tab : List Otab} {K : Nat → Option Obj} {k : Nat} {l : List Value} {q : Otab} (hq : tab[k]? = some q) (hdv : dvOk q.dv q.im = true) : Tells G K q.im l (opq P G tab K k l) := by
 unfold opq
 rw [hq]
 simp only
 split
 ·rename_i h; exact (Classical.choose_spec h).2.2
 ·exact fun x hx e => absurd e (dvOk_ne hdv x hx)
theorem opq_srt {P : Program} {G : Base0} {tab : List Otab} {K : Nat → Option Obj} {k : Nat} {l : List Value} {q : Otab} (hq : tab[k]? = some q) (hdv : srt q.s q.dv = true) : srt q.s (opq P G tab K k l) = true := by
 unfold opq
 rw [hq]
 simp only
 split
 ·rename_i h; exact (Classical.choose_spec h).1
 ·exact hdv
noncomputable def noBad : Tr → Bool
 | .node _ y n => noBad y && noBad n
 | .leaf _ => true
 | .bad => false
noncomputable def leavesS (s : Nat) : Tr → Bool
 | .node _ y n => leavesS s y && leavesS s n
 | .leaf v => hasS s v
 | .bad => true
theorem explT_total {P : Program} {sm : Sm} {m : Mu} {mk : Facts → Value → Option Bool} (hmk : MkOk m mk) {fuel : Nat} : ∀ (d : Nat) (Γ : Facts) (s : S), Holds m Γ → noBad (explT P sm mk fuel d Γ s) = true → ∃ v, walkT m (explT P sm mk fuel d Γ s) = some v
 | 0, Γ, s, _, h => by cases h
 | d + 1, Γ, s, hΓ, h => by
   have ih := explT_total hmk (P := P) (sm := sm) (fuel := fuel) d
   obtain ⟨x, mode, todo, tm, cs, n, hp⟩ := s
   have hfk := hmk Γ hΓ
   have e : explT P sm mk fuel (d + 1) Γ ⟨x, mode, todo, tm, cs, n, hp⟩ = (match arunS P sm fuel true ⟨x, mode, todo, tm, cs, n, hp.set 32767 (.kb (mk Γ))⟩ with
    | .need c s' => match wt (mk Γ) 1000 c with
      | some z => cnd (Nat.beq z 8) (.node c (explT P sm mk fuel d ((c, true) :: Γ) s') (explT P sm mk fuel d ((c, false) :: Γ) s')) .bad
      | none => .bad
    | .stop s' => explT P sm mk fuel d Γ s'
    | .ok v _ _ => .leaf v
    | _ => .bad) := rfl
   rw [e] at h ⊢
   split at h
   ·rename_i c s' ha
    split at h
    ·rename_i z hz
     rw [zaa] at h ⊢
     split at h
     ·rename_i h8
      rw [if_pos h8]
      have h : (noBad (explT P sm mk fuel d ((c, true) :: Γ) s') && noBad (explT P sm mk fuel d ((c, false) :: Γ) s')) = true := h
      obtain ⟨h1, h2⟩ := zac h
      obtain ⟨v', hv, hs⟩ := wt_ok hfk 1000 c z hz
      rw [zad h8] at hs
      obtain ⟨b, rfl⟩ := srt_bool (zat (by decide) hs)
      unfold walkT
      rw [hv]
      cases b
      ·exact ih _ _ (hΓ.cons hv) h2
      ·exact ih _ _ (hΓ.cons hv) h1
     ·cases h
    ·cases h
   ·rename_i s' ha
    exact ih _ _ hΓ h
   ·rename_i v0 n0 hp0 ha
    exact ⟨v0, rfl⟩
   ·cases h
noncomputable def yesO : Option Bool → Bool
 | some b => b
 | none => false
noncomputable def sameV (dec : Value → Option Bool) (v u : Value) : Bool := cnd (veq 1000 v u) true (yesO (dec (sy 264 [v, u])))
def SameV (m : Mu) (v u : Value) : Prop := u = v ∨ ∃ d, den m v = some d ∧ den m u = some d ∧ one d = true
theorem sameV_ok {m : Mu} {dec : Value → Option Bool} (hd : ∀ c b, dec c = some b → den m c = some (.bool b)) {v u : Value} (h : sameV dec v u = true) : SameV m v u := by
 unfold sameV at h
 rw [zaa] at h
 split at h
 ·rename_i hv; exact .inl (veq_eq _ _ _ hv).symm
 ·unfold yesO at h
  split at h
  ·rename_i b hb
   subst h
   obtain ⟨vx, vy, h1, h2, h3⟩ := den_2I (by decide) (hd _ _ hb)
   have h4 := itp_eq h3
   have h5 := leaf_eq h4
   subst h5
   refine .inr ⟨vx, h1, h2, ?_⟩
   cases vx <;> first | rfl | (simp [zag] at h4)
  ·cases h
noncomputable def sameL (mk : Facts → Value → Option Bool) (v : Value) : Tr → Facts → Bool :=
 @Tr.rec (fun _ => Facts → Bool) (fun c _ _ y n Γ => match mk Γ c with
  | some b => cnd b (y Γ) (n Γ)
  | none => y ((c, true) :: Γ) && n ((c, false) :: Γ)) (fun u Γ => sameV (mk Γ) v u) (fun _ => false)
noncomputable def sameT2 (mk : Facts → Value → Option Bool) (t2 : Tr) : Tr → Facts → Bool :=
 @Tr.rec (fun _ => Facts → Bool) (fun c _ _ y n Γ => match mk Γ c with
  | some b => cnd b (y Γ) (n Γ)
  | none => y ((c, true) :: Γ) && n ((c, false) :: Γ)) (fun v Γ => sameL mk v t2 Γ) (fun _ => false)
theorem sameL_ok {m : Mu} {mk : Facts → Value → Option Bool} (hmk : MkOk m mk) {v : Value} : ∀ {t : Tr} {Γ : Facts} {u : Value}, Holds m Γ → sameL mk v t Γ = true → walkT m t = some u → SameV m v u
 | .node c y n, Γ, u, hΓ, h, hw => by
   have h : (match mk Γ c with
    | some b => cnd b (sameL mk v y Γ) (sameL mk v n Γ)
    | none => sameL mk v y ((c, true) :: Γ) && sameL mk v n ((c, false) :: Γ)) = true := h
   unfold walkT at hw
   split at h
   ·rename_i b hb
    rw [hmk Γ hΓ c b hb] at hw
    cases b
    ·exact sameL_ok hmk hΓ h hw
    ·exact sameL_ok hmk hΓ h hw
   ·obtain ⟨h1, h2⟩ := zac h
    split at hw
    ·rename_i hd; exact sameL_ok hmk (hΓ.cons hd) h1 hw
    ·rename_i hd; exact sameL_ok hmk (hΓ.cons hd) h2 hw
    ·cases hw
 | .leaf w, Γ, u, hΓ, h, hw => by
   cases hw
   have h : sameV (mk Γ) v w = true := h
   exact sameV_ok (hmk Γ hΓ) h
 | .bad, _, _, _, h, _ => by cases h
theorem sameT2_ok {m : Mu} {mk : Facts → Value → Option Bool} (hmk : MkOk m mk) {t2 : Tr} : ∀ {t : Tr} {Γ : Facts} {v u : Value}, Holds m Γ → sameT2 mk t2 t Γ = true → walkT m t = some v → walkT m t2 = some u → SameV m v u
 | .node c y n, Γ, v, u, hΓ, h, hv, hu => by
   have h : (match mk Γ c with
    | some b => cnd b (sameT2 mk t2 y Γ) (sameT2 mk t2 n Γ)
    | none => sameT2 mk t2 y ((c, true) :: Γ) && sameT2 mk t2 n ((c, false) :: Γ)) = true := h
   unfold walkT at hv
   split at h
   ·rename_i b hb
    rw [hmk Γ hΓ c b hb] at hv
    cases b
    ·exact sameT2_ok hmk hΓ h hv hu
    ·exact sameT2_ok hmk hΓ h hv hu
   ·obtain ⟨h1, h2⟩ := zac h
    split at hv
    ·rename_i hd; exact sameT2_ok hmk (hΓ.cons hd) h1 hv hu
    ·rename_i hd; exact sameT2_ok hmk (hΓ.cons hd) h2 hv hu
    ·cases hv
 | .leaf w, Γ, v, u, hΓ, h, hv, hu => by
   cases hv
   exact sameL_ok hmk hΓ h hu
 | .bad, _, _, _, _, h, _, _ => by cases h
noncomputable def natT (σ : List Nat) : Nat → Value → Bool :=
 @Nat.rec (fun _ => Value → Bool) (fun _ => false) (fun _ rec v => match v with
  | .func fn a _ => match fn with
    | .methodOf op _ => cnd (Nat.ble 8192 (Nat.div op 16)) (a.isEmpty && (match nth σ (Nat.sub (Nat.div op 16) 8192) with
      | some s => Nat.beq s (Nat.mod op 16)
      | none => false)) (cnd (Nat.blt (Nat.div op 16) 64 || (Nat.ble 4096 (Nat.div op 16) && Nat.blt (Nat.div op 16) 6000)) (allB rec a.toList) false)
    | _ => false
  | .int _ _ => true
  | .bool _ => true
  | .string _ => true
  | _ => false)
theorem natL_den {m m2 : Mu} {f : Value → Bool} (ih : ∀ v, f v = true → den m v = den m2 v) : ∀ {l : List Value}, allB f l = true → denL m l = denL m2 l
 | [], _ => rfl
 | v :: l, h => by
   unfold allB at h
   rw [zaa] at h
   split at h
   ·rename_i h1; simp only [denL, ih v h1, natL_den ih h]
   ·cases h
theorem sorted_at {σ : List Nat} {vs : List Value} (hs : Sorted σ vs) {i s : Nat} (h : σ[i]? = some s) : ∃ v, vs[i]? = some v ∧ srt s v = true := by
 have hlen := hs.len
 have hlt := (List.getElem?_eq_some_iff.1 h).1
 have hv : vs[i]? = some (vs[i]'(by omega)) := List.getElem?_eq_getElem (by omega)
 exact ⟨_, hv, hs.get h hv⟩
def Base0.Ok (G : Base0) (m : Mu) : Prop := ∀ op l, 4096 ≤ op / 16 → op / 16 < 6000 → m.I op l = G m.K op l
theorem natT_den {m : Mu} {G : Base0} (hG : G.Ok m) {ls vs : List Value} {σ : List Nat} {D : Nat → Value} (hd : denL m ls = some vs) (hs : Sorted σ vs) : ∀ (d : Nat) (v : Value), natT σ d v = true → den (subM m ls D) v = den (muV G m.K vs) v
 | 0, _, h => by cases h
 | d + 1, v, h => by
   cases v with
   | func fn a c =>
     cases fn with
     | methodOf op nm =>
       obtain ⟨l⟩ := a
       have h : cnd (Nat.ble 8192 (Nat.div op 16)) ((⟨l⟩ : Array Value).isEmpty && (match nth σ (Nat.sub (Nat.div op 16) 8192) with
        | some s => Nat.beq s (Nat.mod op 16)
        | none => false)) (cnd (Nat.blt (Nat.div op 16) 64 || (Nat.ble 4096 (Nat.div op 16) && Nat.blt (Nat.div op 16) 6000)) (allB (natT σ d) l) false) = true := h
       rw [zaa] at h
       split at h
       ·rename_i hge
        have hge : 8192 ≤ op / 16 := zaw hge
        obtain ⟨h1, h2⟩ := zac h
        split at h2
        ·rename_i s hs2
         rw [nth_get] at hs2
         have h2 : s = op % 16 := zad h2
         obtain ⟨v, hv, g3⟩ := sorted_at hs hs2
         have hv : vs[op / 16 - 8192]? = some v := hv
         obtain ⟨t, g1, g2⟩ := denL_get hd _ _ hv
         have g3' : srtA (op % 16) v = true := by rw [← h2]; exact zaq g3
         rw [var_den2 h1 hge g1 g2 g3']
         have hl : l = [] := by simpa using h1
         subst hl
         rw [den, denA, denL]
         have n1 : ¬ op = 1016 := by
          intro e; rw [e] at hge; exact absurd hge (by decide)
         have n2 : ¬ op / 16 < 64 := fun h => absurd (Nat.lt_of_le_of_lt hge h) (by decide)
         simp only [if_neg n1, itp, if_neg n2]
         have hI : (muV G m.K vs).I op [] = v := by
          show (if 8192 ≤ op / 16 then vs.getD (op / 16 - 8192) undef else _) = _
          rw [if_pos hge, List.getD_eq_getElem?_getD, hv]; rfl
         simp only [hI, fixS, if_pos g3']
        ·cases h2
       ·rw [zaa] at h
        split at h
        ·rename_i h64 hc
         have hc : (op / 16 < 64) ∨ (4096 ≤ op / 16 ∧ op / 16 < 6000) := by
          rw [Bool.or_eq_true] at hc
          rcases hc with hc | hc
          ·exact .inl (blt_lt hc)
          ·obtain ⟨c1, c2⟩ := zac hc
           exact .inr ⟨zaw c1, blt_lt c2⟩
         rw [den, den, denA, denA, natL_den (natT_den hG hd hs d) h]
         have hi : ∀ r, itp (subM m ls D) op r = itp (muV G m.K vs) op r := by
          intro r
          unfold itp
          rcases hc with hc | ⟨c1, c2⟩
          ·rw [if_pos hc, if_pos hc]
           rfl
          ·have n1 : ¬ 8192 ≤ op / 16 := fun h => absurd (Nat.lt_of_le_of_lt h c2) (by decide)
           have n2 : ¬ 1048576 ≤ op / 16 := fun h => absurd (Nat.lt_of_le_of_lt h c2) (by decide)
           have hI : (subM m ls D).I op r = (muV G m.K vs).I op r := by
            show subI m ls D op r = (if 8192 ≤ op / 16 then _ else G m.K op r)
            unfold subI
            rw [if_neg n1, if_neg n1]
            show (if 1048576 ≤ op / 16 then _ else _) = _
            rw [if_neg n2]
            exact hG op r c1 c2
           rw [hI]
           rfl
         simp only [hi]
        ·cases h
     | _ => cases h
   | int k n => rw [den, den]
   | bool b => rw [den, den]
   | string b => rw [den, den]
   | _ => cases h
noncomputable def natΓ (σ : List Nat) : Facts → Bool
 | [] => true
 | x :: l => match x with
   | ⟨c, _⟩ => cnd (natT σ 50 c) (natΓ σ l) false
noncomputable def natI (σ : List Nat) : List (Value × Facts) → Bool
 | [] => true
 | x :: l => match x with
   | ⟨c, Γ⟩ => cnd (isK c && natΓ σ Γ) (natI σ l) false
noncomputable def knowsL (mk : Facts → Value → Option Bool) (Γ : Facts) : Facts → Bool
 | [] => true
 | x :: l => match x with
   | ⟨c, b⟩ => match mk Γ c with
     | some b' => cnd (cnd b b' (!b')) (knowsL mk Γ l) false
     | none => false
noncomputable def knowsI (mk : Facts → Value → Option Bool) (Γ : Facts) (v : Value) : List (Value × Facts) → Bool
 | [] => true
 | x :: l => match x with
   | ⟨c, G⟩ => cnd (isK v && cnd (veq 1000 v c) (knowsL mk Γ G) true) (knowsI mk Γ v l) false
noncomputable def tellsT (mk : Facts → Value → Option Bool) (im : List (Value × Facts)) : Tr → Facts → Bool :=
 @Tr.rec (fun _ => Facts → Bool) (fun c _ _ y n Γ => y ((c, true) :: Γ) && n ((c, false) :: Γ)) (fun v Γ => knowsI mk Γ v im) (fun _ => false)
theorem knowsL_ok {m : Mu} {mk : Facts → Value → Option Bool} (hmk : MkOk m mk) {Γ : Facts} (hΓ : Holds m Γ) : ∀ {G : Facts}, knowsL mk Γ G = true → Holds m G
 | [], _ => fun _ _ h => by simp at h
 | (c, b) :: G, h => by
   have h2 : (match mk Γ c with
    | some b' => cnd (cnd b b' (!b')) (knowsL mk Γ G) false
    | none => false) = true := h
   clear h
   split at h2
   ·rename_i b' hb
    rw [zaa] at h2
    split at h2
    ·rename_i hbb
     have : b' = b := by cases b <;> cases b' <;> first | rfl | cases hbb
     subst this
     have k : Holds m G := knowsL_ok hmk hΓ (G := G) h2
     exact k.cons (hmk Γ hΓ c b' hb)
    ·cases h2
   ·cases h2
theorem knowsI_ok {m : Mu} {mk : Facts → Value → Option Bool} (hmk : MkOk m mk) {Γ : Facts} (hΓ : Holds m Γ) {v : Value} : ∀ {im : List (Value × Facts)}, knowsI mk Γ v im = true → ∀ x ∈ im, isK v = true ∧ (v = x.1 → Holds m x.2)
 | [], _, x, hx => by simp at hx
 | (c, G) :: im, h, x, hx => by
   have h2 : cnd (isK v && cnd (veq 1000 v c) (knowsL mk Γ G) true) (knowsI mk Γ v im) false = true := h
   clear h
   rw [zaa] at h2
   split at h2
   ·rename_i h1
    obtain ⟨h1, h3⟩ := zac h1
    rcases List.mem_cons.1 hx with rfl | hx
    ·refine ⟨h1, fun e => ?_⟩
     have e : v = c := e
     rw [zaa] at h3
     split at h3
     ·exact knowsL_ok hmk hΓ h3
     ·rename_i hv
      exfalso
      apply hv
      rw [e] at h1 ⊢
      exact veq_K h1
    ·exact knowsI_ok hmk hΓ h2 x hx
   ·cases h2
theorem tellsT_ok {m : Mu} {mk : Facts → Value → Option Bool} (hmk : MkOk m mk) {im : List (Value × Facts)} : ∀ {t : Tr} {Γ : Facts} {u : Value}, Holds m Γ → tellsT mk im t Γ = true → walkT m t = some u → ∀ x ∈ im, isK u = true ∧ (u = x.1 → Holds m x.2)
 | .node c y n, Γ, u, hΓ, h, hw => by
   have h : (tellsT mk im y ((c, true) :: Γ) && tellsT mk im n ((c, false) :: Γ)) = true := h
   obtain ⟨h1, h2⟩ := zac h
   unfold walkT at hw
   split at hw
   ·rename_i hd; exact tellsT_ok hmk (hΓ.cons hd) h1 hw
   ·rename_i hd; exact tellsT_ok hmk (hΓ.cons hd) h2 hw
   ·cases hw
 | .leaf v, Γ, u, hΓ, h, hw => by
   cases hw
   exact knowsI_ok hmk hΓ h
 | .bad, _, _, _, h, _ => by cases h
theorem natΓ_holds {m : Mu} {G : Base0} (hG : G.Ok m) {ls vs : List Value} {σ : List Nat} {D : Nat → Value} (hd : denL m ls = some vs) (hs : Sorted σ vs) : ∀ {Γ : Facts}, natΓ σ Γ = true → Holds (subM m ls D) Γ → Holds (muV G m.K vs) Γ
 | [], _, _ => fun _ _ h => by simp at h
 | (c, b) :: Γ, h, hΓ => by
   have h2 : cnd (natT σ 50 c) (natΓ σ Γ) false = true := h
   clear h
   rw [zaa] at h2
   split at h2
   ·rename_i h1
    have k : Holds (muV G m.K vs) Γ := natΓ_holds hG hd hs (Γ := Γ) h2 fun c b h => hΓ c b (List.mem_cons_of_mem _ h)
    refine k.cons ?_
    rw [← natT_den (D := D) hG hd hs 50 c h1]
    exact hΓ _ _ List.mem_cons_self
   ·cases h2
theorem natI_tells {m : Mu} {G : Base0} (hG : G.Ok m) {ls vs : List Value} {σ : List Nat} {D : Nat → Value} (hd : denL m ls = some vs) (hs : Sorted σ vs) {v : Value} : ∀ {im : List (Value × Facts)}, natI σ im = true → (∀ x ∈ im, v = x.1 → Holds (subM m ls D) x.2) → Tells G m.K im vs v
 | [], _, _ => fun x hx => by simp at hx
 | (c, Γ) :: im, h, hall => by
   have h2 : cnd (isK c && natΓ σ Γ) (natI σ im) false = true := h
   clear h
   rw [zaa] at h2
   split at h2
   ·rename_i h1
    obtain ⟨_, h1⟩ := zac h1
    intro x hx
    rcases List.mem_cons.1 hx with rfl | hx
    ·exact fun e => natΓ_holds hG hd hs h1 (hall _ List.mem_cons_self e)
    ·exact natI_tells hG hd hs h2 (fun x hx => hall x (List.mem_cons_of_mem _ hx)) x hx
   ·cases h2
theorem pickL_rel {e : Env} {n : Nat} {l l' : List Value} (h : RL e n l l') : ∀ (r : List Nat), (∀ i ∈ r, i < l.length) → RL e n (pickL l r) (pickL l' r)
 | [], _ => .nil
 | i :: r, hr => by
   have hi := hr i List.mem_cons_self
   have h1 : l[i]? = some l[i] := List.getElem?_eq_getElem hi
   obtain ⟨v', h2, h3⟩ := h.get h1
   unfold pickL
   rw [nth_get, nth_get, h1, h2]
   exact .cons _ _ _ _ h3 (pickL_rel h r fun j hj => hr j (List.mem_cons_of_mem _ hj))
theorem unfl_rel {e : Env} {n : Nat} : ∀ (ps : List Pt) {l l' : List Value}, RL e n l l' → RL e n (unfl ps l) (unfl ps l')
 | [], _, _, _ => .nil
 | .lf _ :: _, _, _, .nil => .nil
 | .lf _ :: ps, _, _, .cons _ _ _ _ h hl => .cons _ _ _ _ h (unfl_rel ps hl)
 | .st ss :: ps, _, _, h => .cons _ _ _ _ (.agg _ _ (h.take ss.length)) (unfl_rel ps (h.drop ss.length))
structure Ot where
 q : Oq
 t : Tr
noncomputable def treeQ (P : Program) (sm : Sm) (mk : Facts → Value → Option Bool) (fuel d : Nat) (σ : List Nat) (Γ : Facts) (q : Oq) : Tr := treeOf P sm mk fuel d q.f (unfl q.ps (pickL (pvars 0 σ) q.perm)) Γ
noncomputable def ltAll (n : Nat) : List Nat → Bool
 | [] => true
 | i :: l => cnd (Nat.blt i n) (ltAll n l) false
theorem ltAll_mem {n : Nat} : ∀ {l : List Nat}, ltAll n l = true → ∀ i ∈ l, i < n
 | [], _, i, hi => by simp at hi
 | j :: l, h, i, hi => by
   unfold ltAll at h
   rw [zaa] at h
   split at h
   ·rename_i hj
    rcases List.mem_cons.1 hi with rfl | hi
    ·exact blt_lt hj
    ·exact ltAll_mem h i hi
   ·cases h
theorem pvars_len : ∀ (k : Nat) (σ : List Nat), (pvars k σ).length = σ.length
 | _, [] => rfl
 | k, s :: ss => by simp [pvars, pvars_len (Nat.succ k) ss]
theorem all_give {P : Program} (hP : Small P) {m : Mu} {G : Base0} (hG : G.Ok m) {mk : Facts → Value → Option Bool} {fuel d : Nat} {σ : List Nat} {Γ : Facts} {s : Nat} {x0 : Ot} {xs : List Ot}
  (ht : ∀ x ∈ x0 :: xs, ∃ sm, (∀ τ D, SmOk P sm (subM m τ D)) ∧ treeQ P sm mk fuel d σ Γ x.q = x.t) (hmk : ∀ τ D, MkOk (subM m τ D) mk) (hb : ∀ x ∈ x0 :: xs, noBad x.t = true ∧ ltAll σ.length x.q.perm = true)
  (hok : okTr σ x0.t = true) (hs : leavesS s x0.t = true) (hsame : ∀ x ∈ xs, sameT2 mk x.t x0.t Γ = true) {im : List (Value × Facts)} (him : natI σ im = true) (htells : tellsT mk im x0.t Γ = true)
  {ls vs : List Value} (hd : denL m ls = some vs) (hσ : Sorted σ vs) (hΓ : Holds (subM m ls fun _ => undef) Γ) (hw : ∃ w, KAll m.K w) : ∃ v, srt s v = true ∧ AllGive P m.K ((x0 :: xs).map (·.q)) vs v ∧ Tells G m.K im vs v := by
 have hτ2 : ∀ (k s : Nat), σ[k]? = some s → ∃ t v, ls[k]? = some t ∧ den m t = some v ∧ srt s v = true := by
  intro k s hk
  have hlen := hσ.len
  have hlt := (List.getElem?_eq_some_iff.1 hk).1
  have hv : vs[k]? = some (vs[k]'(by omega)) := List.getElem?_eq_getElem (by omega)
  obtain ⟨t, h1, h2⟩ := denL_get hd k _ hv
  exact ⟨t, _, h1, h2, hσ.get hk hv⟩
 let D : Nat → Value := fun _ => undef
 have hrl := pvars_rel (D := D) hτ2 hd σ 0 fun i hi => by rw [Nat.zero_add]
 rw [List.drop_zero, List.take_of_length_le (by rw [hσ.size]; exact Nat.le_refl _)] at hrl
 -- each function's walk
 have walk : ∀ x ∈ x0 :: xs, ∃ u, walkT (subM m ls D) x.t = some u ∧ ∀ w, KAll m.K w → Calls P x.q.f (unfl x.q.ps (pickL vs x.q.perm)).toArray w fun o w' => ∃ e' n' v', e'.m = subM m ls D ∧ RV e' n' u v' ∧ o = .returned v' ∧ Below w.heap.size w w' := by
  intro x hx
  obtain ⟨sm, hsm, he⟩ := ht x hx
  obtain ⟨hb1, hb2⟩ := hb x hx
  have hargs : RL ⟨fun _ => 0, fun _ => 0, subM m ls D⟩ 0 (unfl x.q.ps (pickL (pvars 0 σ) x.q.perm)) (unfl x.q.ps (pickL vs x.q.perm)) :=
   unfl_rel _ (pickL_rel hrl _ fun i hi => by rw [pvars_len]; exact ltAll_mem hb2 i hi)
  have htot : ∃ u, walkT (subM m ls D) x.t = some u := by
   rw [← he] at hb1 ⊢
   unfold treeQ treeOf at hb1 ⊢
   split at hb1
   ·exact explT_total (hmk ls D) _ _ _ hΓ hb1
   ·cases hb1
  obtain ⟨u, hu⟩ := htot
  refine ⟨u, hu, fun w hw => ?_⟩
  have hu2 := hu
  rw [← he] at hu2
  exact tree_calls hP (hsm ls D) (hmk ls D) hΓ hu2 (fun r o hr => hw r o hr) hargs
 obtain ⟨u0, hu0, hc0⟩ := walk x0 List.mem_cons_self
 -- the first one's answer, as a value
 have hleaf : ∀ (t : Tr) (u : Value), okTr σ t = true → leavesS s t = true → walkT (subM m ls D) t = some u → pureV σ 50 u = true ∧ hasS s u = true := by
  intro t
  induction t with
  | node c y n ihy ihn =>
    intro u ho hl hw
    unfold okTr at ho
    unfold leavesS at hl
    obtain ⟨_, ho⟩ := zac ho
    obtain ⟨ho1, ho2⟩ := zac ho
    obtain ⟨hl1, hl2⟩ := zac hl
    unfold walkT at hw
    split at hw
    ·exact ihy u ho1 hl1 hw
    ·exact ihn u ho2 hl2 hw
    ·cases hw
  | leaf v => intro u ho hl hw; cases hw; exact ⟨ho, hl⟩
  | bad => intro u _ _ hw; cases hw
 obtain ⟨hp0, hs0⟩ := hleaf x0.t u0 hok hs hu0
 have hsort : sortOf u0 = some s := by
  unfold hasS at hs0
  split at hs0
  ·rename_i s' he; rw [he, zad hs0]
  ·cases hs0
 have hval : ∃ v, ∀ (e : Env) (n : Nat) (v' : Value), e.m = subM m ls D → RV e n u0 v' → v' = v ∧ srt s v' = true := by
  by_cases hex : ∃ (e : Env) (n : Nat) (v' : Value), e.m = subM m ls D ∧ RV e n u0 v'
  ·obtain ⟨e, n, v, h1, h2⟩ := hex
   exact ⟨v, fun e' n' v' h3 h4 => ⟨pure_one (h3.trans h1.symm) 50 u0 v' v hp0 h4 h2, (h4.leaf hsort).2⟩⟩
  ·exact ⟨undef, fun e n v' h1 h2 => absurd ⟨e, n, v', h1, h2⟩ hex⟩
 obtain ⟨v, hv⟩ := hval
 obtain ⟨w0, hw0⟩ := hw
 obtain ⟨_, _, _, ⟨e1, n1, v1, p1, p2, _, _⟩, _⟩ := hc0 w0 hw0 []
 obtain ⟨k1, k2⟩ := hv e1 n1 v1 p1 p2
 have htl : Tells G m.K im vs v := by
  refine natI_tells (D := D) hG hd hσ him fun x hx e => ?_
  obtain ⟨q1, q2⟩ := tellsT_ok (hmk ls D) hΓ htells hu0 x hx
  refine q2 ?_
  rw [← e, ← k1]
  cases u0 with
  | int k n => exact p2.intI.symm
  | bool b => exact p2.boolI.symm
  | string b => exact p2.strI.symm
  | _ => cases q1
 refine ⟨v, by rw [← k1]; exact k2, fun w hw x hx => ?_, htl⟩
 obtain ⟨y, hy, rfl⟩ := List.mem_map.1 hx
 obtain ⟨u, hu, hc⟩ := walk y hy
 have huu : SameV (subM m ls D) u0 u := by
  rcases List.mem_cons.1 hy with rfl | hy
  ·rw [hu] at hu0; cases hu0; exact .inl rfl
  ·exact sameT2_ok (hmk ls D) hΓ (hsame y hy) hu0 hu
 refine (hc w hw).mono fun o w' ⟨e2, n2, v2, q1, q2, q3, q4⟩ => ?_
 rcases huu with huu | ⟨d, g1, g2, g3⟩
 ·subst huu
  rw [q3, (hv e2 n2 v2 q1 q2).1]
  exact ⟨rfl, q4⟩
 ·have z1 := q2.den (u := d) (by rw [q1]; exact g2) g3
  have z2 := p2.den (u := d) (by rw [p1]; exact g1) g3
  rw [q3, z1, ← z2, k1]
  exact ⟨rfl, q4⟩
structure Op1 where
 f : FuncId
 ps : List Pt
 inv : List Nat
 op : Nat
 Γ : Facts
noncomputable def resO (ps : List Pt) (inv : List Nat) (op : Nat) (Γ : Facts) (args : List Value) (hp : Hp) : EntR := match flat ps args with
 | some ls => cnd (reqL (pickL ls inv) hp Γ) (.ans (sy op (pickL ls inv))) .no
 | none => .no
noncomputable def entO (x : Op1) : Ent := match x with
 | ⟨f, ps, inv, op, Γ⟩ => ⟨f, resO ps inv op Γ⟩
noncomputable def listEq : List Nat → List Nat → Bool
 | [], [] => true
 | a :: l, b :: r => cnd (Nat.beq a b) (listEq l r) false
 | _, _ => false
theorem listEq_eq : ∀ {l r : List Nat}, listEq l r = true → l = r
 | [], [], _ => rfl
 | a :: l, b :: r, h => by
   unfold listEq at h
   rw [zaa] at h
   split at h
   ·rename_i hh; rw [zad hh, listEq_eq h]
   ·cases h
 | [], _ :: _, h => by cases h
 | _ :: _, [], h => by cases h
noncomputable def pickN (l : List Nat) : List Nat → List Nat
 | [] => []
 | i :: r => (match nth l i with
   | some v => v
   | none => 0) :: pickN l r
theorem pickL_den {m : Mu} {ls vs : List Value} (hd : denL m ls = some vs) : ∀ (r : List Nat), (∀ i ∈ r, i < ls.length) → denL m (pickL ls r) = some (pickL vs r)
 | [], _ => rfl
 | i :: r, h => by
   have hi := h i List.mem_cons_self
   have hl := denL_size hd
   have hv : vs[i]? = some (vs[i]'(by omega)) := List.getElem?_eq_getElem (by omega)
   obtain ⟨t, h1, h2⟩ := denL_get hd i _ hv
   unfold pickL
   rw [nth_get, nth_get, h1, hv]
   simp only [denL, h2, pickL_den hd r fun j hj => h j (List.mem_cons_of_mem _ hj)]
theorem pickL_sorted {ss : List Nat} {vs : List Value} (hs : Sorted ss vs) : ∀ (r : List Nat), (∀ i ∈ r, i < ss.length) → Sorted (pickN ss r) (pickL vs r)
 | [], _ => trivial
 | i :: r, h => by
   have hi := h i List.mem_cons_self
   have hl := hs.len
   have hk : ss[i]? = some ss[i] := List.getElem?_eq_getElem hi
   have hv : vs[i]? = some (vs[i]'(by omega)) := List.getElem?_eq_getElem (by omega)
   have h1 := hs.get hk hv
   unfold pickN pickL
   rw [nth_get, nth_get, hk, hv]
   exact ⟨h1, pickL_sorted hs r fun j hj => h j (List.mem_cons_of_mem _ hj)⟩
theorem pickL_get {l : List Value} : ∀ {r : List Nat} {k : Nat}, (pickL l r)[k]? = (r[k]?).map fun i => match nth l i with
  | some v => v
  | none => undef
 | [], k => by simp [pickL]
 | i :: r, 0 => by simp [pickL]
 | i :: r, k + 1 => by simp [pickL, pickL_get (l := l) (r := r) (k := k)]
theorem pickL_len (l : List Value) : ∀ (r : List Nat), (pickL l r).length = r.length
 | [] => rfl
 | i :: r => by simp [pickL, pickL_len l r]
noncomputable def upto : Nat → List Nat
 | 0 => []
 | k + 1 => upto k ++ [k]
theorem upto_get : ∀ (n k : Nat), k < n → (upto n)[k]? = some k
 | 0, k, h => absurd h (Nat.not_lt_zero _)
 | n + 1, k, h => by
   have hl : ∀ n, (upto n).length = n := by
    intro n
    induction n with
    | zero => rfl
    | succ n ih => simp [upto, ih]
   unfold upto
   rcases Nat.lt_or_ge k n with hk | hk
   ·rw [List.getElem?_append_left (by rw [hl]; exact hk)]; exact upto_get n k hk
   ·have : k = n := by omega
    subst this
    rw [List.getElem?_append_right (by rw [hl]; exact Nat.le_refl _), hl]; simp
theorem pick_back {vs : List Value} {inv perm : List Nat} (h : pickN inv perm = upto vs.length) (hp : ∀ i ∈ perm, i < inv.length) : pickL (pickL vs inv) perm = vs := by
 have hlen : perm.length = vs.length := by
  have hl : ∀ n, (upto n).length = n := by
   intro n
   induction n with
   | zero => rfl
   | succ n ih => simp [upto, ih]
  have h1 : (pickN inv perm).length = perm.length := by
   clear h hp
   induction perm with
   | nil => rfl
   | cons i r ih => simp [pickN, ih]
  rw [h, hl] at h1
  exact h1.symm
 apply List.ext_getElem?
 intro k
 rcases Nat.lt_or_ge k vs.length with hk | hk
 ·have hkp : k < perm.length := by omega
  have e1 : perm[k]? = some perm[k] := List.getElem?_eq_getElem hkp
  rw [pickL_get, e1]
  simp only [Option.map_some]
  have hi := hp perm[k] (List.getElem_mem hkp)
  have e2 : inv[perm[k]]? = some inv[perm[k]] := List.getElem?_eq_getElem hi
  have hn : ∀ (r : List Nat) (k : Nat), (pickN inv r)[k]? = (r[k]?).map fun i => match nth inv i with
    | some v => v
    | none => 0 := by
   intro r
   induction r with
   | nil => intro k; simp [pickN]
   | cons i r ih => intro k; cases k with
     | zero => simp [pickN]
     | succ k => simp [pickN, ih]
  have e3 := hn perm k
  rw [h, upto_get _ _ hk, e1] at e3
  simp only [Option.map_some, nth_get, e2, Option.some.injEq] at e3
  rw [nth_get, pickL_get, e2]
  simp only [Option.map_some]
  rw [← e3, nth_get, List.getElem?_eq_getElem hk]
 ·rw [List.getElem?_eq_none (by rw [pickL_len]; omega), List.getElem?_eq_none hk]
theorem entO_ok {P : Program} (hP : Small P) {m : Mu} {G : Base0} (hG : G.Ok m) {tab : List Otab} {k s : Nat} {x0 : Ot} {xs : List Ot} {mk : Facts → Value → Option Bool} {fuel d : Nat} {σ : List Nat} {x : Op1} {perm : List Nat} {im : List (Value × Facts)}
  {dv : Value} (htab : tab[k]? = some ⟨s, (x0 :: xs).map (·.q), im, dv⟩) (hx : (⟨x.f, perm, x.ps⟩ : Oq) ∈ (x0 :: xs).map (·.q)) (hbody : (bodyOf P x.f).isSome = true)
  (hop : x.op = 16 * (6000 + k) + s) (hs13 : s < 13) (hI : ∀ l, m.I x.op l = opq P G tab m.K k l)
  (hinv : (listEq (pickN (ptS x.ps) x.inv) σ && (ltAll (ptS x.ps).length x.inv && (listEq (pickN x.inv perm) (upto (ptS x.ps).length) && ltAll x.inv.length perm))) = true)
  (ht : ∀ y ∈ x0 :: xs, ∃ sm, (∀ τ D, SmOk P sm (subM m τ D)) ∧ treeQ P sm mk fuel d σ x.Γ y.q = y.t) (hmk : ∀ τ D, MkOk (subM m τ D) mk) (hb : ∀ y ∈ x0 :: xs, noBad y.t = true ∧ ltAll σ.length y.q.perm = true)
  (hok : okTr σ x0.t = true) (hok2 : okΓ σ x.Γ = true) (hs : leavesS s x0.t = true) (hsame : ∀ y ∈ xs, sameT2 mk y.t x0.t x.Γ = true) (him : natI σ im = true) (htells : tellsT mk im x0.t x.Γ = true) : EntOk P m (entO x) := by
 obtain ⟨f, ps, inv, op, Γ⟩ := x
 simp only at hop hI hinv hx hbody hok2 ht hsame htells
 refine ⟨hbody, fun args hp v hd hv e n w args' hem hk ha => ?_⟩
 have hv : resO ps inv op Γ args hp = .ans v := hv
 unfold resO at hv
 split at hv
 ·rename_i ls hls
  obtain ⟨vs, k1, k2, k3, k4⟩ := flat_ok hls ha
  subst k3
  rw [hem] at k1
  obtain ⟨i1, i2⟩ := zac hinv
  obtain ⟨i2, i3⟩ := zac i2
  obtain ⟨i3, i4⟩ := zac i3
  have i1 := listEq_eq i1
  have i2 := ltAll_mem i2
  have i3 := listEq_eq i3
  have i4 := ltAll_mem i4
  have hlen : ls.length = (ptS ps).length := by rw [← denL_size k1]; exact k2.size
  have hd2 := pickL_den k1 inv fun i hi => by rw [hlen]; exact i2 i hi
  have hσ := pickL_sorted k2 inv i2
  rw [i1] at hσ
  rw [zaa] at hv
  split at hv
  ·rename_i hr
   cases hv
   have hτ := Sorted.tau hd2 hσ
   have hΓ := reqL_ok (D := fun _ => undef) hτ hd hok2 hr
   have hex := all_give hP hG ht hmk hb hok hs hsame him htells hd2 hσ hΓ ⟨w, fun r o hr => hk r o hr⟩
   have g3 := opq_give htab hex
   -- what the code means
   generalize hu : opq P G tab m.K k (pickL vs inv) = u at g3
   obtain ⟨g5, g3, _⟩ := g3
   have g4 := g3 w (fun r o hr => hk r o hr) _ hx
   simp only at g4
   rw [pick_back (by rw [i3, k2.size]) i4] at g4
   have e1 : op / 16 = 6000 + k := by omega
   have e2 : op % 16 = s := by omega
   have n1 : ¬ op = 1016 := by omega
   have n2 : ¬ op / 16 < 64 := by omega
   have hdu : den m (sy op (pickL ls inv)) = some u := by
    unfold sy
    rw [den, denA, hd2]
    simp only
    rw [if_neg n1]
    unfold itp
    rw [if_neg n2, hI, hu, e2]
    have hf : fixS s u = u := by unfold fixS; exact if_pos (zaq g5)
    simp only [hf]
    exact if_pos (zaq g5)
   exact ⟨u, .sym _ _ _ _ _ (by rw [hem]; exact hdu) (by rw [e2]; exact g5), g4⟩
  ·cases hv
 ·cases hv
structure Tell where
 op : Nat
 σ : List Nat
 im : List (Value × Facts)
noncomputable def toldC (c : Value) (b : Bool) (f : Value → Value → Option Bool) (y : Option Bool) : Option Bool :=
 match c with
 | .func (.methodOf op nm) a k => cnd (Nat.ble 6000 (Nat.div op 16) && Nat.blt (Nat.div op 16) 8192) (orB (f (.func (.methodOf op nm) a k) (.bool b)) y) (match a.toList with
   | [u, v] => cnd (cnd b (Nat.beq op 264) (Nat.beq op 280)) (cnd (isK v) (orB (f u v) y) y) y
   | _ => y)
 | _ => y
noncomputable def findC (ls : List Value) (c : Value) : Facts → Option Bool
 | [] => none
 | x :: l => match x with
   | ⟨e, b⟩ => cnd (veq 1000 (sb ls e) c) (some b) (findC ls c l)
noncomputable def findI (ls : List Value) (c k : Value) : List (Value × Facts) → Option Bool
 | [] => none
 | x :: l => match x with
   | ⟨e, G⟩ => cnd (veq 1000 k e) (orB (findC ls c G) (findI ls c k l)) (findI ls c k l)
noncomputable def findT (op : Nat) (ls : List Value) (c k : Value) : List Tell → Option Bool
 | [] => none
 | x :: l => match x with
   | ⟨o, σ, im⟩ => cnd (Nat.beq o op && sortsOk σ ls) (findI ls c k im) (findT op ls c k l)
noncomputable def tellU (tab : List Tell) (c u k : Value) : Option Bool :=
 match u with
 | .func (.methodOf op _) a _ => findT op a.toList c k tab
 | _ => none
noncomputable def tellM (tab : List Tell) (Γ : Facts) (c : Value) : Option Bool :=
 @List.rec (Value × Bool) (fun _ => Option Bool) none (fun x _ ih => match x with
  | ⟨e, b⟩ => toldC e b (tellU tab c) ih) Γ
noncomputable def natTab : List Tell → Bool
 | [] => true
 | x :: l => match x with
   | ⟨o, σ, im⟩ => cnd (natI σ im && (Nat.ble 6000 (Nat.div o 16) && Nat.blt (Nat.div o 16) 8192)) (natTab l) false
def TabOk (G : Base0) (m : Mu) (tab : List Tell) : Prop := ∀ x ∈ tab, ∀ l, srt (x.op % 16) (m.I x.op l) = true ∧ Tells G m.K x.im l (m.I x.op l)
theorem sortsOk_den {m : Mu} : ∀ {σ : List Nat} {ls vs : List Value}, sortsOk σ ls = true → denL m ls = some vs → (∀ s ∈ σ, s ≠ 13) → Sorted σ vs
 | [], [], vs, _, h, _ => by cases h; exact trivial
 | s :: σ, t :: ls, vs, hs, h, hn => by
   unfold sortsOk at hs
   rw [zaa] at hs
   split at hs
   ·rename_i h1
    rw [denL] at h
    split at h
    ·rename_i v hv
     split at h
     ·rename_i r hr
      cases h
      refine ⟨?_, sortsOk_den hs hr fun s h => hn s (List.mem_cons_of_mem _ h)⟩
      have h13 := hn s List.mem_cons_self
      have h1 := isS_eq h1
      unfold sortOf at h1
      split at h1
      ·rename_i k q
       rw [zaa] at h1
       split at h1
       ·rename_i hw
        cases h1
        rw [den] at hv
        cases hv
        exact zav hw
       ·cases h1
      ·cases h1; rw [den] at hv; cases hv; rfl
      ·cases h1; rw [den] at hv; cases hv; rfl
      ·split at h1
       ·have e := Option.some.inj h1
        refine zat h13 ?_
        rw [← e]
        exact den_srt hv
       ·cases h1
      ·cases h1
     ·cases h
    ·cases h
   ·cases hs
 | [], _ :: _, _, h, _, _ => by cases h
 | _ :: _, [], _, h, _, _ => by cases h
section
variable {m : Mu} {G : Base0} (hG : G.Ok m)
include hG
theorem findC_ok {ls vs : List Value} {σ : List Nat} (hd : denL m ls = some vs) (hs : Sorted σ vs) {c : Value} {b : Bool} : ∀ {Γ : Facts}, natΓ σ Γ = true → okΓ σ Γ = true → Holds (muV G m.K vs) Γ → findC ls c Γ = some b → den m c = some (.bool b)
 | [], _, _, _, h => by cases h
 | (e, b0) :: Γ, hn, ho, hΓ, h => by
   have hn2 : cnd (natT σ 50 e) (natΓ σ Γ) false = true := hn
   have ho2 : cnd (okT σ 50 e) (okΓ σ Γ) false = true := ho
   have h2 : cnd (veq 1000 (sb ls e) c) (some b0) (findC ls c Γ) = some b := h
   clear hn ho h
   rw [zaa] at hn2 ho2 h2
   split at hn2
   ·rename_i n1
    split at ho2
    ·rename_i o1
     split at h2
     ·rename_i hv
      cases h2
      have hv := veq_eq _ _ _ hv
      subst hv
      have hτ := Sorted.tau hd hs
      rw [sb_den hτ (D := fun _ => undef) o1, natT_den hG hd hs 50 e n1]
      exact hΓ _ _ List.mem_cons_self
     ·exact findC_ok hd hs hn2 ho2 (fun c b h => hΓ c b (List.mem_cons_of_mem _ h)) h2
    ·cases ho2
   ·cases hn2
theorem findI_ok {ls vs : List Value} {σ : List Nat} (hd : denL m ls = some vs) (hs : Sorted σ vs) {c k : Value} {b : Bool} : ∀ {im : List (Value × Facts)}, natI σ im = true → (∀ x ∈ im, okΓ σ x.2 = true) → Tells G m.K im vs k → findI ls c k im = some b → den m c = some (.bool b)
 | [], _, _, _, h => by cases h
 | (e, Γ) :: im, hn, ho, ht, h => by
   have hn2 : cnd (isK e && natΓ σ Γ) (natI σ im) false = true := hn
   have h2 : cnd (veq 1000 k e) (orB (findC ls c Γ) (findI ls c k im)) (findI ls c k im) = some b := h
   clear hn h
   rw [zaa] at hn2 h2
   split at hn2
   ·rename_i n1
    obtain ⟨_, n1⟩ := zac n1
    have tl : findI ls c k im = some b → den m c = some (.bool b) := findI_ok hd hs hn2 (fun x h => ho x (List.mem_cons_of_mem _ h)) fun x h => ht x (List.mem_cons_of_mem _ h)
    split at h2
    ·rename_i hv
     unfold orB at h2
     split at h2
     ·rename_i v hf
      cases h2
      exact findC_ok hG hd hs n1 (ho _ List.mem_cons_self) (ht _ List.mem_cons_self (veq_eq _ _ _ hv)) hf
     ·exact tl h2
    ·exact tl h2
   ·cases hn2
omit hG in
theorem toldC_ok {c : Value} {b b' : Bool} {f : Value → Value → Option Bool} {y : Option Bool} {X : Prop} (hc : den m c = some (.bool b)) (hf : ∀ u k, den m u = some k → f u k = some b' → X) (hy : y = some b' → X) (h : toldC c b f y = some b') : X := by
 have or : ∀ {o r : Option Bool}, orB o r = some b' → o = some b' ∨ r = some b' := by
  intro o r h
  unfold orB at h
  split at h
  ·left; exact h
  ·right; exact h
 unfold toldC at h
 split at h
 ·rename_i op nm a k
  rw [zaa] at h
  split at h
  ·rcases or h with h | h
   ·exact hf _ _ hc h
   ·exact hy h
  ·split at h
   ·rename_i u v hl
    obtain ⟨l⟩ := a
    have hl : l = [u, v] := hl
    subst hl
    rw [zaa] at h
    split at h
    ·rename_i ho
     rw [zaa] at h
     split at h
     ·rename_i hk
      rcases or h with h | h
      ·obtain ⟨w, g1, g2⟩ := told_ok ho hc
       rw [isK_den hk] at g2
       cases g2
       exact hf _ _ g1 h
      ·exact hy h
     ·exact hy h
    ·exact hy h
   ·exact hy h
 ·exact hy h
theorem tellM_ok {tab : List Tell} (ht : TabOk G m tab) (hn : natTab tab = true) (ho : ∀ x ∈ tab, (∀ y ∈ x.im, okΓ x.σ y.2 = true) ∧ ∀ s ∈ x.σ, s ≠ 13) : MkOk m (tellM tab) := by
 intro Γ
 induction Γ with
 | nil => intro _ c b h; cases h
 | cons x Γ ih =>
   intro hΓ c b h
   obtain ⟨e, b0⟩ := x
   have h : toldC e b0 (tellU tab c) (tellM tab Γ c) = some b := h
   refine toldC_ok (hΓ _ _ List.mem_cons_self) (fun u k hu hf => ?_) (fun hy => ih (fun c b h => hΓ c b (List.mem_cons_of_mem _ h)) c b hy) h
   unfold tellU at hf
   split at hf
   ·rename_i op nm a cc
    obtain ⟨l⟩ := a
    have key : ∀ (tab : List Tell), natTab tab = true → (∀ x ∈ tab, (∀ l, srt (x.op % 16) (m.I x.op l) = true ∧ Tells G m.K x.im l (m.I x.op l)) ∧ (∀ y ∈ x.im, okΓ x.σ y.2 = true) ∧ ∀ s ∈ x.σ, s ≠ 13) → findT op l c k tab = some b → den m c = some (.bool b) := by
     intro tab
     induction tab with
     | nil => intro _ _ h; cases h
     | cons x tab iht =>
       intro hn hall h
       obtain ⟨o, σ, im⟩ := x
       have hn2 : cnd (natI σ im && (Nat.ble 6000 (Nat.div o 16) && Nat.blt (Nat.div o 16) 8192)) (natTab tab) false = true := hn
       have h2 : cnd (Nat.beq o op && sortsOk σ l) (findI l c k im) (findT op l c k tab) = some b := h
       rw [zaa] at hn2 h2
       split at hn2
       ·rename_i n1
        obtain ⟨n1, n2⟩ := zac n1
        obtain ⟨n2, n3⟩ := zac n2
        have n2 : 6000 ≤ o / 16 := zaw n2
        split at h2
        ·rename_i hh
         obtain ⟨h3, h4⟩ := zac hh
         have h3 := zad h3
         subst h3
         obtain ⟨k1, k2, k3⟩ := hall _ List.mem_cons_self
         have n4 : ¬ o = 1016 := by omega
         have n5 : ¬ o / 16 < 64 := by omega
         rw [den, denA] at hu
         split at hu
         ·rename_i vs hvs
          rw [if_neg n4] at hu
          unfold itp at hu
          rw [if_neg n5] at hu
          obtain ⟨k4, k5⟩ := k1 vs
          simp only at k4 k5
          have hfx : fixS (o % 16) (m.I o vs) = m.I o vs := by unfold fixS; exact if_pos (zaq k4)
          simp only [hfx] at hu
          rw [if_pos (zaq k4)] at hu
          have hu : m.I o vs = k := by simpa using hu
          rw [hu] at k5
          exact findI_ok hG hvs (sortsOk_den h4 hvs k3) n1 k2 k5 h2
         ·rw [if_neg n4] at hu; cases hu
        ·exact iht hn2 (fun x h => hall x (List.mem_cons_of_mem _ h)) h2
       ·cases hn2
    exact key tab hn (fun x hx => ⟨ht x hx, ho x hx⟩) hf
   ·cases hf
end
end Go.Gz
