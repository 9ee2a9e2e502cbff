/- Arenas' words: what stands for the address of a word; bounds of plans' numbers. -/
import Derived.Test.YteglommbdpaokaaGreatA3
import Derived.Test.YteglommbdpaokaaGreatGzSub
import Derived.Test.YteglommbdpaokaaGreatGzLin
set_option linter.unusedSimpArgs false
set_option linter.unusedVariables false
namespace Go.Proofs.YteglommbdpaokaaGreat
open Go Go.Gz Go.RowKit
noncomputable def k7 (w : Value) : Bool :=
 match w with
 | .func (.methodOf op _) _ _ => Nat.beq (Nat.mod op 16) 7
 | _ => false
theorem k7_den {m : Mu} {w v : Value} (h : k7 w = true) (hv : den m w = some v) : ∃ x, v = .int .u64 x ∧ 0 ≤ x ∧ x ≤ 18446744073709551615 := by
 unfold k7 at h
 split at h
 ·rename_i op nm a c
  have h := zad h
  have h2 := den_srt hv
  have h : op % 16 = 7 := h
  rw [h] at h2
  obtain ⟨x, rfl, hx⟩ := s_int (k := .u64) (zat (by decide) h2)
  rw [wfK_iff] at hx
  simp only at hx
  exact ⟨x, rfl, by omega⟩
 ·cases h
section
variable {m : Mu} (hm : Glob m)
include hm
theorem addr_den {w : Value} {x : Int} (hw : den m w = some (.int .u64 x)) (hx : 0 ≤ x ∧ x ≤ 18446744073709551615) : den m (sy 65603 [w]) = some (.int .i64 (if kindW x = 2 then x / 8 else 0)) := by
 rw [show sy 65603 [w] = .func (.methodOf 65603 "") ⟨[w]⟩ #[] from rfl, den_1 (by decide) hw]
 exact gAddrV hm hx
omit hm in
theorem conv_den {w : Value} {x : Int} (hw : den m w = some (.int .u64 x)) (hx : 0 ≤ x ∧ x ≤ 18446744073709551615) : den m (sy 323 [sy 71 [w, .int .u64 8]]) = some (.int .i64 (x / 8)) := by
 have h1 : den m (sy 71 [w, .int .u64 8]) = some (.int .u64 (x / 8)) := by
  rw [show sy 71 [w, .int .u64 8] = .func (.methodOf 71 "") ⟨[w, .int .u64 8]⟩ #[] from rfl, zau (by decide) hw (show den m (.int .u64 8) = some (.int .u64 8) by rw [den])]
  show (match zag .quo (.int .u64 x) (.int .u64 8) with | some v => if srtA 7 v = true then some v else none | none => none) = _
  rw [zap _ _ _ rfl]
  have e : x.tdiv 8 = x / 8 := Int.tdiv_eq_ediv_of_nonneg hx.1
  simp only [zao]
  rw [if_neg (by decide), e, Gx.wrap_u _ (by omega)]
  exact if_pos (zaq (u64S (by omega)))
 rw [show sy 323 [sy 71 [w, .int .u64 8]] = .func (.methodOf 323 "") ⟨[sy 71 [w, .int .u64 8]]⟩ #[] from rfl, den_1 (by decide) h1]
 show (match some (Value.int .i64 (IntKind.i64.wrap (x / 8))) with | some v => if srtA 3 v = true then some v else none | none => none) = _
 rw [Gx.wrap_i _ (by omega)]
 exact if_pos (zaq (i64S (by omega)))
end
noncomputable def rgIn (Γ : Facts) (v : Value) : List (Value × Value × Value) → Option Iv
 | [] => none
 | x :: l => match x with
   | ⟨T, S, L⟩ => cnd (isYesO (seekN Γ (sy 65560 [T, S, L])) && Gz.i64S v) (cnd (veq 100 v T) (some ⟨1, 8⟩) (cnd (veq 100 v S) (some ⟨32, 4096⟩) (rgIn Γ v l))) (rgIn Γ v l)
noncomputable def rgS : Rgf := fun Γ v =>
 match v with
 | .func (.methodOf 65603 _) ⟨[w]⟩ _ => cnd (k7 w) (match orE (seek Γ (sy 65672 [w])) (seekN Γ (sy 65624 [w])) with
   | some _ => some ⟨0, 16777215⟩
   | none => none) none
 | v => rgIn Γ v (plansOf Γ)
theorem rgIn_ok {m : Mu} (hm : Glob m) {Γ : Facts} (hΓ : Holds m Γ) {v : Value} {x : Iv} : ∀ {l : List (Value × Value × Value)}, rgIn Γ v l = some x → ∃ a, den m v = some (.int .i64 a) ∧ x.lo ≤ a ∧ a ≤ x.hi
 | [], h => by cases h
 | (T, S, L) :: l, h => by
   have ih := @rgIn_ok m hm Γ hΓ v x l
   replace h : cnd (isYesO (seekN Γ (sy 65560 [T, S, L])) && Gz.i64S v) (cnd (veq 100 v T) (some ⟨1, 8⟩) (cnd (veq 100 v S) (some ⟨32, 4096⟩) (rgIn Γ v l))) (rgIn Γ v l) = some x := h
   rw [zaa] at h
   split at h
   ·rename_i hc
    obtain ⟨h1, h2⟩ := zac hc
    have h3 : seekN Γ (sy 65560 [T, S, L]) = some true := by
     generalize seekN Γ (sy 65560 [T, S, L]) = o at h1
     cases o with
     | none => cases h1
     | some b => cases b <;> first | rfl | cases h1
    obtain ⟨kT, t, kS, s, p, k, c, g1, g2, g3, g4⟩ := plan_yes hm (seekN_den hΓ h3)
    have hb := okPlan_b g4
    rw [zaa] at h
    split at h
    ·rename_i hv
     have hv := veq_eq _ _ _ hv
     subst hv
     have := i64S_den h2 g1
     subst this
     cases h
     exact ⟨t, g1, by show (1 : Int) ≤ t; omega, by show t ≤ 8; omega⟩
    ·rw [zaa] at h
     split at h
     ·rename_i hv
      have hv := veq_eq _ _ _ hv
      subst hv
      have := i64S_den h2 g2
      subst this
      cases h
      exact ⟨s, g2, by show (32 : Int) ≤ s; omega, by show s ≤ 4096; omega⟩
     ·exact ih h
   ·exact ih h
theorem rgS_ok {m : Mu} (hm : Glob m) : RgfOk m rgS := by
 intro Γ hΓ v x h
 unfold rgS at h
 split at h
 ·rename_i nm w c
  rw [zaa] at h
  split at h
  ·rename_i h7
   split at h
   ·rename_i s hs
    cases h
    obtain ⟨vw, hw⟩ : ∃ vw, den m w = some vw := by
     rcases orE_I hs with hs | hs
     ·obtain ⟨vw, hw, _⟩ := den_1Inv (by decide) (show den m (.func (.methodOf 65672 "") ⟨[w]⟩ #[]) = some (.bool s) from hΓ _ _ (seek_mem hs))
      exact ⟨vw, hw⟩
     ·obtain ⟨vw, hw, _⟩ := den_1Inv (by decide) (show den m (.func (.methodOf 65624 "") ⟨[w]⟩ #[]) = some (.bool s) from seekN_den hΓ hs)
      exact ⟨vw, hw⟩
    obtain ⟨x, rfl, hx⟩ := k7_den h7 hw
    have ha : den m (.func (.methodOf 65603 nm) ⟨[w]⟩ c) = some (.int .i64 (if kindW x = 2 then x / 8 else 0)) := by
     rw [den_1 (by decide) hw]
     exact gAddrV hm hx
    refine ⟨_, ha, ?_, ?_⟩
    ·show (0 : Int) ≤ _
     split <;> omega
    ·show _ ≤ (16777215 : Int)
     split
     ·rename_i hk
      unfold kindW at hk
      split at hk
      ·omega
      ·split at hk
       ·omega
       ·split at hk <;> (try split at hk) <;> omega
     ·omega
   ·cases h
  ·cases h
 ·exact rgIn_ok hm hΓ h
noncomputable def ruleN : Rul := fun _ c =>
 match c with
 | .func (.methodOf 280 _) ⟨[w, .int .u64 0]⟩ _ => [⟨[(w, 7)], [(sy 280 [sy 65651 [w], .int .i64 2], false)], true⟩]
 | _ => []
theorem ruleN_ok {m : Mu} (hm : Glob m) : RulOk m ruleN := by
 intro Γ c y hy hty hG
 unfold ruleN at hy
 split at hy
 ·rename_i nm w k
  have hy := List.mem_singleton.1 hy
  subst hy
  obtain ⟨v, hw, sv⟩ := hty _ List.mem_cons_self
  simp only at hw
  obtain ⟨x, rfl, hx⟩ := s_int (k := .u64) (zat (by decide) sv)
  rw [wfK_iff] at hx
  simp only at hx
  have hx : 0 ≤ x ∧ x ≤ 18446744073709551615 := by omega
  obtain ⟨vx, vy, g1, g2, g3⟩ := den_2I (by decide) (show den m (.func (.methodOf 280 "") ⟨[sy 65651 [w], .int .i64 2]⟩ #[]) = some (.bool false) from hG _ _ List.mem_cons_self)
  obtain ⟨vw, hw2, g4⟩ := den_1Inv (by decide) g1
  rw [hw] at hw2
  cases hw2
  rw [(gOfV hm hx).1] at g4
  cases g4
  rw [den] at g2
  cases g2
  have g3 : (match zag .neq (.int .i64 (kindW x)) (.int .i64 2) with | some v => if srtA 8 v = true then some v else none | none => none) = some (.bool false) := g3
  rw [zap _ _ _ rfl] at g3
  have hk : kindW x = 2 := by
   have g3 : some (Value.bool (kindW x != 2)) = some (.bool false) := g3
   simpa using g3
  have h0 : x ≠ 0 := by rintro rfl; simp [kindW, plainW] at hk
  rw [zau (by decide) hw (show den m (.int .u64 0) = some (.int .u64 0) by rw [den])]
  show (match zag .neq (.int .u64 x) (.int .u64 0) with | some v => if srtA 8 v = true then some v else none | none => none) = _
  rw [zap _ _ _ rfl]
  show some (Value.bool (x != 0)) = _
  simp [h0]
 ·simp at hy
noncomputable def anyL0 : Facts → Value → Option Bool := orM (linM rgS) anyM
theorem anyL0_ok {m : Mu} (hm : Glob m) : MkOk m anyL0 := orM_ok (linM_ok (rgS_ok hm)) (anyM_ok hm.tx)
noncomputable def isNoO : Option Bool → Bool
 | some b => !b
 | none => false
theorem no_den {m : Mu} {Γ : Facts} (hΓ : Holds m Γ) {c : Value} (h : isNoO (seekN Γ c) = true) : den m c = some (.bool false) := by
 unfold isNoO at h
 split at h
 ·rename_i b hb
  have : b = false := by simpa using h
  subst this
  exact seekN_den hΓ hb
 ·cases h
noncomputable def isW3 (o : Option Nat) : Bool :=
 match o with
 | some s => Nat.beq s 3
 | none => false
noncomputable def rg1 (Γ : Facts) (v T S L : Value) : Option Iv :=
 match v with
 | .func (.methodOf op nm) ⟨[a, s]⟩ c => cnd (Nat.beq op 83) (cnd (veq 100 s S && (Gz.i64S S && isW3 (wt (dec1 anyL0 Γ) 100 (.func (.methodOf op nm) ⟨[a, s]⟩ c)))) (some ⟨-4095, 4095⟩) none)
  (cnd (Nat.beq op 65795) (cnd (veq 100 a L && isYesO (seekN Γ (sy 65832 [a, s]))) (some ⟨2, 10⟩) none) none)
 | v => cnd (isNoO (seekN Γ (sy 248 [v, T])) && isNoO (seekN Γ (sy 200 [v, .int .i64 0]))) (some ⟨0, 7⟩) none
noncomputable def rgMore (Γ : Facts) (v : Value) : List (Value × Value × Value) → Option Iv
 | [] => none
 | x :: l => match x with
   | ⟨T, S, L⟩ => cnd (isYesO (seekN Γ (sy 65560 [T, S, L]))) (match rg1 Γ v T S L with
     | some x => some x
     | none => rgMore Γ v l) (rgMore Γ v l)
noncomputable def rgS2 : Rgf := fun Γ v =>
 match rgS Γ v with
 | some x => some x
 | none => rgMore Γ v (plansOf Γ)
theorem gi_in {K : Nat → Option Obj} {vs : List Value} (h : GI K 65832 vs = .bool true) : ∃ p k c ks s, vs = [.slice p k c, .int ks s] ∧ 0 ≤ s ∧ s < (k : Int) := by
 unfold GI at h
 split at h <;> first
  | (rename_i he; cases he; done)
  | cases h
  | (rename_i he _; cases he; done)
  | skip
 exact ⟨_, _, _, _, _, rfl, of_decide_eq_true (Value.bool.inj h)⟩
theorem rem_den {m : Mu} {nm : String} {a s : Value} {c : Array Value} {x z v : Int} {k1 k2 : IntKind} (ha : den m a = some (.int k1 x)) (hs : den m s = some (.int k2 z)) (hz : 0 < z) (h : den m (.func (.methodOf 83 nm) ⟨[a, s]⟩ c) = some (.int .i64 v)) : v = x.tmod z := by
 rw [zau (by decide) ha hs] at h
 have h : (match zag .rem (.int k1 x) (.int k2 z) with | some v => if srtA 3 v = true then some v else none | none => none) = some (.int .i64 v) := h
 split at h
 ·rename_i u hu
  split at h
  ·cases h
   unfold zag at hu
   simp only [isShift, Bool.false_eq_true, if_false] at hu
   split at hu
   ·have hu : (if z = 0 then none else some (Value.int k1 (x.tmod z))) = some (.int .i64 v) := hu
    rw [if_neg (by omega)] at hu
    cases hu; rfl
   ·cases hu
  ·cases h
 ·cases h
theorem rg1_ok {m : Mu} (hm : Glob m) {Γ : Facts} (hΓ : Holds m Γ) {v T S L : Value} {x : Iv} (hp : seekN Γ (sy 65560 [T, S, L]) = some true) (h : rg1 Γ v T S L = some x) : ∃ a, den m v = some (.int .i64 a) ∧ x.lo ≤ a ∧ a ≤ x.hi := by
 obtain ⟨kT, t, kS, z, p, k, c, g1, g2, g3, g4⟩ := plan_yes hm (seekN_den hΓ hp)
 have hb := okPlan_b g4
 unfold rg1 at h
 split at h
 ·rename_i op nm a s c0
  rw [zaa] at h
  split at h
  ·rename_i ho
   have ho := zad ho
   subst ho
   rw [zaa] at h
   split at h
   ·rename_i hc
    obtain ⟨h1, h2⟩ := zac hc
    obtain ⟨h2, h3⟩ := zac h2
    have h1 := veq_eq _ _ _ h1
    subst h1
    unfold isW3 at h3
    split at h3
    ·rename_i s3 hs
     have h3 := zad h3
     subst h3
     cases h
     obtain ⟨v', d1, d2⟩ := wt_ok (dec1_ok (anyL0_ok hm) Γ hΓ) 100 _ _ hs
     obtain ⟨n, rfl, _⟩ := s_int (k := .i64) (zat (by decide) d2)
     obtain ⟨va, vs, e1, e2, e3⟩ := den_2I (by decide) d1
     rw [g2] at e2
     cases e2
     have e3 : (match zag .rem va (.int kS z) with | some v => if srtA 3 v = true then some v else none | none => none) = some (.int .i64 n) := e3
     cases va with
     | int ka xa =>
       have := rem_den e1 g2 (by omega) d1
       refine ⟨n, d1, ?_, ?_⟩
       ·show (-4095 : Int) ≤ n
        have h1 := Int.tmod_lt_of_pos (-xa) (b := z) (by omega)
        rw [Int.neg_tmod] at h1
        omega
       ·show n ≤ (4095 : Int)
        have := Int.tmod_lt_of_pos xa (b := z) (by omega)
        omega
     | _ => cases e3
    ·cases h3
   ·cases h
  ·rw [zaa] at h
   split at h
   ·rename_i ho
    have ho := zad ho
    subst ho
    rw [zaa] at h
    split at h
    ·rename_i hc
     obtain ⟨h1, h2⟩ := zac hc
     have h1 := veq_eq _ _ _ h1
     subst h1
     cases h
     obtain ⟨vs, e1, e2⟩ := code_yes (by decide) (by decide) (by decide) (yes_den hΓ h2)
     rw [hm _ _ (by decide) (by decide)] at e2
     obtain ⟨p', k', c', ks, s', rfl, q1, q2⟩ := gi_in e2
     have ea : den m s = some (.int ks s') := by
      rw [denL, g3, denL] at e1
      cases hs : den m s with
      | none => rw [hs] at e1; cases e1
      | some vs =>
        rw [hs, denL] at e1
        simp only [Option.some.injEq, List.cons.injEq, and_true] at e1
        rw [e1.2]
     simp only [okPlan, Bool.and_eq_true] at g4
     have hsz := sizeL_b g4.2 s'
     refine ⟨sizeL (tl m.K p k) s', ?_, by show (2 : Int) ≤ _; omega, by show _ ≤ (10 : Int); omega⟩
     rw [zau (by decide) g3 ea]
     exact code_val hm (by decide) (by decide) (i64S (by omega)) (by show Value.int .i64 _ = _; rw [if_pos g4.2])
    ·cases h
   ·cases h
 ·rw [zaa] at h
  split at h
  ·rename_i hc
   obtain ⟨h1, h2⟩ := zac hc
   cases h
   obtain ⟨k1, a, n, d1, d2, d3⟩ := geq_inv (no_den hΓ h1)
   obtain ⟨k2, a', n', e1, e2, e3⟩ := lss_inv (no_den hΓ h2)
   rw [g1] at d2
   cases d2
   rw [den] at e2
   cases e2
   rw [d1] at e1
   cases e1
   have z1 := of_decide_eq_false d3.symm
   have z2 := of_decide_eq_false e3.symm
   have z1 : ¬ a ≥ t := z1
   exact ⟨a, d1, by show (0 : Int) ≤ a; omega, by show a ≤ (7 : Int); omega⟩
  ·cases h
theorem rgMore_ok {m : Mu} (hm : Glob m) {Γ : Facts} (hΓ : Holds m Γ) {v : Value} {x : Iv} : ∀ {l : List (Value × Value × Value)}, rgMore Γ v l = some x → ∃ a, den m v = some (.int .i64 a) ∧ x.lo ≤ a ∧ a ≤ x.hi
 | [], h => by cases h
 | (T, S, L) :: l, h => by
   have ih := @rgMore_ok m hm Γ hΓ v x l
   replace h : cnd (isYesO (seekN Γ (sy 65560 [T, S, L]))) (match rg1 Γ v T S L with
    | some x => some x
    | none => rgMore Γ v l) (rgMore Γ v l) = some x := h
   rw [zaa] at h
   split at h
   ·rename_i h1
    have h3 : seekN Γ (sy 65560 [T, S, L]) = some true := by
     generalize seekN Γ (sy 65560 [T, S, L]) = o at h1
     cases o with
     | none => cases h1
     | some b => cases b <;> first | rfl | cases h1
    split at h
    ·rename_i y hy
     cases h
     exact rg1_ok hm hΓ h3 hy
    ·exact ih h
   ·exact ih h
theorem rgS2_ok {m : Mu} (hm : Glob m) : RgfOk m rgS2 := by
 intro Γ hΓ v x h
 unfold rgS2 at h
 split at h
 ·rename_i y hy
  cases h
  exact rgS_ok hm Γ hΓ v _ hy
 ·exact rgMore_ok hm hΓ h
noncomputable def linkC (X T S : Value) : List (Value × Value × Value) → List Cd
 | [] => []
 | x :: l => match x with
   | ⟨T', S', L⟩ => cnd (veq 100 T T' && veq 100 S S') (⟨[(X, 3)], [(sy 65560 [T, S, L], true), (sy 200 [X, baseT T S], false), (sy 248 [X, sizeT T S], false), (sy 232 [sy 19 [sy 83 [sy 35 [X, baseT T S], S], .int .i64 2], S], false)], false⟩ :: linkC X T S l) (linkC X T S l)
noncomputable def linkY : List Cd → List Cd
 | [] => []
 | x :: l => match x with
   | ⟨t, g, b⟩ => ⟨t, g, !b⟩ :: linkY l
theorem linkY_mem {y : Cd} : ∀ {l : List Cd}, y ∈ linkY l → ∃ x ∈ l, x.ts = y.ts ∧ x.G = y.G ∧ y.b = !x.b
 | [], h => by cases h
 | ⟨t, g, b⟩ :: l, h => by
   rcases List.mem_cons.1 (show y ∈ (⟨t, g, !b⟩ : Cd) :: linkY l from h) with rfl | h
   ·exact ⟨_, List.mem_cons_self, rfl, rfl, rfl⟩
   ·obtain ⟨x, h1, h2⟩ := linkY_mem h
    exact ⟨x, List.mem_cons_of_mem _ h1, h2⟩
noncomputable def ruleE : Rul := fun Γ c =>
 match c with
 | .func (.methodOf 248 _) ⟨[.func (.methodOf 19 _) ⟨[X, .int .i64 1]⟩ _, .func (.methodOf 19 nm) ⟨[.func (.methodOf 19 nm2) ⟨[.int .i64 3, .func (.methodOf 51 nm3) ⟨[.int .i64 2, T]⟩ k3]⟩ k2, .func (.methodOf 51 nm4) ⟨[.int .i64 2, S]⟩ k4]⟩ k]⟩ _ => linkC X T S (plansOf Γ)
 | .func (.methodOf 200 _) ⟨[.func (.methodOf 19 _) ⟨[X, .int .i64 1]⟩ _, .func (.methodOf 19 nm) ⟨[.func (.methodOf 19 nm2) ⟨[.int .i64 3, .func (.methodOf 51 nm3) ⟨[.int .i64 2, T]⟩ k3]⟩ k2, .func (.methodOf 51 nm4) ⟨[.int .i64 2, S]⟩ k4]⟩ k]⟩ _ => linkY (linkC X T S (plansOf Γ))
 | _ => []
theorem size_den {m : Mu} {T S : Value} {t z : Int} (hT : den m T = some (.int .i64 t)) (hS : den m S = some (.int .i64 z)) (hp : 1 ≤ t ∧ t ≤ 8 ∧ 32 ≤ z ∧ z ≤ 4096) : den m (sizeT T S) = some (.int .i64 (3 + 2 * t + 2 * z)) ∧ den m (baseT T S) = some (.int .i64 (3 + 2 * t)) := by
 have a1 : den m (sy 51 [.int .i64 2, T]) = some (.int .i64 (2 * t)) := arith_den (c := #[]) (nm := "") (o := .mul) rfl (.inr (.inr rfl)) (by rw [den]) hT (r := 2 * t) (by simp [zao]) (by omega) (by omega)
 have a2 : den m (sy 19 [.int .i64 3, sy 51 [.int .i64 2, T]]) = some (.int .i64 (3 + 2 * t)) := arith_den (c := #[]) (nm := "") (o := .add) rfl (.inl rfl) (by rw [den]) a1 (r := 3 + 2 * t) (by simp [zao]) (by omega) (by omega)
 have a3 : den m (sy 51 [.int .i64 2, S]) = some (.int .i64 (2 * z)) := arith_den (c := #[]) (nm := "") (o := .mul) rfl (.inr (.inr rfl)) (by rw [den]) hS (r := 2 * z) (by simp [zao]) (by omega) (by omega)
 have a4 : den m (sizeT T S) = some (.int .i64 (3 + 2 * t + 2 * z)) := arith_den (c := #[]) (nm := "") (o := .add) rfl (.inl rfl) a2 a3 (r := 3 + 2 * t + 2 * z) (by simp [zao]) (by omega) (by omega)
 have a5 : den m (sy 51 [.int .i64 0, S]) = some (.int .i64 0) := arith_den (c := #[]) (nm := "") (o := .mul) rfl (.inr (.inr rfl)) (by rw [den]) hS (r := 0) (by simp [zao]) (by omega) (by omega)
 exact ⟨a4, arith_den (c := #[]) (nm := "") (o := .add) rfl (.inl rfl) a2 a5 (r := 3 + 2 * t) (by simp [zao]) (by omega) (by omega)⟩
theorem rem_fwd {m : Mu} {a s : Value} {x z : Int} (ha : den m a = some (.int .i64 x)) (hs : den m s = some (.int .i64 z)) (hx : 0 ≤ x ∧ x ≤ 1000000) (hz : 0 < z) : den m (sy 83 [a, s]) = some (.int .i64 (x % z)) := by
 rw [show sy 83 [a, s] = .func (.methodOf 83 "") ⟨[a, s]⟩ #[] from rfl, zau (by decide) ha hs]
 show (match zag .rem (.int .i64 x) (.int .i64 z) with | some v => if srtA 3 v = true then some v else none | none => none) = _
 rw [zap _ _ _ rfl]
 simp only [zao]
 rw [if_neg (by omega), Int.tmod_eq_emod_of_nonneg hx.1]
 have h1 := Int.emod_nonneg x (b := z) (by omega)
 have h2 : x % z ≤ x := by
  by_cases h : x < z
  ·rw [Int.emod_eq_of_lt hx.1 h]; exact Int.le_refl _
  ·have := Int.emod_lt_of_pos x hz; omega
 exact if_pos (zaq (i64S (by omega)))
theorem linkC_ok {m : Mu} (hm : Glob m) {X T S : Value} {y : Cd} : ∀ {l : List (Value × Value × Value)}, y ∈ linkC X T S l → Typed m y.ts → Holds m y.G → y.b = false ∧ ∃ x n, den m (sy 19 [X, .int .i64 1]) = some (.int .i64 x) ∧ den m (sizeT T S) = some (.int .i64 n) ∧ x < n
 | [], h, _, _ => by cases h
 | (T', S', L) :: l, h, ht, hG => by
   have ih := @linkC_ok m hm X T S y l
   replace h : y ∈ cnd (veq 100 T T' && veq 100 S S') (⟨[(X, 3)], [(sy 65560 [T, S, L], true), (sy 200 [X, baseT T S], false), (sy 248 [X, sizeT T S], false), (sy 232 [sy 19 [sy 83 [sy 35 [X, baseT T S], S], .int .i64 2], S], false)], false⟩ :: linkC X T S l) (linkC X T S l) := h
   rw [zaa] at h
   split at h
   ·rcases List.mem_cons.1 h with rfl | h
    ·refine ⟨rfl, ?_⟩
     obtain ⟨kT, t, kS, z, p, k, c, g1, g2, g3, g4⟩ := plan_yes hm (hG _ _ List.mem_cons_self)
     have hb := okPlan_b g4
     obtain ⟨v, hv, sv⟩ := ht _ List.mem_cons_self
     simp only at hv sv
     obtain ⟨x, rfl, _⟩ := s_int (k := .i64) (zat (by decide) sv)
     obtain ⟨k1, a1, n1, d1, d2, d3⟩ := lss_inv (hG (sy 200 [X, baseT T S]) false (by simp))
     obtain ⟨k2, a2, n2, e1, e2, e3⟩ := geq_inv (hG (sy 248 [X, sizeT T S]) false (by simp))
     rw [hv] at d1 e1
     cases d1
     cases e1
     obtain ⟨kk, hk1, hk2⟩ : kT = .i64 ∧ kS = .i64 ∧ True := by
      obtain ⟨u1, u2, f1, f2, f3⟩ := den_2I (by decide) d2
      obtain ⟨u3, u4, f4, f5, f6⟩ := den_2I (by decide) f1
      obtain ⟨u5, u6, f7, f8, f9⟩ := den_2I (by decide) f5
      obtain ⟨u7, u8, f10, f11, f12⟩ := den_2I (by decide) f2
      rw [g1] at f8
      cases f8
      rw [g2] at f11
      cases f11
      rw [den] at f7 f10
      cases f7
      cases f10
      have f9 : (match zag .mul (.int .i64 2) (.int kT t) with | some v => if srtA 3 v = true then some v else none | none => none) = _ := f9
      have f12 : (match zag .mul (.int .i64 0) (.int kS z) with | some v => if srtA 3 v = true then some v else none | none => none) = some u2 := f12
      unfold zag at f9 f12
      simp only [isShift, Bool.false_eq_true, if_false] at f9 f12
      refine ⟨?_, ?_, trivial⟩
      ·split at f9
       ·rename_i hw
        split at hw
        ·rename_i hk; exact (kEq_eq hk).symm
        ·cases hw
       ·cases f9
      ·split at f12
       ·rename_i hw
        split at hw
        ·rename_i hk; exact (kEq_eq hk).symm
        ·cases hw
       ·cases f12
     subst kk hk1
     obtain ⟨s1, s2⟩ := size_den g1 g2 ⟨by omega, by omega, by omega, by omega⟩
     rw [s2] at d2
     cases d2
     rw [s1] at e2
     cases e2
     have z1 := of_decide_eq_false d3.symm
     have z2 := of_decide_eq_false e3.symm
     have z2 : ¬ x ≥ 3 + 2 * t + 2 * z := z2
     have b1 : den m (sy 35 [X, baseT T S]) = some (.int .i64 (x - (3 + 2 * t))) := arith_den (c := #[]) (nm := "") (o := .sub) rfl (.inr (.inl rfl)) hv s2 (r := x - (3 + 2 * t)) (by simp [zao]) (by omega) (by omega)
     have b2 := rem_fwd b1 g2 (by omega) (by omega)
     have q1 := Int.emod_nonneg (x - (3 + 2 * t)) (b := z) (by omega)
     have q2 := Int.emod_lt_of_pos (x - (3 + 2 * t)) (b := z) (by omega)
     have b3 : den m (sy 19 [sy 83 [sy 35 [X, baseT T S], S], .int .i64 2]) = some (.int .i64 ((x - (3 + 2 * t)) % z + 2)) := arith_den (c := #[]) (nm := "") (o := .add) rfl (.inl rfl) b2 (by rw [den]) (by simp [zao]) (by omega) (by omega)
     have b4 := hG (sy 232 [sy 19 [sy 83 [sy 35 [X, baseT T S], S], .int .i64 2], S]) false (by simp)
     rw [show sy 232 [sy 19 [sy 83 [sy 35 [X, baseT T S], S], .int .i64 2], S] = .func (.methodOf 232 "") ⟨[sy 19 [sy 83 [sy 35 [X, baseT T S], S], .int .i64 2], S]⟩ #[] from rfl, zau (by decide) b3 g2, itp_cmp (o := .gtr) (.inr (.inl ⟨rfl, rfl⟩)) rfl] at b4
     have b4 : ¬ (x - (3 + 2 * t)) % z + 2 > z := by simpa using b4
     have b5 : den m (sy 19 [X, .int .i64 1]) = some (.int .i64 (x + 1)) := arith_den (c := #[]) (nm := "") (o := .add) rfl (.inl rfl) hv (by rw [den]) (by simp [zao]) (by omega) (by omega)
     refine ⟨_, _, b5, s1, ?_⟩
     by_cases h : x - (3 + 2 * t) < z
     ·omega
     ·have h5 : (x - (3 + 2 * t)) % z = x - (3 + 2 * t) - z := by
        rw [← Int.sub_emod_right, Int.emod_eq_of_lt (by omega) (by omega)]
      omega
    ·exact ih h ht hG
   ·exact ih h ht hG
theorem ruleE_ok {m : Mu} (hm : Glob m) : RulOk m ruleE := by
 intro Γ c y hy hty hG
 unfold ruleE at hy
 split at hy
 ·rename_i nm0 nm1 X k1 nm nm2 nm3 T k3 k2 nm4 S k4 k k0
  obtain ⟨hb, x, n, h1, h2, h3⟩ := linkC_ok hm hy hty hG
  rw [hb, zau (by decide) (by rw [den_anyname (nm2 := "") (c2 := #[])]; exact h1) (show den m (.func (.methodOf 19 nm) ⟨[.func (.methodOf 19 nm2) ⟨[.int .i64 3, .func (.methodOf 51 nm3) ⟨[.int .i64 2, T]⟩ k3]⟩ k2, .func (.methodOf 51 nm4) ⟨[.int .i64 2, S]⟩ k4]⟩ k) = some (.int .i64 n) by
   rw [← h2]
   simp only [sizeT, sy, den, denA, denL]), itp_cmp (o := .geq) (.inr (.inr ⟨rfl, rfl⟩)) rfl]
  simp; omega
 ·rename_i nm0 nm1 X k1 nm nm2 nm3 T k3 k2 nm4 S k4 k k0
  obtain ⟨x0, hx0, e1, e2, e3⟩ := linkY_mem hy
  obtain ⟨hb, x, n, h1, h2, h3⟩ := linkC_ok hm hx0 (by rw [e1]; exact hty) (by rw [e2]; exact hG)
  rw [e3, hb, zau (by decide) (by rw [den_anyname (nm2 := "") (c2 := #[])]; exact h1) (show den m (.func (.methodOf 19 nm) ⟨[.func (.methodOf 19 nm2) ⟨[.int .i64 3, .func (.methodOf 51 nm3) ⟨[.int .i64 2, T]⟩ k3]⟩ k2, .func (.methodOf 51 nm4) ⟨[.int .i64 2, S]⟩ k4]⟩ k) = some (.int .i64 n) by
   rw [← h2]
   simp only [sizeT, sy, den, denA, denL]), itp_cmp (o := .lss) (.inl ⟨rfl, rfl⟩) rfl]
  simp; omega
 ·simp at hy
noncomputable def ruleH : Rul := fun _ c =>
 match c with
 | .func (.methodOf 264 _) ⟨[.func (.methodOf 87 _) ⟨[.func (.methodOf 71 _) ⟨[w, .int .u64 8]⟩ _, .int .u64 4]⟩ _, .int .u64 0]⟩ _ =>
   cnd (k7 w) [⟨[], [(sy 65720 [w], true), (sy 280 [sy 65747 [w], .int .i64 0], true)], false⟩, ⟨[], [(sy 65720 [w], true), (sy 280 [sy 65747 [w], .int .i64 0], false)], true⟩] []
 | _ => []
theorem quo8_den {m : Mu} {nm : String} {c : Array Value} {w : Value} {x : Int} (hw : den m w = some (.int .u64 x)) (hx : 0 ≤ x ∧ x ≤ 18446744073709551615) : den m (.func (.methodOf 71 nm) ⟨[w, .int .u64 8]⟩ c) = some (.int .u64 (x / 8)) := by
 rw [zau (by decide) hw (show den m (.int .u64 8) = some (.int .u64 8) by rw [den])]
 show (match zag .quo (.int .u64 x) (.int .u64 8) with | some v => if srtA 7 v = true then some v else none | none => none) = _
 rw [zap _ _ _ rfl]
 have e : x.tdiv 8 = x / 8 := Int.tdiv_eq_ediv_of_nonneg hx.1
 simp only [zao]
 rw [if_neg (by decide), e, Gx.wrap_u _ (by omega)]
 exact if_pos (zaq (u64S (by omega)))
theorem rem4_den {m : Mu} {nm : String} {c : Array Value} {w : Value} {x : Int} (hw : den m w = some (.int .u64 x)) (hx : 0 ≤ x ∧ x ≤ 18446744073709551615) : den m (.func (.methodOf 87 nm) ⟨[w, .int .u64 4]⟩ c) = some (.int .u64 (x % 4)) := by
 rw [zau (by decide) hw (show den m (.int .u64 4) = some (.int .u64 4) by rw [den])]
 show (match zag .rem (.int .u64 x) (.int .u64 4) with | some v => if srtA 7 v = true then some v else none | none => none) = _
 rw [zap _ _ _ rfl]
 have e : x.tmod 4 = x % 4 := Int.tmod_eq_emod_of_nonneg hx.1
 simp only [zao]
 rw [if_neg (by decide), e]
 exact if_pos (zaq (u64S (by omega)))
theorem ruleH_ok {m : Mu} (hm : Glob m) : RulOk m ruleH := by
 intro Γ c y hy hty hG
 unfold ruleH at hy
 split at hy
 ·rename_i nm0 nm1 nm2 w k2 k1 k0
  rw [zaa] at hy
  split at hy
  rotate_left
  ·cases hy
  rename_i h7
  have key : ∀ b : Bool, Holds m [(sy 65720 [w], true), (sy 280 [sy 65747 [w], .int .i64 0], b)] → den m (.func (.methodOf 264 nm0) ⟨[.func (.methodOf 87 nm1) ⟨[.func (.methodOf 71 nm2) ⟨[w, .int .u64 8]⟩ k2, .int .u64 4]⟩ k1, .int .u64 0]⟩ k0) = some (.bool (!b)) := by
   intro b hG
   have f1 := hG (sy 65720 [w]) true (by simp)
   obtain ⟨vw, hw, _⟩ := den_1Inv (by decide) (show den m (.func (.methodOf 65720 "") ⟨[w]⟩ #[]) = some (.bool true) from f1)
   obtain ⟨x, rfl, hx⟩ := k7_den h7 hw
   have f2 := hG (sy 280 [sy 65747 [w], .int .i64 0]) b (by simp)
   obtain ⟨g1, _, g3⟩ := gHdr hm (x := x)
   rw [show sy 65720 [w] = .func (.methodOf 65720 "") ⟨[w]⟩ #[] from rfl, den_1 (by decide) hw, g1] at f1
   have f1 : isHdr x = true := by simpa using f1
   have hM : den m (sy 65747 [w]) = some (.int .i64 (hMark x)) := by
    rw [show sy 65747 [w] = .func (.methodOf 65747 "") ⟨[w]⟩ #[] from rfl, den_1 (by decide) hw, g3]
   rw [show sy 280 [sy 65747 [w], .int .i64 0] = .func (.methodOf 280 "") ⟨[sy 65747 [w], .int .i64 0]⟩ #[] from rfl, zau (by decide) hM (show den m (.int .i64 0) = some (.int .i64 0) by rw [den])] at f2
   have f2 : (match zag .neq (.int .i64 (hMark x)) (.int .i64 0) with | some v => if srtA 8 v = true then some v else none | none => none) = some (.bool b) := f2
   rw [zap _ _ _ rfl] at f2
   have f2 : some (Value.bool (hMark x != 0)) = some (.bool b) := f2
   have f2 : (hMark x != 0) = b := by simpa using f2
   rw [zau (by decide) (rem4_den (quo8_den hw hx) (by omega)) (show den m (.int .u64 0) = some (.int .u64 0) by rw [den])]
   show (match zag .eql (.int .u64 (x / 8 % 4)) (.int .u64 0) with | some v => if srtA 8 v = true then some v else none | none => none) = _
   rw [zap _ _ _ rfl]
   show some (Value.bool (x / 8 % 4 == 0)) = _
   unfold hMark at f2
   rw [if_pos f1] at f2
   rw [← f2, bne, Bool.not_not]
  simp only [List.mem_cons, List.not_mem_nil, or_false] at hy
  rcases hy with rfl | rfl
  ·exact key true hG
  ·exact key false hG
 ·simp at hy
noncomputable def ruleO : Rul := fun _ c =>
 match c with
 | .func (.methodOf 65592 _) ⟨[T, S, L, .int .u64 0]⟩ _ => [⟨[], [(sy 65560 [T, S, L], true)], true⟩]
 | _ => []
theorem ruleO_ok {m : Mu} (hm : Glob m) : RulOk m ruleO := by
 intro Γ c y hy hty hG
 unfold ruleO at hy
 split at hy
 ·rename_i nm T S L k
  have hy := List.mem_singleton.1 hy
  subst hy
  obtain ⟨kT, t, kS, z, p, q, c', g1, g2, g3, g4⟩ := plan_yes hm (hG _ _ List.mem_cons_self)
  rw [den, denA, denL, g1, denL, g2, denL, g3, denL, den, denL]
  simp only
  rw [if_neg (by decide)]
  refine code_val hm (by decide) (by decide) rfl ?_
  show Value.bool (fitB t z (tl m.K p q) 0) = _
  unfold fitB
  rw [g4]; rfl
 ·simp at hy
noncomputable def ruleW8 : Rul := fun _ c =>
 match c with
 | .func (.methodOf 264 _) ⟨[.func (.methodOf 55 _) ⟨[.func (.methodOf 327 _) ⟨[.func (.methodOf 65603 _) ⟨[w]⟩ _]⟩ _, .int .u64 8]⟩ _, w']⟩ _ => cnd (k7 w && veq 100 w w') [⟨[], [(sy 280 [sy 65651 [w], .int .i64 2], false), (sy 65672 [w], false)], true⟩] []
 | _ => []
theorem ruleW8_ok {m : Mu} (hm : Glob m) : RulOk m ruleW8 := by
 intro Γ c y hy hty hG
 unfold ruleW8 at hy
 split at hy
 ·rename_i nm0 nm1 nm2 nm3 w k3 k2 k1 w' k0
  rw [zaa] at hy
  split at hy
  ·rename_i hc
   obtain ⟨h7, he⟩ := zac hc
   have he := veq_eq _ _ _ he
   subst he
   have hy := List.mem_singleton.1 hy
   subst hy
   have f1 := hG (sy 280 [sy 65651 [w], .int .i64 2]) false (by simp)
   have f2 := hG (sy 65672 [w]) false (by simp)
   obtain ⟨vw, hw, _⟩ := den_1Inv (by decide) (show den m (.func (.methodOf 65672 "") ⟨[w]⟩ #[]) = some (.bool false) from f2)
   obtain ⟨x, rfl, hx⟩ := k7_den h7 hw
   obtain ⟨vx, vy, g1, g2, g3⟩ := den_2I (by decide) (show den m (.func (.methodOf 280 "") ⟨[sy 65651 [w], .int .i64 2]⟩ #[]) = some (.bool false) from f1)
   obtain ⟨vw, hw2, g4⟩ := den_1Inv (by decide) g1
   rw [hw] at hw2
   cases hw2
   rw [(gOfV hm hx).1] at g4
   cases g4
   rw [den] at g2
   cases g2
   have g3 : (match zag .neq (.int .i64 (kindW x)) (.int .i64 2) with | some v => if srtA 8 v = true then some v else none | none => none) = some (.bool false) := g3
   rw [zap _ _ _ rfl] at g3
   have hk : kindW x = 2 := by
    have g3 : some (Value.bool (kindW x != 2)) = some (.bool false) := g3
    simpa using g3
   rw [show sy 65672 [w] = .func (.methodOf 65672 "") ⟨[w]⟩ #[] from rfl, den_1 (by decide) hw, (gOfV hm hx).2.1] at f2
   have h2 : sealedW x = false := by simpa using f2
   have hp : plainW x = x := by
    unfold sealedW at h2
    rw [hk] at h2
    simpa using h2
   have hq : x % 8 = 0 ∧ 0 ≤ x / 8 ∧ x / 8 ≤ 16777215 := by
    unfold kindW at hk
    rw [hp] at hk
    split at hk
    ·omega
    ·split at hk
     ·rename_i h; omega
     ·split at hk <;> (try split at hk) <;> omega
   have ha := addr_den hm hw hx
   rw [if_pos hk] at ha
   have hcv : den m (.func (.methodOf 327 nm2) ⟨[.func (.methodOf 65603 nm3) ⟨[w]⟩ k3]⟩ k2) = some (.int .u64 (x / 8)) := by
    rw [den_1 (by decide) (by rw [den_anyname (nm2 := "") (c2 := #[])]; exact ha)]
    show (match some (Value.int .u64 (IntKind.u64.wrap (x / 8))) with | some v => if srtA 7 v = true then some v else none | none => none) = _
    rw [Gx.wrap_u _ (by omega)]
    exact if_pos (zaq (u64S (by omega)))
   have hml : den m (.func (.methodOf 55 nm1) ⟨[.func (.methodOf 327 nm2) ⟨[.func (.methodOf 65603 nm3) ⟨[w]⟩ k3]⟩ k2, .int .u64 8]⟩ k1) = some (.int .u64 x) := by
    rw [zau (by decide) hcv (show den m (.int .u64 8) = some (.int .u64 8) by rw [den])]
    show (match zag .mul (.int .u64 (x / 8)) (.int .u64 8) with | some v => if srtA 7 v = true then some v else none | none => none) = _
    rw [zap _ _ _ rfl]
    simp only [zao]
    rw [Gx.wrap_u _ (by omega), show x / 8 * 8 = x by omega]
    exact if_pos (zaq (u64S (by omega)))
   rw [zau (by decide) hml hw]
   show (match zag .eql (.int .u64 x) (.int .u64 x) with | some v => if srtA 8 v = true then some v else none | none => none) = _
   rw [zap _ _ _ rfl]
   show some (Value.bool (x == x)) = _
   simp
  ·cases hy
 ·simp at hy
noncomputable def aheadC (X T t : Value) : List (Value × Value × Value) → List Cd
 | [] => []
 | x :: l => match x with
   | ⟨T', S, L⟩ => cnd (veq 100 T T') (⟨[(X, 3)], [(sy 65560 [T, S, L], true), (sy 248 [t, T], false), (sy 200 [t, .int .i64 0], false), (sy 200 [X, baseT T S], false)], false⟩ :: aheadC X T t l) (aheadC X T t l)
noncomputable def ruleQ : Rul := fun Γ c =>
 match c with
 | .func (.methodOf 264 _) ⟨[.func (.methodOf 19 nm) ⟨[.func (.methodOf 19 nm2) ⟨[.int .i64 3, T]⟩ k2, t]⟩ k, X]⟩ _ => aheadC X T t (plansOf Γ)
 | _ => []
theorem aheadC_ok {m : Mu} (hm : Glob m) {X T t : Value} {y : Cd} : ∀ {l : List (Value × Value × Value)}, y ∈ aheadC X T t l → Typed m y.ts → Holds m y.G → y.b = false ∧ ∃ x n, den m (sy 19 [sy 19 [.int .i64 3, T], t]) = some (.int .i64 x) ∧ den m X = some (.int .i64 n) ∧ x < n
 | [], h, _, _ => by cases h
 | (T', S, L) :: l, h, ht, hG => by
   have ih := @aheadC_ok m hm X T t y l
   replace h : y ∈ cnd (veq 100 T T') (⟨[(X, 3)], [(sy 65560 [T, S, L], true), (sy 248 [t, T], false), (sy 200 [t, .int .i64 0], false), (sy 200 [X, baseT T S], false)], false⟩ :: aheadC X T t l) (aheadC X T t l) := h
   rw [zaa] at h
   split at h
   ·rcases List.mem_cons.1 h with rfl | h
    ·refine ⟨rfl, ?_⟩
     obtain ⟨kT, tv, kS, z, p, k, c, g1, g2, g3, g4⟩ := plan_yes hm (hG _ _ List.mem_cons_self)
     have hb := okPlan_b g4
     obtain ⟨v, hv, sv⟩ := ht _ List.mem_cons_self
     simp only at hv sv
     obtain ⟨x, rfl, _⟩ := s_int (k := .i64) (zat (by decide) sv)
     obtain ⟨k1, a1, n1, d1, d2, d3⟩ := geq_inv (hG (sy 248 [t, T]) false (by simp))
     obtain ⟨k2, a2, n2, e1, e2, e3⟩ := lss_inv (hG (sy 200 [t, .int .i64 0]) false (by simp))
     obtain ⟨k3, a3, n3, f1, f2, f3⟩ := lss_inv (hG (sy 200 [X, baseT T S]) false (by simp))
     rw [den] at e2
     cases e2
     rw [e1] at d1
     cases d1
     rw [g1] at d2
     cases d2
     rw [hv] at f1
     cases f1
     have hS : kS = .i64 := by
      obtain ⟨u1, u2, f4, f5, f6⟩ := den_2I (by decide) f2
      obtain ⟨u7, u8, f10, f11, f12⟩ := den_2I (by decide) f5
      rw [g2] at f11
      cases f11
      rw [den] at f10
      cases f10
      have f12 : (match zag .mul (.int .i64 0) (.int kS z) with | some v => if srtA 3 v = true then some v else none | none => none) = some u2 := f12
      unfold zag at f12
      simp only [isShift, Bool.false_eq_true, if_false] at f12
      split at f12
      ·rename_i hw
       split at hw
       ·rename_i hk; exact (kEq_eq hk).symm
       ·cases hw
      ·cases f12
     subst hS
     obtain ⟨_, s2⟩ := size_den g1 g2 ⟨by omega, by omega, by omega, by omega⟩
     rw [s2] at f2
     cases f2
     have z1 := of_decide_eq_false d3.symm
     have z2 := of_decide_eq_false e3.symm
     have z3 := of_decide_eq_false f3.symm
     have z1 : ¬ a1 ≥ tv := z1
     have b1 : den m (sy 19 [.int .i64 3, T]) = some (.int .i64 (3 + tv)) := arith_den (c := #[]) (nm := "") (o := .add) rfl (.inl rfl) (by rw [den]) g1 (by simp [zao]) (by omega) (by omega)
     have b2 : den m (sy 19 [sy 19 [.int .i64 3, T], t]) = some (.int .i64 (3 + tv + a1)) := arith_den (c := #[]) (nm := "") (o := .add) rfl (.inl rfl) b1 e1 (by simp [zao]) (by omega) (by omega)
     exact ⟨_, _, b2, hv, by omega⟩
    ·exact ih h ht hG
   ·exact ih h ht hG
theorem ruleQ_ok {m : Mu} (hm : Glob m) : RulOk m ruleQ := by
 intro Γ c y hy hty hG
 unfold ruleQ at hy
 split at hy
 ·rename_i nm0 nm nm2 T k2 t k X k0
  obtain ⟨hb, x, n, h1, h2, h3⟩ := aheadC_ok hm hy hty hG
  rw [hb, zau (by decide) (show den m (.func (.methodOf 19 nm) ⟨[.func (.methodOf 19 nm2) ⟨[.int .i64 3, T]⟩ k2, t]⟩ k) = some (.int .i64 x) by
   rw [← h1]
   simp only [sy, den, denA, denL]) h2]
  show (match zag .eql (.int .i64 x) (.int .i64 n) with | some v => if srtA 8 v = true then some v else none | none => none) = _
  rw [zap _ _ _ rfl]
  show some (Value.bool (x == n)) = _
  have : (x == n) = false := by simp; omega
  rw [this]
 ·simp at hy
noncomputable def ruleG8 : Rul := fun _ c =>
 match c with
 | .func (.methodOf 264 _) ⟨[.func (.methodOf 23 _) ⟨[.func (.methodOf 55 _) ⟨[.func (.methodOf 327 _) ⟨[.func (.methodOf 19 _) ⟨[.func (.methodOf 51 _) ⟨[.func (.methodOf 65731 _) ⟨[w]⟩ _, .int .i64 4]⟩ _, .int .i64 1]⟩ _]⟩ _, .int .u64 8]⟩ _, .int .u64 6]⟩ _, .func (.methodOf 23 _) ⟨[w', .int .u64 8]⟩ _]⟩ _ =>
   cnd (k7 w && veq 1000 w w') [⟨[], [(sy 65720 [w], true), (sy 280 [sy 65747 [w], .int .i64 0], false)], true⟩] []
 | _ => []
theorem u2_den {m : Mu} {op : Nat} {nm : String} {c : Array Value} {u : Value} {o : BinOp} {x z r : Int} (ho : op = 16 * binCode o + 7) (hb : o = .add ∨ o = .mul) (hu : den m u = some (.int .u64 x)) (hr : zao o .u64 x z = some (.int .u64 (IntKind.u64.wrap r))) (h : 0 ≤ r ∧ r ≤ 18446744073709551615) : den m (.func (.methodOf op nm) ⟨[u, .int .u64 z]⟩ c) = some (.int .u64 r) := by
 have hne : ¬ op = 1016 := by rcases hb with rfl | rfl <;> (subst ho; decide)
 rw [zau hne hu (show den m (.int .u64 z) = some (.int .u64 z) by rw [den])]
 have hw := Gx.wrap_u r h
 rw [hw] at hr
 have hi : itp m op [.int .u64 x, .int .u64 z] = (match zag o (.int .u64 x) (.int .u64 z) with | some v => if srtA 7 v = true then some v else none | none => none) := by
  rcases hb with rfl | rfl <;> (subst ho; rfl)
 rw [hi, zap _ _ _ (by rcases hb with rfl | rfl <;> rfl), hr]
 exact if_pos (zaq (u64S h))
theorem ruleG8_ok {m : Mu} (hm : Glob m) : RulOk m ruleG8 := by
 intro Γ c y hy hty hG
 unfold ruleG8 at hy
 split at hy
 ·rename_i nm0 nm1 nm2 nm3 nm4 nm5 nm6 w k6 k5 k4 k3 k2 k1 nm7 w' k7' k0
  rw [zaa] at hy
  split at hy
  ·rename_i hc
   obtain ⟨h7, he⟩ := zac hc
   have he := veq_eq _ _ _ he
   subst he
   have hy := List.mem_singleton.1 hy
   subst hy
   have f1 := hG (sy 65720 [w]) true (by simp)
   have f2 := hG (sy 280 [sy 65747 [w], .int .i64 0]) false (by simp)
   obtain ⟨vw, hw, _⟩ := den_1Inv (by decide) (show den m (.func (.methodOf 65720 "") ⟨[w]⟩ #[]) = some (.bool true) from f1)
   obtain ⟨x, rfl, hx⟩ := k7_den h7 hw
   obtain ⟨g1, g2, g3⟩ := gHdr hm (x := x)
   rw [show sy 65720 [w] = .func (.methodOf 65720 "") ⟨[w]⟩ #[] from rfl, den_1 (by decide) hw, g1] at f1
   have f1 : isHdr x = true := by simpa using f1
   have hM : den m (sy 65747 [w]) = some (.int .i64 (hMark x)) := by
    rw [show sy 65747 [w] = .func (.methodOf 65747 "") ⟨[w]⟩ #[] from rfl, den_1 (by decide) hw, g3]
   rw [show sy 280 [sy 65747 [w], .int .i64 0] = .func (.methodOf 280 "") ⟨[sy 65747 [w], .int .i64 0]⟩ #[] from rfl, zau (by decide) hM (show den m (.int .i64 0) = some (.int .i64 0) by rw [den])] at f2
   have f2 : (match zag .neq (.int .i64 (hMark x)) (.int .i64 0) with | some v => if srtA 8 v = true then some v else none | none => none) = some (.bool false) := f2
   rw [zap _ _ _ rfl] at f2
   have f2 : some (Value.bool (hMark x != 0)) = some (.bool false) := f2
   have f2 : hMark x = 0 := by simpa using f2
   have hS : den m (.func (.methodOf 65731 nm6) ⟨[w]⟩ k6) = some (.int .i64 (hShape x)) := by
    rw [den_1 (by decide) hw, g2]
   unfold hMark at f2
   unfold hShape at hS
   rw [if_pos f1] at f2 hS
   unfold isHdr at f1
   have f1 := of_decide_eq_true f1
   have b1 : den m (.func (.methodOf 51 nm5) ⟨[.func (.methodOf 65731 nm6) ⟨[w]⟩ k6, .int .i64 4]⟩ k5) = some (.int .i64 (x / 8 / 4 * 4)) := arith_den (o := .mul) rfl (.inr (.inr rfl)) hS (by rw [den]) (by simp [zao]) (by omega) (by omega)
   have b2 : den m (.func (.methodOf 19 nm4) ⟨[.func (.methodOf 51 nm5) ⟨[.func (.methodOf 65731 nm6) ⟨[w]⟩ k6, .int .i64 4]⟩ k5, .int .i64 1]⟩ k4) = some (.int .i64 (x / 8 / 4 * 4 + 1)) := arith_den (o := .add) rfl (.inl rfl) b1 (by rw [den]) (by simp [zao]) (by omega) (by omega)
   have b3 : den m (.func (.methodOf 327 nm3) ⟨[.func (.methodOf 19 nm4) ⟨[.func (.methodOf 51 nm5) ⟨[.func (.methodOf 65731 nm6) ⟨[w]⟩ k6, .int .i64 4]⟩ k5, .int .i64 1]⟩ k4]⟩ k3) = some (.int .u64 (x / 8 / 4 * 4 + 1)) := by
    rw [den_1 (by decide) b2]
    show (match some (Value.int .u64 (IntKind.u64.wrap (x / 8 / 4 * 4 + 1))) with | some v => if srtA 7 v = true then some v else none | none => none) = _
    rw [Gx.wrap_u _ (by omega)]
    exact if_pos (zaq (u64S (by omega)))
   have b4 := u2_den (nm := nm2) (c := k2) (op := 55) (o := .mul) (z := 8) (r := (x / 8 / 4 * 4 + 1) * 8) rfl (.inr rfl) b3 rfl (by omega)
   have b5 := u2_den (nm := nm1) (c := k1) (op := 23) (o := .add) (z := 6) (r := (x / 8 / 4 * 4 + 1) * 8 + 6) rfl (.inl rfl) b4 rfl (by omega)
   have b6 := u2_den (nm := nm7) (c := k7') (op := 23) (o := .add) (z := 8) (r := x + 8) rfl (.inl rfl) hw rfl (by omega)
   rw [zau (by decide) b5 b6]
   show (match zag .eql (.int .u64 ((x / 8 / 4 * 4 + 1) * 8 + 6)) (.int .u64 (x + 8)) with | some v => if srtA 8 v = true then some v else none | none => none) = _
   rw [zap _ _ _ rfl]
   show some (Value.bool ((x / 8 / 4 * 4 + 1) * 8 + 6 == x + 8)) = _
   have : ((x / 8 / 4 * 4 + 1) * 8 + 6 == x + 8) = true := by simp; omega
   rw [this]
  ·cases hy
 ·simp at hy
noncomputable def rulesS : Rul := catR [rulesA, ruleN, ruleE, ruleH, ruleO, ruleW8, ruleQ, ruleG8]
theorem rulesS_ok {m : Mu} (hm : Glob m) : RulOk m rulesS := catR_ok fun r hr => by
 simp only [List.mem_cons, List.not_mem_nil, or_false] at hr
 rcases hr with rfl | rfl | rfl | rfl | rfl | rfl | rfl | rfl
 ·exact rulesA_ok hm
 ·exact ruleN_ok hm
 ·exact ruleE_ok hm
 ·exact ruleH_ok hm
 ·exact ruleO_ok hm
 ·exact ruleW8_ok hm
 ·exact ruleQ_ok hm
 ·exact ruleG8_ok hm
noncomputable def rulesG : Rul := catR [ruleG, ruleX]
theorem rulesG_ok {m : Mu} (hm : Glob m) : RulOk m rulesG := catR_ok fun r hr => by
 simp only [List.mem_cons, List.not_mem_nil, or_false] at hr
 rcases hr with rfl | rfl
 ·exact ruleG_ok hm
 ·exact ruleX_ok hm
noncomputable def anyL : Facts → Value → Option Bool := orM (linM rgS2) anyM
noncomputable def anyG : Facts → Value → Option Bool := orM anyL (ruleM (dec1 anyL) rulesG)
noncomputable def mkB : Facts → Value → Option Bool := orM anyG (ruleM (dec1 anyG) rulesS)
end Go.Proofs.YteglommbdpaokaaGreat
