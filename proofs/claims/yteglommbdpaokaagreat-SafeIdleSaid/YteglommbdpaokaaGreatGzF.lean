/- The evaluator that the kernel runs: a function's call, by all routes that its run may go. -/
import Derived.Test.YteglommbdpaokaaGreatGzEx
namespace Go.Gz
open Go Go.Gx Go.RowKit
noncomputable def routes (P : Program) (sm : Sm) (mk : Facts → Value → Option Bool) (fuel d : Nat) (f : FuncId) (args : List Value) (Γ : Facts) : List (Facts × Ans) :=
 match enterF P f args .normal with
 | some ⟨x, mode, todo, tm⟩ => expl P sm mk (fun _ => false) fuel d Γ ⟨x, mode, todo, tm, [], 0, .none⟩
 | none => [(Γ, .out)]
noncomputable def okA : Ans → Bool
 | .ok _ _ _ => true
 | _ => false
def KOk (m : Mu) (w : World) : Prop := ∀ r o, m.K r = some o → w.heap[r]? = some o
theorem start_wr (P : Program) {m : Mu} {w : World} (hk : KOk m w) : WR P ⟨w, 0, fun _ => 0, true⟩ ⟨fun _ => 0, fun _ => 0, m⟩ 0 .none w := by
 refine ⟨rfl, rfl, rfl, Nat.le_refl _, Nat.le_refl _, by omega, fun j hj => absurd hj (Nat.not_lt_zero _), fun j _ hj => absurd hj (Nat.not_lt_zero _), fun _ _ _ => rfl, fun j hj => absurd hj (Nat.not_lt_zero _), fun i j hi => absurd hi (Nat.not_lt_zero _), fun _ j hj => absurd hj (Nat.not_lt_zero _), fun c b hc => ?_, hk, fun j hj => absurd hj (Nat.not_lt_zero _)⟩
 unfold decH at hc
 split at hc
 ·cases hc; simp [den]
 ·rw [hp_none_get] at hc; cases hc
section
variable {P : Program} (hP : Small P) {sm : Sm} {m : Mu} (hsm : SmOk P sm m) {mk : Facts → Value → Option Bool} (hmk : MkOk m mk)
include hP hsm hmk
theorem routes_calls {fuel d : Nat} {f : FuncId} {args args' : List Value} {Γ : Facts} (hall : ∀ r ∈ routes P sm mk fuel d f args Γ, Holds m r.1 → okA r.2 = true) (hΓ : Holds m Γ) {w : World} (hk : KOk m w) (ha : RL ⟨fun _ => 0, fun _ => 0, m⟩ 0 args args') :
  Calls P f args'.toArray w fun o w' => ∃ r ∈ routes P sm mk fuel d f args Γ, Holds m r.1 ∧ ∃ v n' hp' e' v', r.2 = .ok v n' hp' ∧ e'.m = m ∧ RV e' n' v v' ∧ WR P ⟨w, 0, fun _ => 0, true⟩ e' n' hp' w' ∧ o = .returned v' ∧ Below w.heap.size w w' := by
 intro cs
 unfold routes at hall ⊢
 split at hall
 ·rename_i x mode todo tm he
  obtain ⟨h1, h2, h3, h4, h5, h6⟩ := enter_rel hP (e := ⟨fun _ => 0, fun _ => 0, m⟩) (n := 0) he ha
  obtain ⟨r, k1, k2, k3⟩ := expl_goes hP hsm hmk (head := fun _ => false) (fuel := fuel) d Γ ⟨x, mode, todo, tm, [], 0, .none⟩ ⟨w, 0, fun _ => 0, true⟩ ⟨fun _ => 0, fun _ => 0, m⟩ w _ [] cs hΓ rfl rfl (start_wr P hk) h1 .nil
  have hok := hall r k1 k2
  obtain ⟨Γ', a⟩ := r
  cases a with
  | ok v n' hp' =>
    obtain ⟨e', w', v', g1, g2, g3, g4, g5⟩ := k3
    obtain ⟨fr1, g6, g7, g8⟩ := g5 h4
    exact ⟨.returned v', w', fr1, ⟨_, k1, k2, v, n', hp', e', v', rfl, g1.m, g3, g2, rfl, g2.os, g2.tape, g2.output, g2.size, fun k hk => g2.old k hk fun i hi => absurd hi (Nat.not_lt_zero _)⟩, g6, g7.trans h3, g8⟩
  | _ => cases hok
 ·rename_i he
  exact absurd (hall (Γ, .out) (List.mem_singleton.2 rfl) hΓ) (by simp [okA])
end
noncomputable def seek (Γ : Facts) (c : Value) : Option Bool :=
 @List.rec (Value × Bool) (fun _ => Option Bool) none (fun x _ ih => match x with
  | ⟨e, b⟩ => cnd (veq 1000 e c) (some b) ih) Γ
theorem seek_mem : ∀ {Γ : Facts} {c : Value} {b : Bool}, seek Γ c = some b → (c, b) ∈ Γ
 | [], c, b, h => by cases h
 | (e, b0) :: Γ, c, b, h => by
   have h : cnd (veq 1000 e c) (some b0) (seek Γ c) = some b := h
   rw [zaa] at h
   split at h
   ·rename_i hv
    cases h
    rw [veq_eq _ _ _ hv]
    exact List.mem_cons_self
   ·exact List.mem_cons_of_mem _ (seek_mem h)
noncomputable def facts (more : Facts → Value → Option Bool) (Γ : Facts) (c : Value) : Option Bool :=
 match seek Γ c with
 | some b => some b
 | none => more Γ c
theorem facts_ok {m : Mu} {more : Facts → Value → Option Bool} (h : MkOk m more) : MkOk m (facts more) := by
 intro Γ hΓ c b hc
 unfold facts at hc
 split at hc
 ·rename_i b0 hb
  cases hc
  exact hΓ _ _ (seek_mem hb)
 ·exact h Γ hΓ c b hc
noncomputable def noMore : Facts → Value → Option Bool := fun _ _ => none
theorem noMore_ok (m : Mu) : MkOk m noMore := fun _ _ _ _ h => by cases h
theorem noSm_ok (P : Program) (m : Mu) : SmOk P noSm m := fun _ _ _ _ _ _ _ h => by cases h
noncomputable def yesA : Ans → Bool
 | .ok v _ _ => match v with
   | .bool b => b
   | _ => false
 | _ => false
noncomputable def allYes : List (Facts × Ans) → Bool
 | [] => true
 | x :: l => match x with
   | ⟨_, a⟩ => cnd (yesA a) (allYes l) false
theorem allYes_mem : ∀ {l : List (Facts × Ans)}, allYes l = true → ∀ r ∈ l, yesA r.2 = true
 | [], _, r, hr => by simp at hr
 | (Γ, a) :: l, h, r, hr => by
   unfold allYes at h
   simp only [zaa] at h
   split at h
   ·rename_i ha
    rcases List.mem_cons.1 hr with rfl | hr
    ·exact ha
    ·exact allYes_mem h r hr
   ·cases h
theorem yesA_ok {a : Ans} (h : yesA a = true) : ∃ n hp, a = .ok (.bool true) n hp := by
 cases a with
 | ok v n hp =>
   cases v with
   | bool b => cases b <;> first | exact ⟨n, hp, rfl⟩ | cases h
   | _ => cases h
 | _ => cases h
theorem routes_yes {P : Program} (hP : Small P) {sm : Sm} {m : Mu} (hsm : SmOk P sm m) {mk : Facts → Value → Option Bool} (hmk : MkOk m mk) {fuel d : Nat} {f : FuncId} {args args' : List Value} {Γ : Facts}
  (hall : ∀ r ∈ routes P sm mk fuel d f args Γ, Holds m r.1 → yesA r.2 = true) (hΓ : Holds m Γ) {w : World} (hk : KOk m w) (ha : RL ⟨fun _ => 0, fun _ => 0, m⟩ 0 args args') :
  Calls P f args'.toArray w fun o w' => o = .returned (.bool true) ∧ Below w.heap.size w w' := by
 refine (routes_calls hP hsm hmk (fuel := fuel) (d := d) (fun r hr hh => ?_) hΓ hk ha).mono ?_
 ·obtain ⟨n, hp, h⟩ := yesA_ok (hall r hr hh); rw [h]; rfl
 ·rintro o w' ⟨r, hr, hh, v, n', hp', e', v', h1, h2, h3, h4, h5, h6⟩
  obtain ⟨n, hp, h⟩ := yesA_ok (hall r hr hh)
  rw [h] at h1
  cases h1
  rw [h5, h3.boolI]
  exact ⟨rfl, h6⟩
end Go.Gz
