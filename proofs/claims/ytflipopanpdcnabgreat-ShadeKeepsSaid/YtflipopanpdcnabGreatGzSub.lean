/- The evaluator that the kernel runs: terms put in the place of others that mean the same. -/
import Derived.Test.YtflipopanpdcnabGreatGzRl
namespace Go.Gz
open Go Go.Gx Go.RowKit
abbrev Subs := List (Value × Value)
noncomputable def findS (v : Value) : Subs → Option Value
 | [] => none
 | x :: l => match x with
   | ⟨a, b⟩ => cnd (veq 100 a v) (some b) (findS v l)
noncomputable def mapV (f : Value → Value) : List Value → List Value
 | [] => []
 | v :: l => f v :: mapV f l
noncomputable def putS (S : Subs) : Nat → Value → Value :=
 @Nat.rec (fun _ => Value → Value) (fun v => v) (fun _ rec v => match findS v S with
  | some b => b
  | none => match v with
    | .func (.methodOf op nm) ⟨a⟩ c => .func (.methodOf op nm) ⟨mapV rec a⟩ c
    | .agg ⟨a⟩ => .agg ⟨mapV rec a⟩
    | v => v)
noncomputable def putF (S : Subs) : Facts → Facts
 | [] => []
 | x :: l => match x with
   | ⟨c, b⟩ => (putS S 60 c, b) :: putF S l
noncomputable def putM (find : Facts → Subs) (d : Facts → Value → Option Bool) (Γ : Facts) (c : Value) : Option Bool :=
 match find Γ with
 | [] => none
 | x :: l => d (putF (x :: l) Γ ++ Γ) (putS (x :: l) 60 c)
def SubsOk (m : Mu) (S : Subs) : Prop := ∀ x ∈ S, den m x.2 = den m x.1
theorem findS_ok {m : Mu} {S : Subs} (hS : SubsOk m S) {v b : Value} (h : findS v S = some b) : den m b = den m v := by
 induction S with
 | nil => cases h
 | cons x l ih =>
   obtain ⟨a, b'⟩ := x
   replace h : cnd (veq 100 a v) (some b') (findS v l) = some b := h
   rw [zaa] at h
   split at h
   ·rename_i he
    have he := veq_eq _ _ _ he
    subst he
    cases h
    exact hS _ List.mem_cons_self
   ·exact ih (fun y hy => hS y (List.mem_cons_of_mem _ hy)) h
theorem mapV_den {m : Mu} {f : Value → Value} (hf : ∀ v, den m (f v) = den m v) : ∀ l, denL m (mapV f l) = denL m l
 | [] => rfl
 | v :: l => by
   show denL m (f v :: mapV f l) = _
   rw [denL, denL, hf, mapV_den hf l]
theorem putS_den {m : Mu} {S : Subs} (hS : SubsOk m S) : ∀ (n : Nat) (v : Value), den m (putS S n v) = den m v
 | 0, v => rfl
 | n + 1, v => by
   have ih := putS_den hS n
   show den m (match findS v S with
   | some b => b
   | none => match v with
     | .func (.methodOf op nm) ⟨a⟩ c => .func (.methodOf op nm) ⟨mapV (putS S n) a⟩ c
     | .agg ⟨a⟩ => .agg ⟨mapV (putS S n) a⟩
     | v => v) = _
   split
   ·rename_i b h
    exact findS_ok hS h
   ·split
    ·rw [den, den, denA, denA, mapV_den ih]
    ·rw [den, den, denA, denA, mapV_den ih]
    ·rfl
theorem putF_ok {m : Mu} {S : Subs} (hS : SubsOk m S) : ∀ {Γ : Facts}, Holds m Γ → Holds m (putF S Γ)
 | [], _ => fun c b h => by cases h
 | (c, b) :: Γ, h => fun c' b' hc => by
   rcases List.mem_cons.1 (show (c', b') ∈ (putS S 60 c, b) :: putF S Γ from hc) with he | hc
   ·cases he
    rw [putS_den hS]
    exact h c b List.mem_cons_self
   ·exact putF_ok hS (fun c b hc => h c b (List.mem_cons_of_mem _ hc)) c' b' hc
theorem putM_ok {m : Mu} {find : Facts → Subs} (hf : ∀ Γ, Holds m Γ → SubsOk m (find Γ)) {d : Facts → Value → Option Bool} (hd : MkOk m d) : MkOk m (putM find d) := by
 intro Γ hΓ c b h
 have hS := hf Γ hΓ
 unfold putM at h
 split at h
 ·cases h
 ·rename_i x l he
  rw [he] at hS
  rw [← putS_den hS 60 c]
  refine hd _ (fun c b hc => ?_) _ _ h
  rcases List.mem_append.1 hc with hc | hc
  ·exact putF_ok hS hΓ c b hc
  ·exact hΓ c b hc
end Go.Gz
