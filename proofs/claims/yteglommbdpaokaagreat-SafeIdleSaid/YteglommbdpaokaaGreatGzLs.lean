/- The evaluator that the kernel runs: the heads of loops, as states over variables. -/
import Derived.Test.YteglommbdpaokaaGreatGzArg
namespace Go.Gz
open Go Go.Gx Go.RowKit
noncomputable def pvar (k s : Nat) : Value := sy (opc (8192 + k) s) []
structure NSt where
 ts : List Value
 bs : List Nat
noncomputable def idxV (v : Value) : List Value → Nat → Option Nat
 | [], _ => none
 | u :: l, k => cnd (veq 1000 u v) (some k) (idxV v l (Nat.succ k))
structure NR (α : Type) where
 v : α
 s : NSt
noncomputable def shallow2 : List Value → Bool
 | [] => true
 | v :: l => cnd (one v) (shallow2 l) false
noncomputable def small1 (v : Value) : Bool :=
 match v with
 | .agg a => Nat.ble a.size 255 && shallow2 a.toList
 | .tuple a => Nat.ble a.size 255 && shallow2 a.toList
 | _ => true
noncomputable def small0 (v : Value) : Bool :=
 match v with
 | .agg a => Nat.ble a.size 255 && allB small1 a.toList
 | .tuple a => Nat.ble a.size 255 && allB small1 a.toList
 | _ => true
structure Nrm where
 slots : List Value
 objs : List AObj
 s : NSt
end Go.Gz
namespace Go.Gz
open Go Go.Gx Go.RowKit
theorem nth_get {α : Type} : ∀ (l : List α) (k : Nat), nth l k = l[k]?
 | [], _ => by simp [nth]
 | a :: l, 0 => rfl
 | a :: l, k + 1 => by
   show nth l k = _
   rw [nth_get l k]; simp
noncomputable def subI (m : Mu) (τ : List Value) (D : Nat → Value) (op : Nat) (l : List Value) : Value :=
 match (if 8192 ≤ op / 16 then τ[op / 16 - 8192]? else none) with
 | some t => (den m t).getD undef
 | none => if 1048576 ≤ op / 16 then D (op / 16 - 1048576) else m.I op l
noncomputable def subM (m : Mu) (τ : List Value) (D : Nat → Value) : Mu := ⟨subI m τ D, m.K⟩
theorem var_den2 {m : Mu} {τ : List Value} {D : Nat → Value} {op : Nat} {nm : String} {a c : Array Value} {t v' : Value} (ha : a.isEmpty = true) (hge : 8192 ≤ op / 16) (ht : τ[op / 16 - 8192]? = some t) (hd : den m t = some v') (hs : srtA (op % 16) v' = true) :
  den (subM m τ D) (.func (.methodOf op nm) a c) = some v' := by
 have ha : a = #[] := by simpa using ha
 subst ha
 have hI : (subM m τ D).I op [] = v' := by
  show subI m τ D op [] = v'
  unfold subI
  rw [if_pos hge, ht]
  simp [hd]
 rw [den, denA, denL]
 have h1 : ¬ op = 1016 := by omega
 have h2 : ¬ op / 16 < 64 := by omega
 simp only [if_neg h1, itp, if_neg h2, hI, fixS, if_pos hs]
section
variable {e : Env} {n : Nat} {τ : List Value} {bs : List Nat} {D : Nat → Value} {hp : Hp}
end
end Go.Gz
namespace Go.Gz
open Go Go.Gx Go.RowKit
section
variable {e : Env} {n : Nat} {e2 : Env} {n2 : Nat} {m : Mu} {τ : List Value} {D : Nat → Value} (hm : e2.m = subM m τ D) (hτ : τ.length ≤ 1000000)
include hm hτ
end
end Go.Gz
namespace Go.Gz
open Go Go.Gx Go.RowKit
noncomputable def subL (f : Value → Value) : List Value → List Value
 | [] => []
 | v :: l => f v :: subL f l
noncomputable def subT (τ : List Value) : Nat → Value → Value :=
 @Nat.rec (fun _ => Value → Value) (fun v => v) (fun _ rec v => match v with
  | .func fn a c => match fn with
    | .methodOf op nm => cnd (Nat.ble 8192 (Nat.div op 16)) (match nth τ (Nat.sub (Nat.div op 16) 8192) with
      | some t => t
      | none => .func (.methodOf op nm) a c) (.func (.methodOf op nm) ⟨subL rec a.toList⟩ c)
    | fn => .func fn a c
  | .agg a => .agg ⟨subL rec a.toList⟩
  | v => v)
noncomputable def okT (σ : List Nat) : Nat → Value → Bool :=
 @Nat.rec (fun _ => Value → Bool) (fun _ => false) (fun _ rec v => match v with
  | .func fn a _ => match fn with
    | .methodOf op _ => cnd (Nat.ble 8192 (Nat.div op 16)) (a.isEmpty && (match nth σ (Nat.sub (Nat.div op 16) 8192) with
      | some s => Nat.beq s (Nat.mod op 16)
      | none => false)) (allB rec a.toList)
    | _ => false
  | .agg a => allB rec a.toList
  | .int _ _ => true
  | .bool _ => true
  | .string _ => true
  | _ => false)
theorem subL_den {m m2 : Mu} {f : Value → Value} {ok : Value → Bool} (ih : ∀ v, ok v = true → den m2 v = den m (f v)) : ∀ {l : List Value}, allB ok l = true → denL m2 l = denL m (subL f l)
 | [], _ => rfl
 | v :: l, h => by
   unfold allB at h
   rw [zaa] at h
   split at h
   ·rename_i h1
    simp only [subL, denL, ih v h1, subL_den ih h]
   ·cases h
theorem subT_den {m : Mu} {τ : List Value} {σ : List Nat} {D : Nat → Value} (hτ : ∀ (k s : Nat), σ[k]? = some s → ∃ t v, τ[k]? = some t ∧ den m t = some v ∧ srtA s v = true) : ∀ (d : Nat) (v : Value), okT σ d v = true → den (subM m τ D) v = den m (subT τ d v)
 | 0, _, h => by cases h
 | d + 1, v, h => by
   have ih := subT_den (D := D) hτ d
   cases v with
   | func fn a c =>
     cases fn with
     | methodOf op nm =>
       have h : cnd (Nat.ble 8192 (Nat.div op 16)) (a.isEmpty && (match nth σ (Nat.sub (Nat.div op 16) 8192) with
        | some s => Nat.beq s (Nat.mod op 16)
        | none => false)) (allB (okT σ d) a.toList) = true := h
       show den (subM m τ D) _ = den m (cnd (Nat.ble 8192 (Nat.div op 16)) (match nth τ (Nat.sub (Nat.div op 16) 8192) with
        | some t => t
        | none => .func (.methodOf op nm) a c) (.func (.methodOf op nm) ⟨subL (subT τ d) a.toList⟩ c))
       rw [zaa] at h ⊢
       split at h
       ·rename_i hge
        rw [if_pos hge]
        obtain ⟨h1, h2⟩ := zac h
        split at h2
        ·rename_i s hs
         rw [nth_get] at hs
         have h2 : s = op % 16 := zad h2
         obtain ⟨t, v, g1, g2, g3⟩ := hτ _ _ hs
         have : nth τ (Nat.sub (Nat.div op 16) 8192) = some t := by rw [nth_get]; exact g1
         rw [this]
         simp only
         rw [g2]
         exact var_den2 h1 (by rw [Nat.ble_eq] at hge; exact hge) g1 g2 (by rw [← h2]; exact g3)
        ·cases h2
       ·rename_i hge
        rw [if_neg hge]
        obtain ⟨l⟩ := a
        have hl : denA (subM m τ D) ⟨l⟩ = denA m ⟨subL (subT τ d) l⟩ := by
         rw [denA, denA]; exact subL_den ih h
        have hI : ∀ r, (subM m τ D).I op r = m.I op r := by
         intro r
         have hlt : ¬ 8192 ≤ op / 16 := fun h => hge (by rw [Nat.ble_eq]; exact h)
         show subI m τ D op r = m.I op r
         unfold subI
         rw [if_neg hlt, if_neg (fun h => hlt (Nat.le_trans (by decide) h))]
        rw [den, den, hl]
        have hit : ∀ r, itp (subM m τ D) op r = itp m op r := by
         intro r
         unfold itp
         rw [hI]
         rfl
        simp only [hit]
     | _ => cases h
   | agg a =>
     obtain ⟨l⟩ := a
     show den (subM m τ D) _ = den m (.agg ⟨subL (subT τ d) l⟩)
     rw [den, den, denA, denA, subL_den ih h]
   | int k n => show den (subM m τ D) _ = den m (.int k n); rw [den, den]
   | bool b => show den (subM m τ D) _ = den m (.bool b); rw [den, den]
   | string b => show den (subM m τ D) _ = den m (.string b); rw [den, den]
   | _ => cases h
structure Head where
 slots : List Value
 objs : List AObj
 Γ : Facts
 rank : Value
structure Obl where
 Γ : Facts
 goals : Facts
section
variable {m : Mu} {dec : Value → Option Bool} (hdec : ∀ c b, dec c = some b → den m c = some (.bool b))
include hdec
end
def Done (P : Program) (B : Base) (fr : Frame) (CS : List Frame) (w : World) (f : FuncId) : Prop :=
 ∃ w' fr1, Steps P (lone fr CS w) (lone fr1 CS w') ∧ fr1.fn = f ∧ fr1.leaving P w' (.returned (.bool true)) ∧ Below B.w.heap.size B.w w'
theorem Done.trans {P : Program} {B : Base} {fr fr1 : Frame} {CS : List Frame} {w w1 : World} {f : FuncId} (hs : Steps P (lone fr CS w) (lone fr1 CS w1)) (h : Done P B fr1 CS w1 f) : Done P B fr CS w f := by
 obtain ⟨w', fr2, h1, h2⟩ := h
 exact ⟨w', fr2, hs.trans h1, h2⟩
theorem WR.below {P : Program} {B : Base} (hB : B.n = 0) {e : Env} {n : Nat} {hp : Hp} {w : World} (h : WR P B e n hp w) : Below B.w.heap.size B.w w :=
 ⟨h.os, h.tape, h.output, h.size, fun k hk => h.old k hk fun i hi => by omega⟩
def Cls (m0 m : Mu) : Prop := m.K = m0.K ∧ ∀ op l, op / 16 < 8192 → m.I op l = m0.I op l
theorem Cls.refl (m : Mu) : Cls m m := ⟨rfl, fun _ _ _ => rfl⟩
theorem Cls.sub {m0 m : Mu} (h : Cls m0 m) (τ : List Value) (D : Nat → Value) : Cls m0 (subM m τ D) := by
 refine ⟨h.1, fun op l hl => ?_⟩
 rw [← h.2 op l hl]
 show subI m τ D op l = m.I op l
 unfold subI
 rw [if_neg (by omega), if_neg (by omega)]
section
variable {P : Program} (hP : Small P) {sm : Sm} {m0 : Mu} (hsm : ∀ m, Cls m0 m → SmOk P sm m) {mk : Facts → Value → Option Bool} (hmk : ∀ m, Cls m0 m → MkOk m mk) {hd : S → Bool} {fuel d : Nat}
 {live gens : List Nat} {X0 : X} {T : List AI} {heads : List Head}
include hP hmk
include hsm
end
end Go.Gz
