/- The evaluator that the kernel runs: what is known of calls, by contracts. -/
import Derived.Test.YteglommbdpaokaaGreatGzArg
import Derived.Test.YteglommbdpaokaaGreatGzLs
namespace Go.Gz
open Go Go.Gx Go.RowKit
inductive EntR where
 | no
 | ans (v : Value)
 | ask (c : Value)
structure Ent where
 f : FuncId
 res : List Value → Hp → EntR
noncomputable def smOf : List Ent → Sm
 | [], _, _, _, _ => .no
 | E :: l, f, args, n, hp => match E with
   | ⟨g, r⟩ => cnd (Nat.beq g f) (match r args hp with
     | .ans v => .ans v n hp
     | .ask c => .ask c
     | .no => smOf l f args n hp) (smOf l f args n hp)
def GivesZ (P : Program) (f : FuncId) (args : List Value) (w : World) (v : Value) : Prop :=
 Calls P f args.toArray w fun e w' => e = .returned v ∧ Below w.heap.size w w'
def EntOk (P : Program) (m : Mu) (E : Ent) : Prop :=
 (bodyOf P E.f).isSome = true ∧ ∀ (args : List Value) (hp : Hp) (v : Value), (∀ c b, decH hp c = some b → den m c = some (.bool b)) → E.res args hp = .ans v →
  ∀ (e : Env) (n : Nat) (w : World) (args' : List Value), e.m = m → KOk m w → RL e n args args' → ∃ v', RV e n v v' ∧ GivesZ P E.f args' w v'
theorem WR.same2 {P : Program} {B : Base} {e : Env} {n : Nat} {hp : Hp} {w w' : World} (h : WR P B e n hp w) (hl : B.lt = true) (hb : Below w.heap.size w w') : WR P B e n hp w' := by
 have hg : ∀ {r : Nat} {o : Obj}, w.heap[r]? = some o → w'.heap[r]? = some o := fun {r o} hr => by
  rw [hb.block r (Array.getElem?_eq_some_iff.1 hr).1]; exact hr
 refine ⟨hb.os.trans h.os, hb.tape.trans h.tape, hb.output.trans h.output, Nat.le_trans h.size hb.size, h.n0, h.nmax, h.agree, h.fresh, fun r hr hno => ?_, fun j hj hlv => ?_, h.inj, fun h2 j hj => Nat.lt_of_lt_of_le (h.lt' hl j hj) hb.size, h.fk, fun r o hr => hg (h.kp r o hr), h.kn⟩
 ·rw [hb.block r (Nat.lt_of_lt_of_le hr h.size)]; exact h.old r hr hno
 ·obtain ⟨o, h1, h2⟩ := h.obj j hj hlv
  exact ⟨o, hg h1, h2⟩
theorem smOf_ok {P : Program} {m : Mu} : ∀ {l : List Ent}, (∀ E ∈ l, EntOk P m E) → SmOk P (smOf l) m
 | [], _ => fun f args n hp v n' hp' h => by cases h
 | E :: l, hE => fun f args n hp v n' hp' h => by
   obtain ⟨g, r⟩ := E
   unfold smOf at h
   simp only [zaa] at h
   have tl := smOf_ok (fun E h => hE E (List.mem_cons_of_mem _ h))
   split at h
   ·rename_i hgf
    have hgf := zad hgf
    subst hgf
    split at h
    ·rename_i u hu
     cases h
     obtain ⟨h1, h2⟩ := hE ⟨g, r⟩ List.mem_cons_self
     refine ⟨h1, fun B e w args' hem hl hw ha => ?_⟩
     obtain ⟨v', h3, h4⟩ := h2 args hp v (by rw [← hem]; exact hw.fk) hu e n w args' hem (by rw [← hem]; exact hw.kp) ha
     exact h4.mono fun o w' ⟨ho, hb⟩ => ⟨e, v', ho, Ext.refl _ _, hw.same2 hl hb, h3⟩
    ·cases h
    ·exact tl _ args n hp v n' hp' h
   ·exact tl f args n hp v n' hp' h
noncomputable def yesRes : List Value → Hp → EntR
 | [], _ => .ans (.bool true)
 | _, _ => .no
theorem yesEnt_ok {P : Program} (hP : Small P) (m : Mu) {f : FuncId} {fuel d : Nat} (hb : (bodyOf P f).isSome = true) (hall : allYes (routes P noSm (facts noMore) fuel d f [] []) = true) : EntOk P m ⟨f, yesRes⟩ := by
 refine ⟨hb, fun args hp v _ hv e n w args' hem _ ha => ?_⟩
 cases args with
 | cons a l => cases hv
 | nil =>
   cases hv
   have ha' : args' = [] := by cases ha; rfl
   subst ha'
   let m0 : Mu := ⟨m.I, fun _ => none⟩
   exact ⟨.bool true, .plain _ rfl, (routes_yes hP (noSm_ok P m0) (facts_ok (noMore_ok m0)) (fuel := fuel) (d := d) (Γ := []) (fun r hr _ => allYes_mem hall r hr) (fun _ _ h => by simp at h) (fun r o h => by cases h) .nil : Calls P f [].toArray w _)⟩
end Go.Gz
