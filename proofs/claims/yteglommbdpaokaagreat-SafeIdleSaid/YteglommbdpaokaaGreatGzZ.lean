/- The evaluator that the kernel runs: regions that draw, part 3: what the run in the region's own order went through. -/
import Derived.Test.YteglommbdpaokaaGreatGzU
import Derived.Orders
import Derived.Below
namespace Go.Gz
open Go Go.Gx Go.RowKit
structure St where
 tm : Tm
 n : Nat
 hp : Hp
 snaps : List Snap
 als : List (Nat × Nat)
def HRes (P : Program) (sm : Sm) (rec : S → Ans) (kb : AObj) (o : Oper) (s : St) (v : Value) (n' : Nat) (hp' : Hp) : Prop :=
 match (aopW o.op).f P s.tm s.n s.hp with
 | .val u => v = u ∧ n' = s.n ∧ hp' = s.hp
 | .mem u h => v = u ∧ n' = s.n ∧ hp' = h.set 32767 kb
 | .new u h ob => v = u ∧ s.n < 32767 ∧ n' = s.n + 1 ∧ hp' = (h.set s.n ob).set 32767 kb
 | .enter f args => ∃ hp1, hp' = hp1.set 32767 kb ∧ s.n ≤ n' ∧ n' ≤ 32767 ∧ (sm f args s.n s.hp = .ans v n' hp1 ∨ (sm f args s.n s.hp = .no ∧ ∃ fr, enterF P f args .normal = some fr ∧ rec ⟨fr.x, fr.mode, fr.todo, fr.tm, [], s.n, s.hp⟩ = .ok v n' hp1))
 | .rnd l args => ∃ fr hp1, hp' = hp1.set 32767 kb ∧ roundF s.hp l args = some fr ∧ rec ⟨fr.x, fr.mode, fr.todo, fr.tm, [], s.n, s.hp⟩ = .ok v n' hp1 ∧ s.n ≤ n' ∧ n' ≤ 32767
 | _ => False
structure StepOk (P : Program) (sm : Sm) (rec : S → Ans) (kb : AObj) (all : List Oper) (x : DO) (s : St) (v : Value) (s' : St) : Prop where
 tm : s'.tm = putx s.tm x.o.dst v
 snaps : s'.snaps = if heavy x.o.op = true then ⟨x.b, s'.n, s'.hp⟩ :: s.snaps else s.snaps
 how : (wantedA all s.tm s.hp x.o = some false ∧ v = undef ∧ s'.n = s.n ∧ s'.hp = s.hp ∧ s'.als = s.als) ∨
  (wantedA all s.tm s.hp x.o = some true ∧ heavy x.o.op = true ∧ HRes P sm rec kb x.o s v s'.n s'.hp ∧ s'.als = s.als) ∨
  (wantedA all s.tm s.hp x.o = some true ∧ heavy x.o.op = false ∧ (aopW x.o.op).f P s.tm s.n s.hp = .val v ∧ lightOk P x.o x.m s.tm s.n v none s.snaps s.als = true ∧ s'.n = s.n ∧ s'.hp = s.hp ∧ s'.als = s.als) ∨
  (wantedA all s.tm s.hp x.o = some true ∧ heavy x.o.op = false ∧ newOp x.o.op = true ∧ ∃ hp0 ob, (aopW x.o.op).f P s.tm s.n s.hp = .new v hp0 ob ∧ lightOk P x.o x.m s.tm s.n v (some ob) s.snaps ((x.b, s.n) :: s.als) = true ∧
   s.n < 32767 ∧ s'.n = s.n + 1 ∧ s'.hp = s.hp.set s.n ob ∧ s'.als = (x.b, s.n) :: s.als)
def Gone (P : Program) (sm : Sm) (rec : S → Ans) (s0 : S) (kb : AObj) (all : List Oper) (l : List DO) (s : St) (K : Tm → Nat → Hp → Ans) (a : Ans) : Prop :=
 (∃ (st : Nat → St) (vs : Nat → Value), st 0 = s ∧ (∀ (q : Nat) (y : DO), l[q]? = some y → StepOk P sm rec kb all y (st q) (vs q) (st (q + 1))) ∧ K (st l.length).tm (st l.length).n (st l.length).hp = a) ∨
  (∃ c, a = .need c s0) ∨ a = .out ∨ ∃ y s', a = .bad y s'
theorem gone_cons {P : Program} {sm : Sm} {rec : S → Ans} {s0 : S} {kb : AObj} {all : List Oper} {x : DO} {r : List DO} {s s' : St} {u : Value} (h : StepOk P sm rec kb all x s u s') {K : Tm → Nat → Hp → Ans} {a : Ans}
  (ih : Gone P sm rec s0 kb all r s' K a) : Gone P sm rec s0 kb all (x :: r) s K a := by
 rcases ih with ⟨st, vs, h0, h1, h2⟩ | ih
 ·refine .inl ⟨fun q => Nat.casesOn q s st, fun q => Nat.casesOn q u vs, rfl, fun q y hy => ?_, h2⟩
  cases q with
  | zero =>
    simp at hy; subst hy
    show StepOk P sm rec kb all x s u (st 0)
    rw [h0]; exact h
  | succ q => exact h1 q y (by simpa using hy)
 ·exact .inr ih
theorem drawRun_trace {P : Program} {sm : Sm} {rec : S → Ans} {s0 : S} {kb : AObj} {all : List Oper} {K : Tm → Nat → Hp → Ans} : ∀ (l : List DO) (s : St), Gone P sm rec s0 kb all l s K (drawRun P sm rec s0 kb all l s.tm s.n s.hp s.snaps s.als K)
 | [], s => .inl ⟨fun _ => s, fun _ => undef, rfl, fun q y hy => by simp at hy, rfl⟩
 | ⟨i, b, m, o⟩ :: r, s => by
   have ih := fun s' => drawRun_trace (P := P) (sm := sm) (rec := rec) (s0 := s0) (kb := kb) (all := all) (K := K) r s'
   unfold drawRun
   rw [zaa]
   split
   ·rename_i hh
    cases hw : wantedA all s.tm s.hp o with
    | none => exact .inr (.inl ⟨_, rfl⟩)
    | some bw =>
    cases bw with
    | true =>
      simp only
      have fin : ∀ (u : Value) (n' : Nat) (hp' : Hp), HRes P sm rec kb o s u n' hp' → Gone P sm rec s0 kb all (⟨i, b, m, o⟩ :: r) s K (drawRun P sm rec s0 kb all r (putx s.tm o.dst u) n' hp' (⟨b, n', hp'⟩ :: s.snaps) s.als K) :=
       fun u n' hp' hr => gone_cons (x := ⟨i, b, m, o⟩) (s' := ⟨putx s.tm o.dst u, n', hp', ⟨b, n', hp'⟩ :: s.snaps, s.als⟩) ⟨rfl, (if_pos hh).symm, .inr (.inl ⟨hw, hh, hr, rfl⟩)⟩ (ih _)
      split
      ·rename_i u hu
       exact fin u s.n s.hp (by unfold HRes; rw [hu]; exact ⟨rfl, rfl, rfl⟩)
      ·rename_i u hp' hu
       exact fin u s.n _ (by unfold HRes; rw [hu]; exact ⟨rfl, rfl, rfl⟩)
      ·rename_i u hp' ob hu
       rw [zaa]
       split
       ·rename_i hn
        exact fin u (s.n + 1) _ (by unfold HRes; rw [hu]; exact ⟨rfl, blt_lt hn, rfl, rfl⟩)
       ·exact .inr (.inr (.inl rfl))
      ·rename_i f args hu
       split
       ·exact .inr (.inl ⟨_, rfl⟩)
       ·rename_i u n' hp1 hsm
        rw [zaa]
        split
        ·rename_i hn
         obtain ⟨h1, h2⟩ := zac hn
         exact fin u n' _ (by unfold HRes; rw [hu]; exact ⟨hp1, rfl, zaw h1, zaw h2, .inl hsm⟩)
        ·exact .inr (.inr (.inl rfl))
       ·rename_i hsm
        split
        ·rename_i x mode todo tm' he
         cases hr : rec ⟨x, mode, todo, tm', [], s.n, s.hp⟩ with
         | ok u n' hp1 =>
           simp only [inner]
           rw [zaa]
           split
           ·rename_i hn
            obtain ⟨h1, h2⟩ := zac hn
            exact fin u n' _ (by unfold HRes; rw [hu]; exact ⟨hp1, rfl, zaw h1, zaw h2, .inr ⟨hsm, _, he, hr⟩⟩)
           ·exact .inr (.inr (.inl rfl))
         | need c s2 => exact .inr (.inl ⟨c, rfl⟩)
         | bad y s2 => exact .inr (.inr (.inr ⟨_, _, rfl⟩))
         | stop s2 => exact .inr (.inr (.inl rfl))
         | out => exact .inr (.inr (.inl rfl))
        ·exact .inr (.inr (.inl rfl))
      ·rename_i l args hu
       split
       ·rename_i x mode todo tm' he
        cases hr : rec ⟨x, mode, todo, tm', [], s.n, s.hp⟩ with
        | ok u n' hp1 =>
          simp only [inner]
          rw [zaa]
          split
          ·rename_i hn
           obtain ⟨h1, h2⟩ := zac hn
           exact fin u n' _ (by unfold HRes; rw [hu]; exact ⟨_, hp1, rfl, he, hr, zaw h1, zaw h2⟩)
          ·exact .inr (.inr (.inl rfl))
        | need c s2 => exact .inr (.inl ⟨c, rfl⟩)
        | bad y s2 => exact .inr (.inr (.inr ⟨_, _, rfl⟩))
        | stop s2 => exact .inr (.inr (.inl rfl))
        | out => exact .inr (.inr (.inl rfl))
       ·exact .inr (.inr (.inl rfl))
      ·exact .inr (.inl ⟨_, rfl⟩)
      ·exact .inr (.inr (.inr ⟨_, _, rfl⟩))
    | false =>
      exact gone_cons (x := ⟨i, b, m, o⟩) (s' := ⟨putx s.tm o.dst undef, s.n, s.hp, ⟨b, s.n, s.hp⟩ :: s.snaps, s.als⟩) ⟨rfl, (if_pos hh).symm, .inl ⟨hw, rfl, rfl, rfl, rfl⟩⟩ (ih _)
   ·rename_i hh
    have hh' : heavy o.op = false := by simpa using hh
    cases hw : wantedA all s.tm s.hp o with
    | none => exact .inr (.inl ⟨_, rfl⟩)
    | some bw =>
    cases bw with
    | true =>
      simp only
      split
      ·rename_i u hu
       rw [zaa]
       split
       ·rename_i hl
        exact gone_cons (x := ⟨i, b, m, o⟩) (s' := ⟨putx s.tm o.dst u, s.n, s.hp, s.snaps, s.als⟩) ⟨rfl, (if_neg hh).symm, .inr (.inr (.inl ⟨hw, hh', hu, hl, rfl, rfl, rfl⟩))⟩ (ih _)
       ·exact .inr (.inr (.inr ⟨_, _, rfl⟩))
      ·rename_i u hp' ob hu
       rw [zaa]
       split
       ·rename_i hn
        obtain ⟨hn1, hn2⟩ := zac hn
        rw [zaa]
        split
        ·rename_i hl
         exact gone_cons (x := ⟨i, b, m, o⟩) (s' := ⟨putx s.tm o.dst u, s.n + 1, s.hp.set s.n ob, s.snaps, (b, s.n) :: s.als⟩) ⟨rfl, (if_neg hh).symm, .inr (.inr (.inr ⟨hw, hh', hn2, _, ob, hu, hl, blt_lt hn1, rfl, rfl, rfl⟩))⟩ (ih _)
        ·exact .inr (.inr (.inr ⟨_, _, rfl⟩))
       ·exact .inr (.inr (.inl rfl))
      ·exact .inr (.inl ⟨_, rfl⟩)
      ·exact .inr (.inr (.inr ⟨_, _, rfl⟩))
    | false =>
      exact gone_cons (x := ⟨i, b, m, o⟩) (s' := ⟨putx s.tm o.dst undef, s.n, s.hp, s.snaps, s.als⟩) ⟨rfl, (if_neg hh).symm, .inl ⟨hw, rfl, rfl, rfl, rfl⟩⟩ (ih _)
theorem land_bit {m i : Nat} : (Nat.beq (Nat.land m (2 ^ i)) (2 ^ i) = true) ↔ m.testBit i = true := by
 constructor
 ·intro h
  have h : m &&& 2 ^ i = 2 ^ i := zad h
  have := congrArg (·.testBit i) h
  simp only [Nat.testBit_and, Nat.testBit_two_pow, decide_true, Bool.and_true] at this
  exact this
 ·intro h
  have key : m &&& 2 ^ i = 2 ^ i := ?_
  ·show Nat.beq (m &&& 2 ^ i) (2 ^ i) = true
   rw [key]; exact Nat.beq_refl _
  apply Nat.eq_of_testBit_eq
  intro k
  rw [Nat.testBit_and, Nat.testBit_two_pow]
  by_cases hk : i = k
  ·subst hk; simp [h]
  ·simp [hk]
section
variable {P : Program} {sm : Sm} {rec : S → Ans} {kb : AObj} {ops : Array Oper} {all l : List DO} (hpl : Plan ops all) (hor : Order ops all l) {st : Nat → St} {vs : Nat → Value} (hst : ∀ (q : Nat) (y : DO), l[q]? = some y → StepOk P sm rec kb ops.toList y (st q) (vs q) (st (q + 1)))
 {nt : Nat} (hok : opsOk nt ops.toList = true) (h512 : nt ≤ 512) (hn0 : (st 0).n ≤ 32767) (hs0 : (st 0).snaps = [⟨0, (st 0).n, (st 0).hp⟩]) (ha0 : (st 0).als = [])
include hpl hor in
theorem Order.at_ {q : Nat} {x : DO} (hx : l[q]? = some x) : ops[x.i]? = some x.o ∧ x.b = 2 ^ x.i ∧ all[x.i]? = some x := by
 obtain ⟨k, hk⟩ := List.mem_iff_getElem?.1 (hor.mem x (List.mem_of_getElem? hx))
 obtain ⟨h1, h2, h3⟩ := hpl.at_ k x hk
 rw [h1]; exact ⟨h2, h3, hk⟩
include hpl hor in
theorem Order.inj {q q' : Nat} {x y : DO} (hx : l[q]? = some x) (hy : l[q']? = some y) (h : x.i = y.i) : q = q' ∧ x = y := by
 have h1 := (hor.at_ hpl hx).2.2
 have h2 := (hor.at_ hpl hy).2.2
 rw [h, h2] at h1
 cases h1
 refine ⟨?_, rfl⟩
 rcases Nat.lt_trichotomy q q' with h3 | h3 | h3
 ·exact absurd ⟨q, h3, _, hx, rfl⟩ (hor.new q' _ hy)
 ·exact h3
 ·exact absurd ⟨q', h3, _, hy, rfl⟩ (hor.new q _ hx)
include hst in
theorem n_step {q : Nat} {x : DO} (hx : l[q]? = some x) : (st q).n ≤ (st (q + 1)).n := by
 have h := hst q x hx
 rcases h.how with ⟨_, _, h, _⟩ | ⟨_, _, h, _⟩ | ⟨_, _, _, _, h, _⟩ | ⟨_, _, _, _, _, _, _, _, h, _⟩
 ·omega
 ·unfold HRes at h
  split at h
  ·omega
  ·omega
  ·omega
  ·obtain ⟨_, _, h, _⟩ := h; exact h
  ·obtain ⟨_, _, _, _, _, h, _⟩ := h; exact h
  ·exact h.elim
 ·omega
 ·omega
include hst in
theorem n_mono {q q' : Nat} (h : q ≤ q') (hq : q' ≤ l.length) : (st q).n ≤ (st q').n := by
 induction q' with
 | zero => rw [Nat.le_zero.1 h]; exact Nat.le_refl _
 | succ k ih =>
   rcases Nat.lt_or_ge q (k + 1) with h1 | h1
   ·have hk : k < l.length := by omega
    exact Nat.le_trans (ih (by omega) (by omega)) (n_step hst (List.getElem?_eq_getElem hk))
   ·rw [Nat.le_antisymm h h1]; exact Nat.le_refl _
include hst hn0 in
theorem n_max {q : Nat} (hq : q ≤ l.length) : (st q).n ≤ 32767 := by
 induction q with
 | zero => exact hn0
 | succ k ih =>
   have hk : k < l.length := by omega
   have ih := ih (by omega)
   have h := hst k _ (List.getElem?_eq_getElem hk)
   rcases h.how with ⟨_, _, h, _⟩ | ⟨_, _, h, _⟩ | ⟨_, _, _, _, h, _⟩ | ⟨_, _, _, _, _, _, _, _, h, _⟩
   ·omega
   ·unfold HRes at h
    split at h
    ·omega
    ·omega
    ·omega
    ·obtain ⟨_, _, _, h, _⟩ := h; exact h
    ·obtain ⟨_, _, _, _, _, _, h⟩ := h; exact h
    ·exact h.elim
   ·omega
   ·omega
theorem kb_step {x : DO} {s s' : St} {v : Value} (h : StepOk P sm rec kb ops.toList x s v s') (hs : s.hp.get 32767 = kb) (hn : s.n ≤ 32767) : s'.hp.get 32767 = kb := by
 rcases h.how with ⟨_, _, _, h, _⟩ | ⟨_, _, h, _⟩ | ⟨_, _, _, _, _, h, _⟩ | ⟨_, _, _, _, _, _, _, h1, _, h, _⟩
 ·rw [h]; exact hs
 ·unfold HRes at h
  split at h
  ·rw [h.2.2]; exact hs
  ·rw [h.2.2]; exact hp_set_same _ _ (by omega) _
  ·rw [h.2.2.2]; exact hp_set_same _ _ (by omega) _
  ·obtain ⟨_, h, _⟩ := h; rw [h]; exact hp_set_same _ _ (by omega) _
  ·obtain ⟨_, _, h, _⟩ := h; rw [h]; exact hp_set_same _ _ (by omega) _
  ·exact h.elim
 ·rw [h]; exact hs
 ·rw [h, hp_set_ne _ _ _ (by omega) (by omega) (by omega)]; exact hs
include hst hn0 in
theorem kb_at (hk0 : (st 0).hp.get 32767 = kb) {q : Nat} (hq : q ≤ l.length) : (st q).hp.get 32767 = kb := by
 induction q with
 | zero => exact hk0
 | succ k ih =>
   have hk : k < l.length := by omega
   exact kb_step (hst k _ (List.getElem?_eq_getElem hk)) (ih (by omega)) (n_max hst hn0 (by omega))
def Phase (l : List DO) (Q : Nat) : Prop := Q = 0 ∨ ∃ (q : Nat) (x : DO), Q = q + 1 ∧ l[q]? = some x ∧ heavy x.o.op = true
include hpl hor hst hs0 in
theorem snap_spec (f : Hp → Bool) (mk np : Nat) : ∀ (q : Nat), q ≤ l.length → snapGo f mk (st q).snaps = some np → (∃ Q, Q ≤ q ∧ np = (st Q).n) ∧
  ∀ Q, Q ≤ q → Phase l Q → (∀ (q' : Nat) (x : DO), l[q']? = some x → q' < q → heavy x.o.op = true → mk.testBit x.i = true → q' < Q) → f (st Q).hp = true ∧ np ≤ (st Q).n
 | 0, _, h => by
   rw [hs0] at h
   unfold snapGo at h
   rw [zaa] at h
   split at h
   ·rename_i hf
    rw [zaa] at h
    split at h
    ·cases h
     refine ⟨⟨0, Nat.le_refl _, rfl⟩, fun Q hQ _ _ => ?_⟩
     rw [Nat.le_zero.1 hQ]; exact ⟨hf, Nat.le_refl _⟩
    ·simp [snapGo] at h
   ·cases h
 | q + 1, hq, h => by
   have hql : q < l.length := by omega
   have hx := List.getElem?_eq_getElem hql
   generalize l[q] = x at hx
   have hs := hst q x hx
   have ih := snap_spec f mk np q (by omega)
   rw [hs.snaps] at h
   split at h
   ·rename_i hh
    unfold snapGo at h
    rw [zaa] at h
    split at h
    ·rename_i hf
     rw [zaa, (hor.at_ hpl hx).2.1] at h
     split at h
     ·rename_i hb
      cases h
      refine ⟨⟨q + 1, Nat.le_refl _, rfl⟩, fun Q hQ _ hall => ?_⟩
      have := hall q x hx (by omega) hh (land_bit.1 hb)
      rw [show Q = q + 1 by omega]
      exact ⟨hf, Nat.le_refl _⟩
     ·rename_i hb
      obtain ⟨⟨Q0, hQ0, hnp⟩, h2⟩ := ih h
      refine ⟨⟨Q0, by omega, hnp⟩, fun Q hQ hph hall => ?_⟩
      by_cases hQq : Q = q + 1
      ·rw [hQq]
       exact ⟨hf, by rw [hnp]; exact n_mono hst (by omega) hq⟩
      ·exact h2 Q (by omega) hph fun q' y hy hy' => hall q' y hy (by omega)
    ·cases h
   ·rename_i hh
    obtain ⟨⟨Q0, hQ0, hnp⟩, h2⟩ := ih h
    refine ⟨⟨Q0, by omega, hnp⟩, fun Q hQ hph hall => ?_⟩
    by_cases hQq : Q = q + 1
    ·exfalso
     rcases hph with h0 | ⟨q2, y, h3, h4, h5⟩
     ·omega
     ·have : q2 = q := by omega
      subst this
      rw [hx] at h4; cases h4
      exact hh h5
    ·exact h2 Q (by omega) hph fun q' y hy hy' => hall q' y hy (by omega)
def NewAt (st : Nat → St) (l : List DO) (q : Nat) : Prop := ∃ x : DO, l[q]? = some x ∧ heavy x.o.op = false ∧ (st (q + 1)).n = (st q).n + 1
include hst in
theorem new_lt {q q' : Nat} (h : NewAt st l q) (hq : q < q') (hq' : q' ≤ l.length) : (st q).n < (st q').n := by
 obtain ⟨x, _, _, h3⟩ := h
 have := n_mono hst (q := q + 1) (q' := q') hq hq'
 omega
include hst in
theorem new_inj {q q' : Nat} (h : NewAt st l q) (h' : NewAt st l q') (he : (st q).n = (st q').n) : q = q' := by
 have l1 : q < l.length := by obtain ⟨x, hx, _⟩ := h; exact (List.getElem?_eq_some_iff.1 hx).1
 have l2 : q' < l.length := by obtain ⟨x, hx, _⟩ := h'; exact (List.getElem?_eq_some_iff.1 hx).1
 rcases Nat.lt_trichotomy q q' with h3 | h3 | h3
 ·have := new_lt hst h h3 (by omega); omega
 ·exact h3
 ·have := new_lt hst h' h3 (by omega); omega
include hpl hor hst ha0 in
theorem als_spec (mk j : Nat) : ∀ (q : Nat), q ≤ l.length → alsHas mk j (st q).als = true → ∃ (q' : Nat) (x : DO), q' < q ∧ l[q']? = some x ∧ NewAt st l q' ∧ (st q').n = j ∧ mk.testBit x.i = true
 | 0, _, h => by rw [ha0] at h; cases h
 | q + 1, hq, h => by
   have hql : q < l.length := by omega
   have hx := List.getElem?_eq_getElem hql
   generalize l[q] = x at hx
   have hs := hst q x hx
   have ih : alsHas mk j (st q).als = true → _ := als_spec mk j q (by omega)
   have go : alsHas mk j (st q).als = true → ∃ (q' : Nat) (x : DO), q' < q + 1 ∧ l[q']? = some x ∧ NewAt st l q' ∧ (st q').n = j ∧ mk.testBit x.i = true := by
    intro h
    obtain ⟨q', y, h1, h2⟩ := ih h
    exact ⟨q', y, by omega, h2⟩
   rcases hs.how with ⟨_, _, _, _, h5⟩ | ⟨_, _, _, h5⟩ | ⟨_, _, _, _, _, _, h5⟩ | ⟨_, hh, _, _, _, _, _, _, h3, _, h5⟩
   ·rw [h5] at h; exact go h
   ·rw [h5] at h; exact go h
   ·rw [h5] at h; exact go h
   ·rw [h5] at h
    unfold alsHas at h
    rw [zaa] at h
    split at h
    ·rename_i hj
     rw [(hor.at_ hpl hx).2.1] at h
     exact ⟨q, x, by omega, hx, ⟨x, hx, hh, h3⟩, zad hj, land_bit.1 h⟩
    ·exact go h
end
end Go.Gz
namespace Go.Gz
open Go Go.Gx Go.RowKit
theorem opdHas_mem {t : Nat} : ∀ {l : List Operand}, .tmp t ∈ l → opdHas t l = true
 | [], h => by simp at h
 | y :: l, h => by
   rcases List.mem_cons.1 h with rfl | h2
   ·unfold opdHas
    rw [zaa, if_pos (Nat.beq_refl _)]
   ·cases y with
    | tmp u =>
      unfold opdHas
      rw [zaa]
      split
      ·rfl
      ·exact opdHas_mem h2
    | _ => show opdHas t l = true; exact opdHas_mem h2
theorem putx_ne {tm : Tm} {o : Option Tmp} {v : Value} {d : Nat} (hd : d < 512) (ho : ∀ k, o = some k → k < 512) (h : o ≠ some d) : slot (putx tm o v) d = slot tm d := by
 cases o with
 | none => rfl
 | some k => exact slot_set_ne _ _ _ (ho k rfl) hd (by rintro rfl; exact h rfl) _
section
variable {P : Program} {sm : Sm} {rec : S → Ans} {kb : AObj} {ops : Array Oper} {all l : List DO} (hpl : Plan ops all) (hor : Order ops all l) {st : Nat → St} {vs : Nat → Value} (hst : ∀ (q : Nat) (y : DO), l[q]? = some y → StepOk P sm rec kb ops.toList y (st q) (vs q) (st (q + 1)))
 {nt : Nat} (hok : opsOk nt ops.toList = true) (h512 : nt ≤ 512) (hn0 : (st 0).n ≤ 32767) (hs0 : (st 0).snaps = [⟨0, (st 0).n, (st 0).hp⟩]) (ha0 : (st 0).als = []) (hk0 : (st 0).hp.get 32767 = kb)
include hor in
theorem pair_dst {x a : DO} (hx : x ∈ l) (ha : a ∈ l) (hi : x.i ≠ a.i) {d : Nat} (hd : a.o.dst = some d) : x.o.dst ≠ some d := by
 intro h
 have hp := hor.pairs x hx a ha
 unfold pairOk at hp
 rw [hd] at hp
 simp only [h, zaa] at hp
 have h1 : dstIs d (some d) = true := Nat.beq_refl _
 rw [h1] at hp
 split at hp
 ·rename_i hb; exact hi (zad hb)
 ·split at hp
  ·split at hp <;> cases hp
  ·cases hp
include hpl hor in
theorem pair_look {q q' : Nat} {x a : DO} (hx : l[q]? = some x) (ha : l[q']? = some a) {d : Nat} (hd : a.o.dst = some d) (hl : looksT ops.toList x.o d = true) : x.i ≠ a.i ∧ x.m.testBit a.i = true := by
 have hp := hor.pairs x (List.mem_of_getElem? hx) a (List.mem_of_getElem? ha)
 unfold pairOk at hp
 rw [hd] at hp
 simp only [zaa, hl] at hp
 split at hp
 ·cases hp
 ·rename_i hb
  refine ⟨fun h => hb (by rw [h]; exact Nat.beq_refl _), ?_⟩
  simp only [if_true] at hp
  split at hp
  ·rename_i h2
   rw [(hor.at_ hpl ha).2.1] at h2
   exact land_bit.1 h2
  ·cases hp
include hpl hor hok in
theorem dst_lt {q : Nat} {x : DO} (hx : l[q]? = some x) {d : Nat} (hd : x.o.dst = some d) : d < nt := by
 have := (hor.at_ hpl hx).1
 have hm : x.o ∈ ops.toList := List.mem_of_getElem? (by simpa using this : ops.toList[x.i]? = some x.o)
 have := (opsOk_mem hok x.o hm).1
 rw [hd] at this
 exact blt_lt this
include hpl hor hok in
theorem opds_ok {q : Nat} {x : DO} (hx : l[q]? = some x) : opdsOk nt x.o.op.operands.toList = true := by
 have := (hor.at_ hpl hx).1
 have hm : x.o ∈ ops.toList := List.mem_of_getElem? (by simpa using this : ops.toList[x.i]? = some x.o)
 exact (opsOk_mem hok x.o hm).2
include hpl hor hst hok h512 in
theorem slot_done {q : Nat} {x : DO} {d : Nat} (hx : l[q]? = some x) (hd : x.o.dst = some d) : ∀ (q' : Nat), q < q' → q' ≤ l.length → slot (st q').tm d = vs q
 | 0, h, _ => by omega
 | k + 1, h, hk => by
   have hdn := dst_lt hpl hor hok hx hd
   by_cases hkq : k = q
   ·subst hkq
    rw [(hst k x hx).tm, hd]
    exact slot_set_same _ _ (by omega) _
   ·have hkl : k < l.length := by omega
    have hy := List.getElem?_eq_getElem hkl
    generalize l[k] = y at hy
    rw [(hst k y hy).tm, putx_ne (by omega) (fun j hj => Nat.lt_of_lt_of_le (dst_lt hpl hor hok hy hj) h512)]
    ·exact slot_done hx hd k (by omega) (by omega)
    ·exact pair_dst hor (List.mem_of_getElem? hy) (List.mem_of_getElem? hx) (fun h => hkq (hor.inj hpl hy hx h).1) hd
include hpl hor hst hok h512 in
theorem slot_rest {d : Nat} (hd : d < nt) (hno : ∀ x ∈ l, x.o.dst ≠ some d) : ∀ (q : Nat), q ≤ l.length → slot (st q).tm d = slot (st 0).tm d
 | 0, _ => rfl
 | k + 1, hk => by
   have hkl : k < l.length := by omega
   have hy := List.getElem?_eq_getElem hkl
   generalize l[k] = y at hy
   rw [(hst k y hy).tm, putx_ne (by omega) (fun j hj => Nat.lt_of_lt_of_le (dst_lt hpl hor hok hy hj) h512)]
   ·exact slot_rest hd hno k (by omega)
   ·exact hno y (List.mem_of_getElem? hy)
structure Inv (P : Program) (B : Base) (e0 : Env) (nt : Nat) (all l : List DO) (st : Nat → St) (vs : Nat → Value) (Q : Nat) (L : Nat → Prop) (e : Env) (t : Array Value) (w : World) : Prop where
 hQ : Q ≤ l.length
 phase : Phase l Q
 lo : ∀ (q : Nat) (x : DO), l[q]? = some x → q < Q → L x.i
 hi : ∀ (q : Nat) (x : DO), l[q]? = some x → Q ≤ q → L x.i → heavy x.o.op = false
 down : ∀ (k : Nat) (x : DO), all[k]? = some x → L k → ∀ j, x.m.testBit j = true → L j
 wr : WR P B e (st Q).n (st Q).hp w
 size : t.size = nt
 slots : ∀ (q : Nat) (x : DO) (d : Nat), l[q]? = some x → L x.i → x.o.dst = some d → RV e (st (q + 1)).n (vs q) (t.getD d undef)
 rest : ∀ d, d < nt → (∀ x ∈ l, x.o.dst ≠ some d) → RV e (st 0).n (slot (st 0).tm d) (t.getD d undef)
 blk : ∀ (q : Nat) (x : DO), l[q]? = some x → L x.i → Q ≤ q → NewAt st l q → ∃ ob o', (st (q + 1)).hp = (st q).hp.set (st q).n ob ∧ w.heap[e.β (st q).n]? = some o' ∧ RO P e (st (q + 1)).n (st q).n ob o' ∧ B.w.heap.size ≤ e.β (st q).n ∧ (∀ j, j < (st Q).n → e.β j ≠ e.β (st q).n) ∧ e.m.K (e.β (st q).n) = none
 apart : ∀ (q q' : Nat) (x x' : DO), l[q]? = some x → L x.i → Q ≤ q → NewAt st l q → l[q']? = some x' → L x'.i → Q ≤ q' → NewAt st l q' → q ≠ q' → e.β (st q).n ≠ e.β (st q').n
 ext : Ext e0 (st 0).n e (st 0).n
variable {B : Base} {e0 e : Env} {Q : Nat} {L : Nat → Prop} {t : Array Value} {w : World}
def Known (l : List DO) (st : Nat → St) (Q : Nat) (L : Nat → Prop) (j : Nat) : Prop := j < (st Q).n ∨ ∃ (q : Nat) (y : DO), l[q]? = some y ∧ L y.i ∧ NewAt st l q ∧ (st q).n = j
include hpl hor hst hs0 ha0 in
theorem num_known (hI : Inv P B e0 nt all l st vs Q L e t w) {q : Nat} {x : DO} (hx : l[q]? = some x) (hL : L x.i) (hq : Q ≤ q) {f : Hp → Bool} {np : Nat} (hs : snapGo f x.m (st q).snaps = some np) :
  np ≤ (st Q).n ∧ (∀ j, numOk np x.m (st q).als j = true → Known l st Q L j) ∧ (∀ j, numOk np x.m (st (q + 1)).als j = true → Known l st Q L j) := by
 have hql : q < l.length := (List.getElem?_eq_some_iff.1 hx).1
 have hall := (hor.at_ hpl hx).2.2
 have hnp : np ≤ (st Q).n := by
  refine ((snap_spec hpl hor hst hs0 f x.m np q (by omega) hs).2 Q hq hI.phase fun q' y hy hy' hh hb => ?_).2
  have hLy := hI.down _ x hall hL _ hb
  rcases Nat.lt_or_ge q' Q with h | h
  ·exact h
  ·have := hI.hi q' y hy h hLy
   rw [hh] at this; cases this
 have go : ∀ k, k ≤ l.length → ∀ j, numOk np x.m (st k).als j = true → Known l st Q L j := by
  intro k hk j hj
  unfold numOk at hj
  rw [zaa] at hj
  split at hj
  ·rename_i hlt
   exact .inl (Nat.lt_of_lt_of_le (blt_lt hlt) hnp)
  ·obtain ⟨q', y, _, hy, hnew, hn, hb⟩ := als_spec hpl hor hst ha0 x.m j k hk hj
   exact .inr ⟨q', y, hy, hI.down _ x hall hL _ hb, hnew, hn⟩
 exact ⟨hnp, go q (by omega), go (q + 1) (by omega)⟩
include hpl hor hst hs0 ha0 in
theorem val_re (hI : Inv P B e0 nt all l st vs Q L e t w) {e' : Env} (hem : e'.m = e.m) (he : ∀ j, Known l st Q L j → e'.β j = e.β j ∧ e'.tot j = e.tot j) {q : Nat} {x : DO} (hx : l[q]? = some x) (hL : L x.i) {v' : Value} (h : RV e (st (q + 1)).n (vs q) v') :
  RV e' (st (q + 1)).n (vs q) v' := by
 have hql : q < l.length := (List.getElem?_eq_some_iff.1 hx).1
 rcases Nat.lt_or_ge q Q with hq | hq
 ·have hm : (st (q + 1)).n ≤ (st Q).n := n_mono hst (by omega) hI.hQ
  exact h.mono ⟨Nat.le_refl _, fun j hj => (he j (.inl (by omega))).1, fun j hj => (he j (.inl (by omega))).2, hem⟩
 ·have hlight := hI.hi q x hx hq hL
  have nk : ∀ {f : Hp → Bool} {np : Nat}, snapGo f x.m (st q).snaps = some np → _ := fun hs => num_known hpl hor hst hs0 ha0 hI hx hL hq hs
  have hs := hst q x hx
  rcases hs.how with ⟨_, hv, _⟩ | ⟨_, hh, _⟩ | ⟨_, _, _, hl, h3, _, h5⟩ | ⟨_, _, _, hp0, ob, _, hl, _, h3, _, h5⟩
  ·rw [hv] at h ⊢
   rw [h.plainI rfl]; exact .plain _ rfl
  ·rw [hlight] at hh; cases hh
  ·have hnum : ∃ np, np ≤ (st Q).n ∧ (∀ j, numOk np x.m (st q).als j = true → Known l st Q L j) ∧ nums (numOk np x.m (st q).als) 50 (vs q) = true := by
     unfold lightOk at hl
     split at hl
     ·split at hl
      ·rename_i np hs
       obtain ⟨h1, h2, _⟩ := nk hs
       rw [zaa] at hl
       split at hl
       ·exact ⟨np, h1, h2, hl⟩
       ·cases hl
      ·cases hl
     ·split at hl
      ·rename_i np hs
       obtain ⟨h1, h2, _⟩ := nk hs
       rw [zaa] at hl
       split at hl
       ·rename_i h6; exact ⟨np, h1, h2, h6⟩
       ·cases hl
      ·cases hl
   obtain ⟨np, _, h2, h6⟩ := hnum
   exact nums_re hem (fun j hj hjn => ⟨(he j (h2 j hj)).1, (he j (h2 j hj)).2, hjn⟩) 50 _ _ h6 h
  ·have hnum : ∃ np, np ≤ (st Q).n ∧ (∀ j, numOk np x.m (st (q + 1)).als j = true → Known l st Q L j) ∧ nums (numOk np x.m (st (q + 1)).als) 50 (vs q) = true := by
     unfold lightOk at hl
     rw [← h5] at hl
     split at hl
     ·split at hl
      ·rename_i np hs
       obtain ⟨h1, _, h2⟩ := nk hs
       rw [zaa] at hl
       split at hl
       ·exact ⟨np, h1, h2, hl⟩
       ·cases hl
      ·cases hl
     ·split at hl
      ·rename_i np hs
       obtain ⟨h1, _, h2⟩ := nk hs
       rw [zaa] at hl
       split at hl
       ·rename_i h6; exact ⟨np, h1, h2, h6⟩
       ·cases hl
      ·cases hl
   obtain ⟨np, _, h2, h6⟩ := hnum
   exact nums_re hem (fun j hj hjn => ⟨(he j (h2 j hj)).1, (he j (h2 j hj)).2, hjn⟩) 50 _ _ h6 h
include hpl hor hst hs0 ha0 in
theorem obj_re (hI : Inv P B e0 nt all l st vs Q L e t w) {e' : Env} (hem : e'.m = e.m) (he : ∀ j, Known l st Q L j → e'.β j = e.β j ∧ e'.tot j = e.tot j) {q : Nat} {x : DO} (hx : l[q]? = some x) (hL : L x.i) (hq : Q ≤ q) (hnew : NewAt st l q) {ob : AObj} {o' : Obj}
  (hhp : (st (q + 1)).hp = (st q).hp.set (st q).n ob) (h : RO P e (st (q + 1)).n (st q).n ob o') : RO P e' (st (q + 1)).n (st q).n ob o' := by
 have hql : q < l.length := (List.getElem?_eq_some_iff.1 hx).1
 have hlight := hI.hi q x hx hq hL
 have nk : ∀ {f : Hp → Bool} {np : Nat}, snapGo f x.m (st q).snaps = some np → _ := fun hs => num_known hpl hor hst hs0 ha0 hI hx hL hq hs
 have hs := hst q x hx
 obtain ⟨_, hx', _, hn1⟩ := hnew
 rcases hs.how with ⟨_, _, h3, _⟩ | ⟨_, hh, _⟩ | ⟨_, _, _, _, h3, _⟩ | ⟨_, _, hno, hp0, ob2, _, hl, hlt, h3, h4, h5⟩
 ·omega
 ·rw [hlight] at hh; cases hh
 ·omega
 ·have hob : ob = ob2 := by
    have := congrArg (·.get (st q).n) (hhp.symm.trans h4)
    simp only [hp_set_same _ _ (Nat.lt_succ_of_lt hlt)] at this
    exact this
  subst hob
  have hrd : readsOp x.o.op = false := by
   revert hno; cases x.o.op <;> intro hno <;> first | rfl | cases hno
  unfold lightOk at hl
  rw [← h5, hrd] at hl
  simp only at hl
  split at hl
  ·rename_i np hs
   obtain ⟨_, _, h2⟩ := nk hs
   rw [zaa] at hl
   split at hl
   ·cases ob with
    | cells l1 ty g =>
      simp only [zaa] at hl
      cases g with
      | true => cases hl
      | false =>
        cases h with
        | cells _ l' _ hr =>
        exact .cells _ _ _ (numsL_re (nums_re hem (fun j hj hjn => ⟨(he j (h2 j hj)).1, (he j (h2 j hj)).2, hjn⟩) 50) hl hr)
    | map es c =>
      obtain ⟨h6, _⟩ := zac hl
      cases h with
      | map _ l' _ hr =>
      cases es with
      | nil => cases hr; exact .map _ _ _ .nil
      | cons => cases h6
    | _ => cases hl
   ·cases hl
  ·cases hl
include hpl hor hst hok h512 in
theorem look (hI : Inv P B e0 nt all l st vs Q L e t w) {q : Nat} {x : DO} (hx : l[q]? = some x) (hm : ∀ j, x.m.testBit j = true → j = x.i ∨ L j) {d : Nat} (hd : d < nt) (hl : looksT ops.toList x.o d = true) :
  RV e (st q).n (slot (st q).tm d) (t.getD d undef) := by
 have hql : q < l.length := (List.getElem?_eq_some_iff.1 hx).1
 by_cases h : ∃ a ∈ l, a.o.dst = some d
 ·obtain ⟨a, ha, had⟩ := h
  obtain ⟨q', ha⟩ := List.mem_iff_getElem?.1 ha
  obtain ⟨h1, h2⟩ := pair_look hpl hor hx ha had hl
  have hLa : L a.i := by
   rcases hm _ h2 with h | h
   ·exact absurd h.symm h1
   ·exact h
  have hq' : q' < q := by
   rcases hor.any q x hx _ h2 with h | ⟨q2, hq2, y, hy, hyi⟩
   ·exact absurd h.symm h1
   ·rw [(hor.inj hpl ha hy hyi.symm).1]; exact hq2
  rw [slot_done hpl hor hst hok h512 ha had q hq' (by omega)]
  exact (hI.slots q' a d ha hLa had).mono ⟨n_mono hst hq' (by omega), fun _ _ => rfl, fun _ _ => rfl, rfl⟩
 ·have h : ∀ x ∈ l, x.o.dst ≠ some d := fun a ha had => h ⟨a, ha, had⟩
  rw [slot_rest hpl hor hst hok h512 hd h q (by omega)]
  exact (hI.rest d hd h).mono ⟨n_mono hst (Nat.zero_le _) (by omega), fun _ _ => rfl, fun _ _ => rfl, rfl⟩
include hpl hor hst hok h512 in
theorem look_opds (hI : Inv P B e0 nt all l st vs Q L e t w) {q : Nat} {x : DO} (hx : l[q]? = some x) (hm : ∀ j, x.m.testBit j = true → j = x.i ∨ L j) : ∀ y ∈ x.o.op.operands.toList, RV e (st q).n (ev (st q).tm y) (evx t.toList y) := by
 intro y hy
 have hyo := opdsOk_mem (opds_ok hpl hor hok hx) y hy
 have e1 : evx t.toList = (⟨t, []⟩ : Act).eval := by
  have := eval_evx t.toList
  simpa using this.symm
 rw [e1]
 cases y with
 | tmp u =>
   have hu : u < nt := blt_lt hyo
   have := look hpl hor hst hok h512 hI hx hm hu (by
    unfold looksT
    rw [zaa, if_pos (opdHas_mem hy)])
   simpa [ev, Act.eval] using this
 | const v => simpa [ev, Act.eval] using RV.plain v hyo
 | global g => simp [opdOk] at hyo
 | func f => simpa [ev, Act.eval] using RV.func f #[] #[] #[] #[] .nil .nil
include hpl hor hst hok h512 in
theorem look_wanted (hI : Inv P B e0 nt all l st vs Q L e t w) {q : Nat} {x : DO} (hx : l[q]? = some x) (hm : ∀ j, x.m.testBit j = true → j = x.i ∨ L j) (hfk : ∀ c b, decH (st q).hp c = some b → den e.m c = some (.bool b)) {b : Bool} (hwa : wantedA ops.toList (st q).tm (st q).hp x.o = some b) : Region.wanted x.o (yielded ops t) = b := by
 have hlk := fun d hd hl => look hpl hor hst hok h512 hI hx hm (d := d) hd hl
 have hsz := hI.size
 unfold Region.wanted
 unfold wantedA at hwa
 cases hg : x.o.guard with
 | none => rw [hg] at hwa; cases hwa; rfl
 | some jw =>
   obtain ⟨j, want⟩ := jw
   rw [hg] at hwa
   simp only [yielded]
   have e1 : ops.toList[j]? = ops[j]? := by simp
   simp only [e1] at hwa
   cases hj : ops[j]? with
   | none => rw [hj] at hwa; cases hwa; rfl
   | some y =>
     rw [hj] at hwa
     simp only [Option.bind_some] at hwa ⊢
     cases hd : y.dst with
     | none => rw [hd] at hwa; cases hwa; rfl
     | some d =>
       rw [hd] at hwa
       simp only at hwa
       have hmy : y ∈ ops.toList := List.mem_of_getElem? (e1.trans hj)
       have := (opsOk_mem hok y hmy).1
       rw [hd] at this
       have hdn := blt_lt this
       have hlt : d < t.size := by rw [hsz]; exact hdn
       have hr := hlk d hdn (by
        unfold looksT
        rw [zaa]
        split
        ·rfl
        ·rw [hg]
         unfold guardHas
         simp only [e1, hj, hd]
         exact Nat.beq_refl _)
       simp only [Option.bind_some]
       rw [Array.getElem?_eq_getElem hlt]
       have e2 : t.getD d undef = t[d] := by simp [Array.getD, hlt]
       rw [e2] at hr
       have := wanted_slot rfl hfk hr hwa
       revert this
       clear hr e2
       generalize t[d] = u
       intro this
       cases u <;> exact this
end
end Go.Gz
namespace Go.Gz
open Go Go.Gx Go.RowKit
theorem Env.add_self (e : Env) (n : Nat) : e.add n (e.β n) (e.tot n) = e := by
 obtain ⟨b, t, m⟩ := e
 unfold Env.add
 congr 1
 ·funext j; by_cases h : j = n <;> simp [h]
 ·funext j; by_cases h : j = n <;> simp [h]
theorem WR.push {P : Program} {B : Base} {e : Env} {n : Nat} {hp : Hp} {w : World} (h : WR P B e n hp w) (o : Obj) : WR P B e n hp { w with heap := w.heap.push o } := by
 have hg : ∀ {r : Nat} {q : Obj}, w.heap[r]? = some q → (w.heap.push o)[r]? = some q := by
  intro r q hq
  have hr := (Array.getElem?_eq_some_iff.1 hq).1
  rw [Array.getElem?_push_lt hr]; rw [← hq, Array.getElem?_eq_getElem hr]
 refine ⟨h.os, h.tape, h.output, ?_, h.n0, h.nmax, h.agree, h.fresh, ?_, ?_, h.inj, ?_, h.fk, fun r o hr => hg (h.kp r o hr), h.kn⟩
 ·have := h.size
  show _ ≤ (w.heap.push o).size
  simp; omega
 ·intro r hr hno
  have hs := h.size
  have hr2 : r < w.heap.size := by omega
  show (w.heap.push o)[r]? = _
  rw [Array.getElem?_push_lt hr2, ← h.old r hr hno, Array.getElem?_eq_getElem hr2]
 ·intro j hj hl
  obtain ⟨q, h1, h2⟩ := h.obj j hj hl
  exact ⟨q, hg h1, h2⟩
 ·intro hl j hj
  have := h.lt' hl j hj
  show _ < (w.heap.push o).size
  simp; omega
section
variable {P : Program} {sm : Sm} {rec : S → Ans} {kb : AObj} {ops : Array Oper} {all l : List DO} (hpl : Plan ops all) (hor : Order ops all l) {st : Nat → St} {vs : Nat → Value} (hst : ∀ (q : Nat) (y : DO), l[q]? = some y → StepOk P sm rec kb ops.toList y (st q) (vs q) (st (q + 1)))
 {nt : Nat} (hok : opsOk nt ops.toList = true) (h512 : nt ≤ 512) (hn0 : (st 0).n ≤ 32767) (hs0 : (st 0).snaps = [⟨0, (st 0).n, (st 0).hp⟩]) (ha0 : (st 0).als = []) (hk0 : (st 0).hp.get 32767 = kb)
 {B : Base} {e0 e : Env} {Q : Nat} {L : Nat → Prop} {t : Array Value} {w : World}
include hst in
theorem merge (hI : Inv P B e0 nt all l st vs Q L e t w) : ∀ (q : Nat), Q ≤ q → q ≤ l.length → (∀ (q' : Nat) (x : DO), l[q']? = some x → q' < q → L x.i) →
  WR P B e (st q).n (st q).hp w ∧ ∀ (q' : Nat) (x : DO), l[q']? = some x → L x.i → q ≤ q' → NewAt st l q' → ∀ j, j < (st q).n → e.β j ≠ e.β (st q').n := by
 intro q
 induction q with
 | zero =>
   intro h1 _ _
   have : Q = 0 := by omega
   subst this
   exact ⟨hI.wr, fun q' x hx hL hq hn j hj => (hI.blk q' x hx hL hq hn).choose_spec.choose_spec.2.2.2.2.1 j hj⟩
 | succ k ih =>
   intro h1 h2 h3
   by_cases hQ : Q = k + 1
   ·subst hQ
    exact ⟨hI.wr, fun q' x hx hL hq hn j hj => (hI.blk q' x hx hL hq hn).choose_spec.choose_spec.2.2.2.2.1 j hj⟩
   ·obtain ⟨ih1, ih2⟩ := ih (by omega) (by omega) fun q' x hx hq => h3 q' x hx (by omega)
    have hkl : k < l.length := by omega
    have hx := List.getElem?_eq_getElem hkl
    generalize l[k] = x at hx
    have hL := h3 k x hx (by omega)
    have hlight := hI.hi k x hx (by omega) hL
    have hs := hst k x hx
    have same : (st (k + 1)).n = (st k).n → (st (k + 1)).hp = (st k).hp → WR P B e (st (k + 1)).n (st (k + 1)).hp w ∧ ∀ (q' : Nat) (x : DO), l[q']? = some x → L x.i → k + 1 ≤ q' → NewAt st l q' → ∀ j, j < (st (k + 1)).n → e.β j ≠ e.β (st q').n := by
     intro g1 g2
     rw [g1, g2]
     exact ⟨ih1, fun q' y hy hLy hq hn j hj => ih2 q' y hy hLy (by omega) hn j hj⟩
    rcases hs.how with ⟨_, _, g1, g2, _⟩ | ⟨_, hh, _⟩ | ⟨_, _, _, _, g1, g2, _⟩ | ⟨_, _, _, hp0, ob, _, _, g0, g1, g2, _⟩
    ·exact same g1 g2
    ·rw [hlight] at hh; cases hh
    ·exact same g1 g2
    ·have hnew : NewAt st l k := ⟨x, hx, hlight, g1⟩
     obtain ⟨ob2, o', b1, b2, b3, b4, _, b6⟩ := hI.blk k x hx hL (by omega) hnew
     have hob : ob = ob2 := by
      have := congrArg (·.get (st k).n) (g2.symm.trans b1)
      simp only [hp_set_same _ _ (Nat.lt_succ_of_lt g0)] at this
      exact this
     subst hob
     constructor
     ·have := ih1.add (o := ob) (o' := o') (r := e.β (st k).n) (t := e.tot (st k).n) (w2 := w) g0 rfl rfl rfl (Nat.le_refl _) b2 (fun _ _ _ => rfl) (fun j hj _ => ih2 k x hx hL (Nat.le_refl _) hnew j hj) (.inl b4) (fun _ _ _ => rfl) b6 ih1.kp (by rw [Env.add_self, ← g1]; exact b3)
      rw [Env.add_self] at this
      rw [g1, g2]; exact this
     ·intro q' y hy hLy hq hn j hj
      rcases Nat.lt_or_ge j (st k).n with hj2 | hj2
      ·exact ih2 q' y hy hLy (by omega) hn j hj2
      ·have : j = (st k).n := by omega
       rw [this]
       exact hI.apart k q' x y hx hL (by omega) hnew hy hLy (by omega) hn (by omega)
variable {fn : FuncId} {k : List Item} {ds : List Deferred} {kd : CallKind} {r : Option Nat} {cs : List Frame} {rest : List Nat}
theorem putT_ne {t : Array Value} {o : Option Tmp} {v : Value} {d : Nat} (h : o ≠ some d) : (putT t o v).getD d undef = t.getD d undef := by
 cases o with
 | none => rfl
 | some j =>
   have : j ≠ d := by rintro rfl; exact h rfl
   simp [putT, Array.getElem?_setIfInBounds_ne this]
theorem putT_same {t : Array Value} {v : Value} {d : Nat} (h : d < t.size) : (putT t (some d) v).getD d undef = v := by
 simp [putT, h]
theorem putT_size {t : Array Value} {o : Option Tmp} {v : Value} : (putT t o v).size = t.size := by
 cases o <;> simp [putT]
include hpl hor hok in
theorem slots_put (hI : Inv P B e0 nt all l st vs Q L e t w) {q : Nat} {x : DO} (hx : l[q]? = some x) (hLn : ¬ L x.i) {e' : Env} {v' : Value} (hv : RV e' (st (q + 1)).n (vs q) v')
  (hre : ∀ (q' : Nat) (y : DO) (u : Value), l[q']? = some y → L y.i → RV e (st (q' + 1)).n (vs q') u → RV e' (st (q' + 1)).n (vs q') u) :
  ∀ (q' : Nat) (y : DO) (d : Nat), l[q']? = some y → (L y.i ∨ y.i = x.i) → y.o.dst = some d → RV e' (st (q' + 1)).n (vs q') ((putT t x.o.dst v').getD d undef) := by
 intro q' y d hy hL hd
 rcases hL with hL | hL
 ·have hne : y.i ≠ x.i := fun h => hLn (h ▸ hL)
  rw [putT_ne]
  ·exact hre q' y _ hy hL (hI.slots q' y d hy hL hd)
  ·exact pair_dst hor (List.mem_of_getElem? hx) (List.mem_of_getElem? hy) (Ne.symm hne) hd
 ·obtain ⟨h1, h2⟩ := hor.inj hpl hy hx hL
  subst h1 h2
  rw [hd, putT_same (by rw [hI.size]; exact dst_lt hpl hor hok hx hd)]
  exact hv
theorem rest_put (hI : Inv P B e0 nt all l st vs Q L e t w) {q : Nat} {x : DO} (hx : l[q]? = some x) {e' : Env} {v' : Value} (hem : e'.m = e.m) (hex : ∀ j, j < (st 0).n → e'.β j = e.β j ∧ e'.tot j = e.tot j) :
  ∀ d, d < nt → (∀ x ∈ l, x.o.dst ≠ some d) → RV e' (st 0).n (slot (st 0).tm d) ((putT t x.o.dst v').getD d undef) := by
 intro d hd hno
 rw [putT_ne (hno x (List.mem_of_getElem? hx))]
 exact (hI.rest d hd hno).mono ⟨Nat.le_refl _, fun j hj => (hex j hj).1, fun j hj => (hex j hj).2, hem⟩
include hpl hor in
theorem down_put (hI : Inv P B e0 nt all l st vs Q L e t w) {q : Nat} {x : DO} (hx : l[q]? = some x) (hm : ∀ j, x.m.testBit j = true → j = x.i ∨ L j) :
  ∀ (k : Nat) (y : DO), all[k]? = some y → (L k ∨ k = x.i) → ∀ j, y.m.testBit j = true → (L j ∨ j = x.i) := by
 intro k y hy hk j hj
 rcases hk with hk | rfl
 ·exact .inl (hI.down k y hy hk j hj)
 ·have := (hor.at_ hpl hx).2.2
  rw [hy] at this; cases this
  exact (hm j hj).symm
variable (hP : Small P)
include hpl hor hst hok h512 hn0 hs0 ha0 hk0 hP
theorem light_step (hl : B.lt = true) (hI : Inv P B e0 nt all l st vs Q L e t w) {q : Nat} {x : DO} (hx : l[q]? = some x) (hLn : ¬ L x.i) (hm : ∀ j, x.m.testBit j = true → j = x.i ∨ L j) (hh : heavy x.o.op = false) :
  ∃ e' w' t', step P (lone ⟨fn, t, .inRegion ops (x.i :: rest) :: k, ds, .run, kd, r⟩ cs w) = .next (lone ⟨fn, t', .inRegion ops rest :: k, ds, .run, kd, r⟩ cs w') ∧
    Inv P B e0 nt all l st vs Q (fun j => L j ∨ j = x.i) e' t' w' := by
 have hat := hor.at_ hpl hx
 have hql : q < l.length := (List.getElem?_eq_some_iff.1 hx).1
 have hQq : Q ≤ q := by
  rcases Nat.lt_or_ge q Q with h | h
  ·exact absurd (hI.lo q x hx h) hLn
  ·exact h
 have hfk : ∀ c b, decH (st q).hp c = some b → den e.m c = some (.bool b) := fun c b hc => hI.wr.fk c b (by rwa [dec_kb ((kb_at hst hn0 hk0 (q := q) (by omega)).trans (kb_at hst hn0 hk0 (q := Q) (by omega)).symm)] at hc)
 have hopd := look_opds hpl hor hst hok h512 hI hx hm
 have e1 : evx t.toList = (⟨t, []⟩ : Act).eval := by
  have := eval_evx t.toList
  simpa using this.symm
 have hs := hst q x hx
 have hnd : r = none ∨ ∀ c, x.o.op ≠ .defer c := .inr fun c hc => by rw [hc] at hh; cases hh
 -- nothing new
 have still : ∀ v', RV e (st (q + 1)).n (vs q) v' → (st (q + 1)).n = (st q).n →
   Inv P B e0 nt all l st vs Q (fun j => L j ∨ j = x.i) e (putT t x.o.dst v') w := by
  intro v' hv hn
  have notnew : ¬ NewAt st l q := fun ⟨_, _, _, h⟩ => by omega
  have back : ∀ (q' : Nat) (y : DO), l[q']? = some y → (L y.i ∨ y.i = x.i) → NewAt st l q' → L y.i := by
   intro q' y hy hL hnw
   rcases hL with hL | hL
   ·exact hL
   ·rw [(hor.inj hpl hy hx hL).1] at hnw; exact absurd hnw notnew
  refine ⟨hI.hQ, hI.phase, fun q' y hy hq => .inl (hI.lo q' y hy hq), ?_, down_put hpl hor hI hx hm, hI.wr, by rw [putT_size]; exact hI.size, slots_put hpl hor hok hI hx hLn hv (fun _ _ _ _ _ h => h), rest_put hI hx rfl (fun _ _ => ⟨rfl, rfl⟩), ?_, ?_, hI.ext⟩
  ·intro q' y hy hq hL
   rcases hL with hL | hL
   ·exact hI.hi q' y hy hq hL
   ·rw [(hor.inj hpl hy hx hL).2]; exact hh
  ·intro q' y hy hL hq hnw
   exact hI.blk q' y hy (back q' y hy hL hnw) hq hnw
  ·intro q1 q2 y1 y2 h1 h2 h3 h4 h5 h6 h7 h8 h9
   exact hI.apart q1 q2 y1 y2 h1 (back _ _ h1 h2 h4) h3 h4 h5 (back _ _ h5 h6 h8) h7 h8 h9
 rcases hs.how with ⟨hw, hv, g1, g2, _⟩ | ⟨_, hh2, _⟩ | ⟨hw, _, hv, hlo, g1, g2, _⟩ | ⟨hw, _, hnw, hp0, ob, hv, hlo, g0, g1, g2, _⟩
 ·have hwt := look_wanted hpl hor hst hok h512 hI hx hm hfk hw
  exact ⟨e, w, _, step_skip' hat.1 hwt, still undef (by rw [hv]; exact .plain _ rfl) g1⟩
 ·rw [hh] at hh2; cases hh2
 ·have hwt := look_wanted hpl hor hst hok h512 hI hx hm hfk hw
  have fin : ∃ v', (execOp (evx t.toList) x.o).run P w = .ok (.value v') w ∧ RV e (st (q + 1)).n (vs q) v' := by
   cases hrd : readsOp x.o.op with
   | false =>
     obtain ⟨v', h1, h2⟩ := pure_sound hP (n_max hst hn0 (q := q) (by omega)) hfk hI.wr.kp hh hrd hv hopd (w := w)
     exact ⟨v', h1, by rw [g1]; exact h2⟩
   | true =>
     unfold lightOk at hlo
     rw [hrd] at hlo
     simp only at hlo
     split at hlo
     ·rename_i np hs2
      rw [zaa] at hlo
      split at hlo
      ·rename_i hnums
       have hsp := (snap_spec hpl hor hst hs0 _ x.m np q (by omega) hs2).2 Q hQq hI.phase fun q' y hy hq' hhy hb => by
        have hLy : L y.i := by
         rcases hm _ hb with h | h
         ·rw [(hor.inj hpl hy hx h).2] at hhy; rw [hh] at hhy; cases hhy
         ·exact h
        rcases Nat.lt_or_ge q' Q with h | h
        ·exact h
        ·have := hI.hi q' y hy h hLy
         rw [hhy] at this; cases this
       obtain ⟨hsv, hnp⟩ := hsp
       have hsv := sameVal_eq hsv
       have hopd2 : ∀ y ∈ x.o.op.operands.toList, RV e (st Q).n (ev (st q).tm y) (evx t.toList y) := by
        intro y hy
        have hmem : ev (st q).tm y ∈ evs (st q).tm x.o.op.operands.toList := by
         have : ∀ (l : List Operand), y ∈ l → ev (st q).tm y ∈ evs (st q).tm l := by
          intro l
          induction l with
          | nil => intro h; simp at h
          | cons z l ih =>
            intro h
            rcases List.mem_cons.1 h with rfl | h
            ·exact List.mem_cons_self
            ·exact List.mem_cons_of_mem _ (ih h)
         exact this _ hy
        exact nums_re rfl (fun j hj _ => ⟨rfl, rfl, Nat.lt_of_lt_of_le (blt_lt hj) hnp⟩) 50 _ _ (allB_all hnums _ hmem) (hopd y hy)
       have := aop_sound hP (tm := (st q).tm) (fr := t.toList) (o := x.o) hI.wr hopd2
       have hrn : ∀ n1 n2 hp1, (aopW x.o.op).f P (st q).tm n1 hp1 = .val (vs q) → (aopW x.o.op).f P (st q).tm n2 hp1 = .val (vs q) := by
        intro n1 n2 hp1 h
        revert hrd h
        cases x.o.op with
        | call c =>
          obtain ⟨callee, xs, ts⟩ := c
          cases callee with
          | builtin b => cases b <;> intro hrd h <;> first | (cases hrd; done) | exact h
          | _ => intro hrd; cases hrd
        | _ => intro hrd h <;> first | (cases hrd; done) | exact h
       rw [hrn _ _ _ hsv] at this
       obtain ⟨v', h1, h2⟩ := this
       exact ⟨v', h1, h2.mono ⟨n_mono hst (by omega) (by omega), fun _ _ => rfl, fun _ _ => rfl, rfl⟩⟩
      ·cases hlo
     ·cases hlo
  obtain ⟨v', h1, h2⟩ := fin
  rw [e1] at h1
  exact ⟨e, w, _, op_value hat.1 hwt hnd (.inl h1), still v' h2 g1⟩
 ·have hwt := look_wanted hpl hor hst hok h512 hI hx hm hfk hw
  have := new_sound hP (tm := (st q).tm) (hp := (st q).hp) (fr := t.toList) (o := x.o) (e := e) (n := (st q).n) (w := w) hnw hopd
  rw [hv] at this
  obtain ⟨v', o', h1, h2, h3⟩ := this
  rw [e1] at h1
  have hnew : NewAt st l q := ⟨x, hx, hh, g1⟩
  -- the block has another name than those known
  have hkn : ∀ j, Known l st Q L j → j ≠ (st q).n := by
   rintro j (hj | ⟨q', y, hy, hL, hn, rfl⟩) he
   ·have := n_mono hst hQq (by omega)
    omega
   ·have := new_inj hst hn hnew he
    rw [this, hx] at hy; cases hy
    exact hLn hL
  have hsame : ∀ j, j ≠ (st q).n → (e.add (st q).n w.heap.size 0).β j = e.β j ∧ (e.add (st q).n w.heap.size 0).tot j = e.tot j := by
   intro j hj; simp [Env.add, hj]
  have hre : ∀ j, Known l st Q L j → (e.add (st q).n w.heap.size 0).β j = e.β j ∧ (e.add (st q).n w.heap.size 0).tot j = e.tot j := fun j hj => hsame j (hkn j hj)
  have hget : ∀ {r : Nat} {q : Obj}, w.heap[r]? = some q → (w.heap.push o')[r]? = some q := by
   intro r q hq
   have hr := (Array.getElem?_eq_some_iff.1 hq).1
   rw [Array.getElem?_push_lt hr]; rw [← hq, Array.getElem?_eq_getElem hr]
  have hlow : (st Q).n ≤ (st q).n := n_mono hst hQq (by omega)
  refine ⟨e.add (st q).n w.heap.size 0, { w with heap := w.heap.push o' }, _, op_value hat.1 hwt hnd (.inl h1), ?_⟩
  refine ⟨hI.hQ, hI.phase, fun q' y hy hq => .inl (hI.lo q' y hy hq), ?_, down_put hpl hor hI hx hm, ?_, by rw [putT_size]; exact hI.size, slots_put hpl hor hok hI hx hLn (by rw [g1]; exact h2) (fun q' y u hy hL h => val_re hpl hor hst hs0 ha0 hI (e' := e.add (st q).n w.heap.size 0) rfl hre hy hL h), rest_put hI hx (e' := e.add (st q).n w.heap.size 0) rfl (fun j hj => hsame j (by have := n_mono hst (Nat.zero_le q) (by omega); omega)), ?_, ?_, ?_⟩
  ·intro q' y hy hq hL
   rcases hL with hL | hL
   ·exact hI.hi q' y hy hq hL
   ·rw [(hor.inj hpl hy hx hL).2]; exact hh
  ·exact (hI.wr.env (fun j hj => hsame j (by omega)) rfl).push o'
  ·intro q' y hy hL hq hn
   rcases hL with hL | hL
   ·obtain ⟨ob2, o2, b1, b2, b3, b4, b5, b6⟩ := hI.blk q' y hy hL hq hn
    have hne : (st q').n ≠ (st q).n := fun he => hkn _ (.inr ⟨q', y, hy, hL, hn, rfl⟩) he
    rw [(hsame _ hne).1]
    refine ⟨ob2, o2, b1, hget b2, obj_re hpl hor hst hs0 ha0 hI (e' := e.add (st q).n w.heap.size 0) rfl hre hy hL hq hn b1 b3, b4, fun j hj => ?_, b6⟩
    rw [(hsame j (by omega)).1]; exact b5 j hj
   ·obtain ⟨h6, h7⟩ := hor.inj hpl hy hx hL
    subst h6 h7
    refine ⟨ob, o', g2, ?_, by rw [g1]; exact h3, ?_, fun j hj => ?_, by rw [Env.add_β]; exact hI.wr.noK (Nat.le_refl _)⟩
    ·rw [Env.add_β]
     show (w.heap.push o')[w.heap.size]? = _
     simp
    ·rw [Env.add_β]; exact hI.wr.size
    ·rw [Env.add_β, (hsame j (by omega)).1]
     have := hI.wr.lt' hl j hj
     omega
  ·have key : ∀ (q1 : Nat) (y1 : DO), l[q1]? = some y1 → L y1.i → Q ≤ q1 → NewAt st l q1 → e.β (st q1).n ≠ w.heap.size ∧ (st q1).n ≠ (st q).n := by
     intro q1 y1 hy1 hL1 hq1 hn1
     obtain ⟨ob2, o2, b1, b2, _⟩ := hI.blk q1 y1 hy1 hL1 hq1 hn1
     have := (Array.getElem?_eq_some_iff.1 b2).1
     exact ⟨by omega, fun he => hkn _ (.inr ⟨q1, y1, hy1, hL1, hn1, rfl⟩) he⟩
   intro q1 q2 y1 y2 h1 h2 h3 h4 h5 h6 h7 h8 h9
   rcases h2 with h2 | h2
   ·obtain ⟨k1, k2⟩ := key q1 y1 h1 h2 h3 h4
    rw [(hsame _ k2).1]
    rcases h6 with h6 | h6
    ·obtain ⟨k3, k4⟩ := key q2 y2 h5 h6 h7 h8
     rw [(hsame _ k4).1]
     exact hI.apart q1 q2 y1 y2 h1 h2 h3 h4 h5 h6 h7 h8 h9
    ·rw [(hor.inj hpl h5 hx h6).1, Env.add_β]
     exact k1
   ·have e6 := (hor.inj hpl h1 hx h2).1
    rcases h6 with h6 | h6
    ·obtain ⟨k3, k4⟩ := key q2 y2 h5 h6 h7 h8
     rw [(hsame _ k4).1, e6, Env.add_β]
     exact k3.symm
    ·exact absurd (e6.trans (hor.inj hpl h5 hx h6).1.symm) h9
  ·exact hI.ext.trans ⟨Nat.le_refl _, fun j hj => (hsame j (by have := n_mono hst (Nat.zero_le q) (by omega); omega)).1, fun j hj => (hsame j (by have := n_mono hst (Nat.zero_le q) (by omega); omega)).2, rfl⟩
end
end Go.Gz
namespace Go.Gz
open Go Go.Gx Go.RowKit
def SmOk (P : Program) (sm : Sm) (m : Mu) : Prop :=
 ∀ (f : FuncId) (args : List Value) (n : Nat) (hp : Hp) (v : Value) (n' : Nat) (hp' : Hp), sm f args n hp = .ans v n' hp' → (bodyOf P f).isSome = true ∧
   ∀ (B : Base) (e : Env) (w : World) (args' : List Value), e.m = m → B.lt = true → WR P B e n hp w → RL e n args args' →
     Calls P f args'.toArray w fun o w' => ∃ e' v', o = .returned v' ∧ Ext e n e' n' ∧ WR P B e' n' hp' w' ∧ RV e' n' v v'
def RunOk (P : Program) (m : Mu) (rec : S → Ans) : Prop :=
 ∀ (s : S) (v : Value) (n' : Nat) (hp' : Hp), rec s = .ok v n' hp' → ∀ (B : Base) (e : Env) (w : World) (fr : Frame) (cs' CS : List Frame), e.m = m → B.lt = true → WR P B e s.n s.hp w → RF e s.n ⟨s.x, s.mode, s.todo, s.tm⟩ fr → RFs e s.n s.cs cs' →
   ∃ e' w' v', Ext e s.n e' n' ∧ WR P B e' n' hp' w' ∧ RV e' n' v v' ∧ (∀ c CS', CS = c :: CS' → Steps P (lone fr (cs' ++ CS) w) (lone (c.finish v') CS' w')) ∧
     ((bot s.x s.cs).1 = none → ∃ fr1, Steps P (lone fr (cs' ++ CS) w) (lone fr1 CS w') ∧ fr1.fn = (bot s.x s.cs).2 ∧ fr1.leaving P w' (.returned v'))
theorem finish_region {f : FuncId} {t : Array Value} {ops : Array Oper} {i : Nat} {rest : List Nat} {k : List Item} {ds : List Deferred} {kd : CallKind} {r : Option Nat} {o : Oper} (ho : ops[i]? = some o) (v : Value) :
  (⟨f, t, .inRegion ops (i :: rest) :: k, ds, .run, kd, r⟩ : Frame).finish v = ⟨f, putT t o.dst v, .inRegion ops rest :: k, ds, .run, kd, r⟩ := by
 cases hd : o.dst <;> simp [Frame.finish, ho, hd, putT]
section
variable {P : Program} {sm : Sm} {rec : S → Ans} {kb : AObj} {ops : Array Oper} {all l : List DO} (hpl : Plan ops all) (hor : Order ops all l) {st : Nat → St} {vs : Nat → Value} (hst : ∀ (q : Nat) (y : DO), l[q]? = some y → StepOk P sm rec kb ops.toList y (st q) (vs q) (st (q + 1)))
 {nt : Nat} (hok : opsOk nt ops.toList = true) (h512 : nt ≤ 512) (hn0 : (st 0).n ≤ 32767) (hs0 : (st 0).snaps = [⟨0, (st 0).n, (st 0).hp⟩]) (ha0 : (st 0).als = []) (hk0 : (st 0).hp.get 32767 = kb)
 {B : Base} {e0 e : Env} {Q : Nat} {L : Nat → Prop} {t : Array Value} {w : World}
 {fn : FuncId} {k : List Item} {ds : List Deferred} {kd : CallKind} {r : Option Nat} {cs : List Frame} {rest : List Nat}
variable (hP : Small P)
include hP in
theorem heavy_res {m : Mu} (hsm : SmOk P sm m) (hrec : RunOk P m rec) {s : St} {v : Value} {n' : Nat} {hp' : Hp} {o : Oper} {i : Nat} (ho : ops[i]? = some o) (hem : e.m = m) (hl : B.lt = true) (hw : WR P B e s.n s.hp w) (hkb : s.hp.get 32767 = kb) (hr : HRes P sm rec kb o s v n' hp')
  (hwt : Region.wanted o (yielded ops t) = true) (hopd : ∀ y ∈ o.op.operands.toList, RV e s.n (ev s.tm y) (evx t.toList y)) :
  ∃ e1 w' v', Steps P (lone ⟨fn, t, .inRegion ops (i :: rest) :: k, ds, .run, kd, r⟩ cs w) (lone ⟨fn, putT t o.dst v', .inRegion ops rest :: k, ds, .run, kd, r⟩ cs w') ∧ Ext e s.n e1 n' ∧ WR P B e1 n' hp' w' ∧ RV e1 n' v v' := by
 have e1 : evx t.toList = (⟨t, []⟩ : Act).eval := by
  have := eval_evx t.toList
  simpa using this.symm
 have hs := aop_sound hP (tm := s.tm) (fr := t.toList) (o := o) hw hopd
 rw [e1] at hs
 have put : ∀ {e1 : Env} {n1 : Nat} {hp1 : Hp} {w1 : World}, e1.m = m → WR P B e1 n1 hp1 w1 → WR P B e1 n1 (hp1.set 32767 kb) w1 := fun he h1 => h1.kb fun c b hc => by
  rw [dec_kb (hp := s.hp) (by rw [hkb]; exact hp_set_same _ _ (by omega) _)] at hc
  rw [he, ← hem]; exact hw.fk c b hc
 have hnd : r = none ∨ ∀ c, o.op ≠ .defer c := by
  right
  intro c hc
  unfold HRes at hr
  rw [hc] at hr
  have e2 : (aopW (.defer c)).f P s.tm s.n s.hp = aDefer c P s.tm s.n s.hp := rfl
  rw [e2] at hr
  unfold aDefer at hr
  split at hr
  ·rename_i h1
   split at h1
   ·split at h1 <;> cases h1
   ·cases h1
  ·rename_i h1
   split at h1
   ·split at h1 <;> cases h1
   ·cases h1
  ·rename_i h1
   split at h1
   ·split at h1 <;> cases h1
   ·cases h1
  ·rename_i h1
   split at h1
   ·split at h1 <;> cases h1
   ·cases h1
  ·rename_i h1
   split at h1
   ·split at h1 <;> cases h1
   ·cases h1
  ·exact hr
 unfold HRes at hr
 split at hr
 ·rename_i u hu
  obtain ⟨rfl, rfl, rfl⟩ := hr
  rw [hu] at hs
  obtain ⟨v', h1, h2⟩ := hs
  exact ⟨e, w, v', .one (op_value ho hwt hnd (.inl h1)), Ext.refl _ _, hw, h2⟩
 ·rename_i u hp2 hu
  obtain ⟨rfl, rfl, rfl⟩ := hr
  rw [hu] at hs
  obtain ⟨v', w', h1, h2, h3⟩ := hs
  exact ⟨e, w', v', .one (op_value ho hwt hnd h1), Ext.refl _ _, put hem h3, h2⟩
 ·rename_i u hp2 ob hu
  obtain ⟨rfl, hn, rfl, rfl⟩ := hr
  rw [hu] at hs
  obtain ⟨v', w', q, tt, h1, h2, h3⟩ := hs hn
  exact ⟨e.add s.n q tt, w', v', .one (op_value ho hwt hnd (.inl h1)), e.ext _ _ _, put hem h3, h2⟩
 ·rename_i g args hu
  obtain ⟨hp1, rfl, _, _, hr⟩ := hr
  rw [hu] at hs
  rcases hr with hsmr | ⟨_, fr2, he, hrun⟩
  ·obtain ⟨hbody, hc⟩ := hsm _ _ _ _ _ _ _ hsmr
   obtain ⟨args', h1, h2⟩ := hs hbody
   obtain ⟨E, w', fr1, ⟨e', v', rfl, g1, g2, g3⟩, g4, _, g5⟩ := hc B e w args' hem hl hw h2 (⟨fn, t, .inRegion ops (i :: rest) :: k, ds, .run, kd, r⟩ :: cs)
   have := step_leave_returned g5 (c := ⟨fn, t, .inRegion ops (i :: rest) :: k, ds, .run, kd, r⟩) (cs := cs)
   rw [finish_region ho] at this
   exact ⟨e', w', v', .head (op_enter ho hwt hnd h1) (Steps.trans g4 (.one this)), g1, put (g1.m.trans hem) g2, g3⟩
  ·have hbody : (bodyOf P g).isSome = true := by
     unfold enterF at he
     split at he
     ·rename_i c nt hb2; rw [hb2]; rfl
     ·cases he
   obtain ⟨args', h1, h2⟩ := hs hbody
   obtain ⟨h3, _⟩ := enter_rel hP he h2
   obtain ⟨e', w', v', g1, g2, g3, g4, _⟩ := hrec _ _ _ _ hrun B e w _ [] (⟨fn, t, .inRegion ops (i :: rest) :: k, ds, .run, kd, r⟩ :: cs) hem hl hw h3 .nil
   have := g4 _ _ rfl
   rw [finish_region ho] at this
   exact ⟨e', w', v', .head (op_enter ho hwt hnd h1) this, g1, put (g1.m.trans hem) g2, g3⟩
 ·rename_i lp args hu
  obtain ⟨fr2, hp1, rfl, he, hrun, _⟩ := hr
  rw [hu] at hs
  obtain ⟨args', h1, h2, h3⟩ := hs
  obtain ⟨g, tmps, a, c, h4, h5, _⟩ := round_rel hw h3 he h2
  rw [h4] at h1
  obtain ⟨e', w', v', g1, g2, g3, g4, _⟩ := hrec _ _ _ _ hrun B e w _ [] (⟨fn, t, .inRegion ops (i :: rest) :: k, ds, .run, kd, r⟩ :: cs) hem hl hw h5 .nil
  have := g4 _ _ rfl
  rw [finish_region ho] at this
  exact ⟨e', w', v', .head (op_round ho hwt hnd h1) this, g1, put (g1.m.trans hem) g2, g3⟩
 ·exact hr.elim
include hpl hor hst hok h512 hn0 hs0 ha0 hk0 hP in
theorem heavy_step (hsm : SmOk P sm e0.m) (hrec : RunOk P e0.m rec) (hl : B.lt = true) (hI : Inv P B e0 nt all l st vs Q L e t w) {q : Nat} {x : DO} (hx : l[q]? = some x) (hLn : ¬ L x.i) (hm : ∀ j, x.m.testBit j = true → j = x.i ∨ L j) (hh : heavy x.o.op = true) :
  ∃ e' w' t', Steps P (lone ⟨fn, t, .inRegion ops (x.i :: rest) :: k, ds, .run, kd, r⟩ cs w) (lone ⟨fn, t', .inRegion ops rest :: k, ds, .run, kd, r⟩ cs w') ∧
    Inv P B e0 nt all l st vs (q + 1) (fun j => L j ∨ j = x.i) e' t' w' := by
 have hat := hor.at_ hpl hx
 have hql : q < l.length := (List.getElem?_eq_some_iff.1 hx).1
 have hQq : Q ≤ q := by
  rcases Nat.lt_or_ge q Q with h | h
  ·exact absurd (hI.lo q x hx h) hLn
  ·exact h
 have hpre : ∀ (q' : Nat) (y : DO), l[q']? = some y → q' < q → L y.i := by
  intro q' y hy hq
  rcases hm _ ((hor.hv q x hx hh y.i).2 (.inr ⟨q', hq, y, hy, rfl⟩)) with h | h
  ·have := (hor.inj hpl hy hx h).1; omega
  ·exact h
 obtain ⟨hwq, hfar⟩ := merge hst hI q hQq (by omega) hpre
 have hem : e.m = e0.m := hI.ext.m
 have hkq := kb_at hst hn0 hk0 (q := q) (by omega)
 have hfk : ∀ c b, decH (st q).hp c = some b → den e.m c = some (.bool b) := hwq.fk
 have hopd := look_opds hpl hor hst hok h512 hI hx hm
 have hself := hwq.self hl
 have hs := hst q x hx
 have core : ∃ e1 w' v', Steps P (lone ⟨fn, t, .inRegion ops (x.i :: rest) :: k, ds, .run, kd, r⟩ cs w) (lone ⟨fn, putT t x.o.dst v', .inRegion ops rest :: k, ds, .run, kd, r⟩ cs w') ∧
   Ext e (st q).n e1 (st (q + 1)).n ∧ WR P ⟨w, (st q).n, e.β, true⟩ e1 (st (q + 1)).n (st (q + 1)).hp w' ∧ RV e1 (st (q + 1)).n (vs q) v' := by
  rcases hs.how with ⟨hw, hv, g1, g2, _⟩ | ⟨hw, _, hr, _⟩ | ⟨_, hh2, _⟩ | ⟨_, hh2, _⟩
  ·have hwt := look_wanted hpl hor hst hok h512 hI hx hm hfk hw
   refine ⟨e, w, undef, .one (step_skip' hat.1 hwt), ?_, ?_, by rw [hv]; exact .plain _ rfl⟩
   ·rw [g1]; exact Ext.refl _ _
   ·rw [g1, g2]; exact hself
  ·have hwt := look_wanted hpl hor hst hok h512 hI hx hm hfk hw
   exact heavy_res hP hsm hrec hat.1 hem rfl hself hkq hr hwt hopd
  ·rw [hh] at hh2; cases hh2
  ·rw [hh] at hh2; cases hh2
 obtain ⟨e1, w', v', hsteps, hext, hw1, hv1⟩ := core
 have hnn : (st q).n ≤ (st (q + 1)).n := hext.le
 have hlow : (st Q).n ≤ (st q).n := n_mono hst hQq (by omega)
 -- where what came early lies stays
 let e2 : Env := ⟨fun j => if j < (st (q + 1)).n then e1.β j else e.β j, fun j => if j < (st (q + 1)).n then e1.tot j else e.tot j, e.m⟩
 have hm21 : e2.m = e1.m := hext.m.symm
 have h21 : ∀ j, j < (st (q + 1)).n → e2.β j = e1.β j ∧ e2.tot j = e1.tot j := by
  intro j hj; exact ⟨if_pos hj, if_pos hj⟩
 have h20 : ∀ j, (j < (st q).n ∨ (st (q + 1)).n ≤ j) → e2.β j = e.β j ∧ e2.tot j = e.tot j := by
  intro j hj
  rcases hj with hj | hj
  ·rw [(h21 j (by omega)).1, (h21 j (by omega)).2]
   exact ⟨hext.β j hj, hext.tot j hj⟩
  ·exact ⟨if_neg (by omega), if_neg (by omega)⟩
 have hre : ∀ j, Known l st Q L j → e2.β j = e.β j ∧ e2.tot j = e.tot j := by
  rintro j (hj | ⟨q', y, hy, hL, hn, rfl⟩)
  ·exact h20 j (.inl (by omega))
  ·have hq'l : q' < l.length := (List.getElem?_eq_some_iff.1 hy).1
   rcases Nat.lt_trichotomy q' q with h | h | h
   ·exact h20 _ (.inl (new_lt hst hn h (by omega)))
   ·rw [h] at hy; rw [hx] at hy; cases hy; exact absurd hL hLn
   ·exact h20 _ (.inr (n_mono hst h (by omega)))
 have hzero : ∀ j, j < (st 0).n → e2.β j = e.β j ∧ e2.tot j = e.tot j := fun j hj => h20 j (.inl (by have := n_mono hst (Nat.zero_le q) (by omega); omega))
 have later : ∀ (q' : Nat) (y : DO), l[q']? = some y → (L y.i ∨ y.i = x.i) → q + 1 ≤ q' → L y.i ∧ (st (q + 1)).n ≤ (st q').n := by
  intro q' y hy hL hq
  have hq'l : q' < l.length := (List.getElem?_eq_some_iff.1 hy).1
  refine ⟨?_, n_mono hst hq (by omega)⟩
  rcases hL with hL | hL
  ·exact hL
  ·have := (hor.inj hpl hy hx hL).1; omega
 refine ⟨e2, w', _, hsteps, ?_⟩
 refine ⟨by omega, .inr ⟨q, x, rfl, hx, hh⟩, ?_, ?_, down_put hpl hor hI hx hm, ?_, by rw [putT_size]; exact hI.size, slots_put hpl hor hok hI hx hLn (hv1.mono ⟨Nat.le_refl _, fun j hj => (h21 j hj).1, fun j hj => (h21 j hj).2, hm21⟩) (fun q' y u hy hL h => val_re hpl hor hst hs0 ha0 hI (e' := e2) rfl hre hy hL h), rest_put hI hx (e' := e2) rfl hzero, ?_, ?_, ?_⟩
 ·intro q' y hy hq
  rcases Nat.lt_or_ge q' q with h | h
  ·exact .inl (hpre q' y hy h)
  ·have : q' = q := by omega
   rw [this, hx] at hy; cases hy; exact .inr rfl
 ·intro q' y hy hq hL
  exact hI.hi q' y hy (by omega) (later q' y hy hL hq).1
 ·exact (hwq.into hw1).env h21 hm21
 ·intro q' y hy hL hq hn
  obtain ⟨hL, hge⟩ := later q' y hy hL hq
  obtain ⟨ob, o', b1, b2, b3, b4, b5, b6⟩ := hI.blk q' y hy hL (by omega) hn
  have hb := (h20 (st q').n (.inr hge)).1
  rw [hb]
  have hfar' := hfar q' y hy hL (by omega) hn
  have hlt : e.β (st q').n < w.heap.size := (Array.getElem?_eq_some_iff.1 b2).1
  refine ⟨ob, o', b1, ?_, obj_re hpl hor hst hs0 ha0 hI (e' := e2) rfl hre hy hL (by omega) hn b1 b3, b4, fun j hj => ?_, b6⟩
  ·rw [hw1.old _ hlt fun i hi => hfar' i hi]; exact b2
  ·rw [(h21 j hj).1]
   rcases Nat.lt_or_ge j (st q).n with h | h
   ·rw [hext.β j h]; exact hfar' j h
   ·rcases hw1.fresh j h hj with h1 | ⟨i, hi, h1⟩
    ·have h1 : w.heap.size ≤ e1.β j := h1
     omega
    ·rw [h1]; exact hfar' i hi
 ·intro q1 q2 y1 y2 h1 h2 h3 h4 h5 h6 h7 h8 h9
  obtain ⟨k1, k2⟩ := later q1 y1 h1 h2 h3
  obtain ⟨k3, k4⟩ := later q2 y2 h5 h6 h7
  rw [(h20 _ (.inr k2)).1, (h20 _ (.inr k4)).1]
  exact hI.apart q1 q2 y1 y2 h1 k1 (by omega) h4 h5 k3 (by omega) h8 h9
 ·exact hI.ext.trans ⟨Nat.le_refl _, fun j hj => (hzero j hj).1, fun j hj => (hzero j hj).2, rfl⟩
include hpl hor hst hok h512 in
theorem all_done (hI : Inv P B e0 nt all l st vs Q L e t w) (hall : ∀ (q : Nat) (x : DO), l[q]? = some x → L x.i) :
  Ext e0 (st 0).n e (st l.length).n ∧ WR P B e (st l.length).n (st l.length).hp w ∧ RTm e (st l.length).n nt (st l.length).tm t := by
 have hmono : (st 0).n ≤ (st l.length).n := n_mono hst (Nat.zero_le _) (Nat.le_refl _)
 refine ⟨hI.ext.trans ⟨hmono, fun _ _ => rfl, fun _ _ => rfl, rfl⟩, (merge hst hI l.length hI.hQ (Nat.le_refl _) fun q x hx _ => hall q x hx).1, hI.size, h512, fun d hd => ?_⟩
 by_cases h : ∃ a ∈ l, a.o.dst = some d
 ·obtain ⟨a, ha, had⟩ := h
  obtain ⟨q', ha⟩ := List.mem_iff_getElem?.1 ha
  have hql : q' < l.length := (List.getElem?_eq_some_iff.1 ha).1
  rw [slot_done hpl hor hst hok h512 ha had l.length hql (Nat.le_refl _)]
  exact (hI.slots q' a d ha (hall q' a ha) had).mono ⟨n_mono hst hql (Nat.le_refl _), fun _ _ => rfl, fun _ _ => rfl, rfl⟩
 ·have h : ∀ x ∈ l, x.o.dst ≠ some d := fun a ha had => h ⟨a, ha, had⟩
  rw [slot_rest hpl hor hst hok h512 hd h l.length (Nat.le_refl _)]
  exact (hI.rest d hd h).mono ⟨hmono, fun _ _ => rfl, fun _ _ => rfl, rfl⟩
theorem ready_iff {listed : Array Bool} {i : Nat} (h : i ∈ Region.ready .any ops listed) : i < ops.size ∧ listed.getD i true = false ∧ ∀ o, ops[i]? = some o → ∀ ed ∈ o.after.toList, bindsA ed.ground = true → listed.getD ed.on false = true := by
 unfold Region.ready at h
 simp only [List.mem_filter, List.mem_range, Bool.and_eq_true, Bool.not_eq_true'] at h
 obtain ⟨h1, h2, h3⟩ := h
 refine ⟨h1, h2, fun o ho ed hed hb => ?_⟩
 rw [ho] at h3
 simp only [Option.map_some, Option.getD_some, Array.all_eq_true'] at h3
 have := h3 ed (by simpa using hed)
 rw [bindsA_eq, hb] at this
 simpa using this
include hpl hor hst hok h512 hn0 hs0 ha0 hk0 hP in
theorem sched (hsm : SmOk P sm e0.m) (hrec : RunOk P e0.m rec) (hl : B.lt = true) : ∀ (fuel tt : Nat) (listed : Array Bool) (Q : Nat) (e : Env) (t : Array Value) (w : World), listed.size = ops.size → Inv P B e0 nt all l st vs Q (fun j => listed.getD j false = true) e t w →
  (List.range ops.size).countP (fun i => listed.getD i false) + fuel = ops.size →
  ∃ e' w' t', Steps P (lone ⟨fn, t, .inRegion ops (Region.linearise.go .any ops fuel tt listed []) :: k, ds, .run, kd, r⟩ cs w) (lone ⟨fn, t', .inRegion ops [] :: k, ds, .run, kd, r⟩ cs w') ∧
    Ext e0 (st 0).n e' (st l.length).n ∧ WR P B e' (st l.length).n (st l.length).hp w' ∧ RTm e' (st l.length).n nt (st l.length).tm t' := by
 intro fuel
 induction fuel with
 | zero =>
   intro tt listed Q e t w hsz hI hc
   refine ⟨e, w, t, .refl _ _, all_done hpl hor hst hok h512 hI fun q x hx => ?_⟩
   have hlt : x.i < ops.size := (Array.getElem?_eq_some_iff.1 (hor.at_ hpl hx).1).1
   have : (List.range ops.size).countP (fun i => listed.getD i false) = (List.range ops.size).length := by simpa using hc
   exact List.countP_eq_length.1 this x.i (by simpa using hlt)
 | succ fuel ih =>
   intro tt listed Q e t w hsz hI hc
   simp only [Region.linearise.go]
   change ∃ e' w' t', Steps P (lone ⟨fn, t, .inRegion ops (match (Region.ready .any ops listed)[tt % (Region.ready .any ops listed).length]? with
    | some i => Region.linearise.go .any ops fuel (tt / (Region.ready .any ops listed).length) (listed.setIfInBounds i true) [i]
    | none => [].reverse) :: k, ds, .run, kd, r⟩ cs w) _ ∧ _
   cases hi : (Region.ready .any ops listed)[tt % (Region.ready .any ops listed).length]? with
   | none =>
     have hnil : Region.ready .any ops listed = [] := by
      cases hr : Region.ready .any ops listed with
      | nil => rfl
      | cons x xs =>
        rw [hr] at hi
        have hlt : tt % (x :: xs).length < (x :: xs).length := Nat.mod_lt _ (by simp)
        simp at hi
        simp at hlt
        omega
     refine ⟨e, w, t, .refl _ _, all_done hpl hor hst hok h512 hI ?_⟩
     intro q
     induction q using Nat.strongRecOn with
     | ind q ihq =>
       intro x hx
       have hat := hor.at_ hpl hx
       have hlt : x.i < ops.size := (Array.getElem?_eq_some_iff.1 hat.1).1
       apply Classical.byContradiction
       intro hno
       have : x.i ∈ Region.ready .any ops listed := by
        unfold Region.ready
        simp only [List.mem_filter, List.mem_range, Bool.and_eq_true, Bool.not_eq_true']
        refine ⟨hlt, ?_, ?_⟩
        ·have hlt2 : x.i < listed.size := by omega
         simp [Array.getD, hlt2] at hno ⊢
         exact hno
        ·rw [hat.1]
         simp only [Option.map_some, Option.getD_some, Array.all_eq_true']
         intro ed hed
         rw [bindsA_eq]
         cases hb : bindsA ed.ground with
         | false => rfl
         | true =>
           have hon := edgesLt_lt x.i _ (hor.lt q x hx) ed (by simpa using hed) hb
           have hbit := hpl.sup x.i x hat.2.2 ed (by simpa using hed) hb hon
           rcases hor.any q x hx _ hbit with h | ⟨q', hq', y, hy, hyi⟩
           ·omega
           ·have := ihq q' hq' y hy
            rw [hyi] at this
            simpa using this
       rw [hnil] at this
       simp at this
   | some i =>
     simp only []
     rw [linearise_go_acc, List.reverse_singleton, List.singleton_append]
     obtain ⟨h1, h2, h3⟩ := ready_iff (List.mem_of_getElem? hi)
     obtain ⟨q, x, hx, hxi⟩ := hor.full i h1
     subst hxi
     have hat := hor.at_ hpl hx
     have hlt2 : x.i < listed.size := by omega
     have hLn : ¬ listed.getD x.i false = true := by
      simp [Array.getD, hlt2] at h2 ⊢
      exact h2
     have hm : ∀ j, x.m.testBit j = true → j = x.i ∨ listed.getD j false = true := by
      intro j hj
      rcases hpl.sub x.i x hat.2.2 (hor.lt q x hx) j hj with h | ⟨ed, hed, hb, y, hy, hyj⟩
      ·exact .inl h
      ·exact .inr (hI.down _ y hy (h3 x.o hat.1 ed hed hb) j hyj)
     have hL2 : (fun j => (listed.setIfInBounds x.i true).getD j false = true) = (fun j => listed.getD j false = true ∨ j = x.i) := by
      funext j
      apply propext
      by_cases hj : x.i = j
      ·subst hj; simp [hlt2]
      ·simp [Array.getElem?_setIfInBounds_ne hj, Ne.symm hj]
     have hc2 : (List.range ops.size).countP (fun i => (listed.setIfInBounds x.i true).getD i false) + fuel = ops.size := by
      have key : ∀ (m : Nat), (List.range m).countP (fun i => (listed.setIfInBounds x.i true).getD i false) = (List.range m).countP (fun i => listed.getD i false) + (if x.i < m then 1 else 0) := by
       intro m
       induction m with
       | zero => simp
       | succ m ihm =>
         rw [List.range_succ, List.countP_append, List.countP_append, ihm]
         by_cases hj : x.i = m
         ·subst hj
          have a1 : (listed.setIfInBounds x.i true).getD x.i false = true := by simp [hlt2]
          have a2 : listed.getD x.i false = false := by simpa using hLn
          simp only [List.countP_cons, List.countP_nil, a1, a2, if_pos (Nat.lt_succ_self x.i)]
          rw [if_neg (Nat.lt_irrefl _)]
          simp
         ·have a1 : (listed.setIfInBounds x.i true).getD m false = listed.getD m false := by simp [Array.getElem?_setIfInBounds_ne hj]
          have a3 : (x.i < m + 1) = (x.i < m) := by apply propext; omega
          simp only [List.countP_cons, List.countP_nil, a1, a3]
          omega
      rw [key, if_pos h1]; omega
     cases hh : heavy x.o.op with
     | false =>
       obtain ⟨e', w', t', s1, hI'⟩ := light_step hpl hor hst hok h512 hn0 hs0 ha0 hk0 hP hl hI hx hLn hm hh (fn := fn) (k := k) (ds := ds) (kd := kd) (r := r) (cs := cs) (rest := Region.linearise.go .any ops fuel (tt / (Region.ready .any ops listed).length) (listed.setIfInBounds x.i true) [])
       rw [← hL2] at hI'
       obtain ⟨e3, w3, t3, s3, r3⟩ := ih (tt / (Region.ready .any ops listed).length) (listed.setIfInBounds x.i true) _ e' t' w' (by simpa using hsz) hI' hc2
       exact ⟨e3, w3, t3, .head s1 s3, r3⟩
     | true =>
       obtain ⟨e', w', t', s1, hI'⟩ := heavy_step hpl hor hst hok h512 hn0 hs0 ha0 hk0 hP hsm hrec hl hI hx hLn hm hh (fn := fn) (k := k) (ds := ds) (kd := kd) (r := r) (cs := cs) (rest := Region.linearise.go .any ops fuel (tt / (Region.ready .any ops listed).length) (listed.setIfInBounds x.i true) [])
       rw [← hL2] at hI'
       obtain ⟨e3, w3, t3, s3, r3⟩ := ih (tt / (Region.ready .any ops listed).length) (listed.setIfInBounds x.i true) _ e' t' w' (by simpa using hsz) hI' hc2
       exact ⟨e3, w3, t3, s1.trans s3, r3⟩
end
end Go.Gz
namespace Go.Gz
open Go Go.Gx Go.RowKit
def Goes (P : Program) (B : Base) (e : Env) (n : Nat) (fr : Frame) (cs CS : List Frame) (w : World) (b : Option Nat × FuncId) : Ans → Prop
 | .ok v n' hp' => ∃ e' w' v', Ext e n e' n' ∧ WR P B e' n' hp' w' ∧ RV e' n' v v' ∧ (∀ c CS', CS = c :: CS' → Steps P (lone fr (cs ++ CS) w) (lone (c.finish v') CS' w')) ∧
  (b.1 = none → ∃ fr1, Steps P (lone fr (cs ++ CS) w) (lone fr1 CS w') ∧ fr1.fn = b.2 ∧ fr1.leaving P w' (.returned v'))
 | .need _ s' => ∃ e' w' fr' cs2, Ext e n e' s'.n ∧ WR P B e' s'.n s'.hp w' ∧ RF e' s'.n ⟨s'.x, s'.mode, s'.todo, s'.tm⟩ fr' ∧ RFs e' s'.n s'.cs cs2 ∧ bot s'.x s'.cs = b ∧ Steps P (lone fr (cs ++ CS) w) (lone fr' (cs2 ++ CS) w')
 | .stop s' => ∃ e' w' fr' cs2, Ext e n e' s'.n ∧ WR P B e' s'.n s'.hp w' ∧ RF e' s'.n ⟨s'.x, s'.mode, s'.todo, s'.tm⟩ fr' ∧ RFs e' s'.n s'.cs cs2 ∧ bot s'.x s'.cs = b ∧ Steps P (lone fr (cs ++ CS) w) (lone fr' (cs2 ++ CS) w')
 | .bad _ _ => True
 | .out => True
theorem Goes.trans {P : Program} {B : Base} {e e1 : Env} {n n1 : Nat} {fr fr1 : Frame} {cs cs1 CS : List Frame} {w w1 : World} {b : Option Nat × FuncId} {a : Ans}
  (hs : Steps P (lone fr (cs ++ CS) w) (lone fr1 (cs1 ++ CS) w1)) (hx : Ext e n e1 n1) (h : Goes P B e1 n1 fr1 cs1 CS w1 b a) : Goes P B e n fr cs CS w b a := by
 cases a with
 | ok v n' hp' =>
   obtain ⟨e', w', v', g1, g2, g3, g4, g5⟩ := h
   exact ⟨e', w', v', hx.trans g1, g2, g3, fun c CS' hc => hs.trans (g4 c CS' hc), fun hb => by obtain ⟨f1, g6, g7⟩ := g5 hb; exact ⟨f1, hs.trans g6, g7⟩⟩
 | need c s' =>
   obtain ⟨e', w', fr', cs2, g1, g2, g3, g4, g5, g6⟩ := h
   exact ⟨e', w', fr', cs2, hx.trans g1, g2, g3, g4, g5, hs.trans g6⟩
 | stop s' =>
   obtain ⟨e', w', fr', cs2, g1, g2, g3, g4, g5, g6⟩ := h
   exact ⟨e', w', fr', cs2, hx.trans g1, g2, g3, g4, g5, hs.trans g6⟩
 | bad => trivial
 | out => trivial
section
variable {P : Program} (hP : Small P) {sm : Sm} {m : Mu} (hsm : SmOk P sm m)
include hP hsm
theorem arun_goes : ∀ (N : Nat) (stop : Bool) (s : S) (B : Base) (e : Env) (w : World) (fr : Frame) (cs' CS : List Frame), e.m = m → B.lt = true → WR P B e s.n s.hp w → RF e s.n ⟨s.x, s.mode, s.todo, s.tm⟩ fr → RFs e s.n s.cs cs' →
  Goes P B e s.n fr cs' CS w (bot s.x s.cs) (arunS P sm N stop s) := by
 intro N
 induction N with
 | zero => intro stop s B e w fr cs' CS _ _ _ _ _; exact trivial
 | succ N ih =>
   intro stop s B e w fr cs' CS hem hl hw hf hcs
   show Goes P B e s.n fr cs' CS w (bot s.x s.cs) (onOut (astep P s) P sm (arunS P sm N) stop s)
   have hnx := step_sound hP (CS := CS) hw hf hcs rfl
   have go : ∀ s2, (∃ e' w' fr' cs2, step P (lone fr (cs' ++ CS) w) = .next (lone fr' (cs2 ++ CS) w') ∧ Ext e s.n e' s2.n ∧ WR P B e' s2.n s2.hp w' ∧ RF e' s2.n ⟨s2.x, s2.mode, s2.todo, s2.tm⟩ fr' ∧ RFs e' s2.n s2.cs cs2 ∧ bot s2.x s2.cs = bot s.x s.cs) →
     Goes P B e s.n fr cs' CS w (bot s.x s.cs) (arunS P sm N stop s2) := by
    rintro s2 ⟨e1, w1, fr1, cs1, s1, hx, hw1, hf1, hcs1, hb⟩
    have := ih stop s2 B e1 w1 fr1 cs1 CS (hx.m.trans hem) hl hw1 hf1 hcs1
    rw [hb] at this
    exact this.trans (.one s1) hx
   cases ho : astep P s with
   | go s2 =>
     rw [ho] at hnx
     exact go s2 hnx
   | head s2 =>
     rw [ho] at hnx
     show Goes P B e s.n fr cs' CS w (bot s.x s.cs) (cnd stop (.stop s2) (arunS P sm N stop s2))
     cases stop with
     | false => exact go s2 hnx
     | true =>
       obtain ⟨e1, w1, fr1, cs1, s1, hx, hw1, hf1, hcs1, hb⟩ := hnx
       exact ⟨e1, w1, fr1, cs1, hx, hw1, hf1, hcs1, hb, .one s1⟩
   | done v0 n0 hp0 =>
     rw [ho] at hnx
     obtain ⟨e1, w1, v1, hx, hw1, hv, hcn, g1, g2⟩ := hnx
     subst hcn
     refine ⟨e1, w1, v1, hx, hw1, hv, fun c CS' hc => ?_, fun hb => ?_⟩
     ·exact .one (g1 c CS' hc)
     ·obtain ⟨g3, g4, g5⟩ := g2 hb
      subst g5
      exact ⟨fr, .refl _ _, g3, g4⟩
   | need c s2 =>
     rw [ho] at hnx
     obtain ⟨hn, hw1, hf1, hcs1, hb⟩ := hnx
     refine ⟨e, w, fr, cs', ?_, ?_, ?_, ?_, hb, .refl _ _⟩
     ·rw [hn]; exact Ext.refl _ _
     ·rw [hn]; exact hw1
     ·rw [hn]; exact hf1
     ·rw [hn]; exact hcs1
   | bad y s2 => exact trivial
   | ent f args o x all rest k tm cs n hp =>
     rw [ho] at hnx
     obtain ⟨hn, hw1, hf1, hcs1, hb, hfin, hent⟩ := hnx
     subst hn
     show Goes P B e s.n fr cs' CS w (bot s.x s.cs) (match sm f args s.n hp with
      | .ask c => _
      | .ans v n' hp' => _
      | .no => _)
     split
     ·exact ⟨e, w, fr, cs', Ext.refl _ _, hw1, hf1, hcs1, hb, .refl _ _⟩
     ·rename_i v n' hp' hsmr
      rw [zaa]
      split
      ·obtain ⟨hbody, hc⟩ := hsm _ _ _ _ _ _ _ hsmr
       obtain ⟨args', h1, h2⟩ := hent hbody
       obtain ⟨E, w', fr1, ⟨e', v', rfl, g1, g2, g3⟩, g4, _, g5⟩ := hc B e w args' hem hl hw1 h1 (fr :: (cs' ++ CS))
       have h3 := step_leave_returned g5 (c := fr) (cs := cs' ++ CS)
       have hf2 := hfin e' n' v v' g1 g3
       have := ih stop ⟨x, .run, .ops all rest :: k, putx tm o.dst v, cs, n', hp'⟩ B e' w' (fr.finish v') cs' CS (g1.m.trans hem) hl g2 hf2 (hcs1.mono g1)
       rw [hb] at this
       exact this.trans (.head h2 (Steps.trans g4 (.one h3))) g1
      ·exact trivial
     ·split
      ·rename_i x' mode todo tm' he
       have hbody : (bodyOf P f).isSome = true := by
        unfold enterF at he
        split at he
        ·rename_i c nt hb2; rw [hb2]; rfl
        ·cases he
       obtain ⟨args', h1, h2⟩ := hent hbody
       obtain ⟨h3, h4, _⟩ := enter_rel hP he h1
       refine go ⟨x', mode, todo, tm', ⟨x, .run, .ops all (o :: rest) :: k, tm⟩ :: cs, s.n, hp⟩ ⟨e, w, _, fr :: cs', by simpa using h2, Ext.refl _ _, hw1, h3, .cons _ _ _ _ hf1 hcs1, ?_⟩
       rw [← hb]; rfl
      ·exact trivial
   | draw ops s2 =>
     rw [ho] at hnx
     obtain ⟨x, mode, todo, tm, cs, n, hp⟩ := s2
     obtain ⟨hm, hn, hok, hw2, hb, hcs2, id, k', htd, hmd, hf2⟩ := hnx
     simp only at hm hn hok hw2 hb hcs2 hf2
     subst hm hn
     obtain ⟨f, t, td, ds, md, kd, r⟩ := fr
     simp only at htd hmd hf2
     subst htd hmd
     show Goes P B e s.n _ cs' CS w (bot s.x s.cs) (drawStep P sm (arunS P sm N) stop ops ⟨x, .run, todo, tm, cs, s.n, hp⟩ s)
     unfold drawStep
     simp only
     split
     ·rename_i l hplan
      obtain ⟨all, hpl, hor⟩ := planOf_order hplan
      have hgone := drawRun_trace (P := P) (sm := sm) (rec := arunS P sm N false) (s0 := s) (kb := hp.get 32767) (all := ops.toList) (K := fun tm n hp => arunS P sm N stop ⟨x, .run, todo, tm, cs, n, hp⟩) l ⟨tm, s.n, hp, [⟨0, s.n, hp⟩], []⟩
      rcases hgone with ⟨st, vs, h0, hst, hK⟩ | ⟨c, ha⟩ | ha | ⟨y, s', ha⟩
      ·rw [← hK]
       obtain ⟨f1, f2, f3, f4, f5, f6, f7⟩ := hf2
       simp only at f1 f2 f3 f4 f5 f6 f7
       have step1 : step P (lone ⟨f, t, .code (.region id ops true) :: k', ds, .run, kd, r⟩ (cs' ++ CS) w) =
         .next (lone ⟨f, t, .inRegion ops (Region.schedule (P.follows .mixedOrders) ops (w.tape w.drawn (.order f id))) :: k', ds, .run, kd, r⟩ (cs' ++ CS) { w with drawn := w.drawn + 1 }) :=
        step_lone_go (by simp [stepG, stepG.exec, choose, Sem.run, Question.forced, Question.cut])
       rw [hP.2.2.1] at step1
       simp only [Region.schedule, Bool.true_or, if_true, Region.linearise] at step1
       have hno : ∀ j, ¬ (Array.replicate ops.size false).getD j false = true := by
        intro j
        by_cases hj : j < ops.size <;> simp [hj]
       have e0 : (st 0).n = s.n := by rw [h0]
       have e1 : (st 0).hp = hp := by rw [h0]
       have e2 : (st 0).tm = tm := by rw [h0]
       have e3 : (st 0).snaps = [⟨0, (st 0).n, (st 0).hp⟩] := by rw [h0]
       have e4 : (st 0).als = [] := by rw [h0]
       have hI : Inv P B e x.nt all l st vs 0 (fun j => (Array.replicate ops.size false).getD j false = true) e t { w with drawn := w.drawn + 1 } := by
        refine ⟨Nat.zero_le _, .inl rfl, fun q y _ hq => absurd hq (Nat.not_lt_zero _), fun q y _ _ hL => absurd hL (hno _), fun k y _ hL => absurd hL (hno _), ?_, f2.size, fun q y d _ hL => absurd hL (hno _), fun d hd _ => ?_, fun q y _ hL => absurd hL (hno _), fun q q' y y' _ hL => absurd hL (hno _), Ext.refl _ _⟩
        ·rw [e0, e1]; exact hw2.same rfl rfl rfl rfl
        ·rw [e0, e2]; exact f2.rel d hd
       have hrun : RunOk P e.m (arunS P sm N false) := by
        intro s3 v3 n3 hp3 h3 B3 e3 w3 fr3 cs3 CS3 hm3 hl3 hw3 hf3 hc3
        have := ih false s3 B3 e3 w3 fr3 cs3 CS3 (hm3.trans hem) hl3 hw3 hf3 hc3
        rw [h3] at this
        exact this
       obtain ⟨e5, w5, t5, s5, x5, hw5, ht5⟩ := sched hpl hor hst hok f2.le (by rw [e0]; exact hw2.nmax) e3 e4 (by rw [e1]) hP (by rw [hem]; exact hsm) hrun hl (fn := f) (k := k') (ds := ds) (kd := kd) (r := r) (cs := cs' ++ CS) ops.size (w.tape w.drawn (.order f id)) (Array.replicate ops.size false) 0 e t _ (by simp) hI (by
        have : (List.range ops.size).countP (fun i => (Array.replicate ops.size false).getD i false) = 0 := by
         rw [List.countP_eq_zero]
         intro j _
         exact hno j
        omega)
       rw [e0] at x5
       have step2 : step P (lone ⟨f, t5, .inRegion ops [] :: k', ds, .run, kd, r⟩ (cs' ++ CS) w5) = .next (lone ⟨f, t5, k', ds, .run, kd, r⟩ (cs' ++ CS) w5) :=
        step_lone_go (by simp [stepG, stepG.exec])
       have := ih stop ⟨x, .run, todo, (st l.length).tm, cs, (st l.length).n, (st l.length).hp⟩ B e5 w5 ⟨f, t5, k', ds, .run, kd, r⟩ cs' CS (x5.m.trans hem) hl hw5 ⟨f1, ht5, f3.mono x5, f4.mono x5, f5.mono x5, f6, f7.mono x5⟩ (hcs2.mono x5)
       rw [← hb]
       exact this.trans (.head step1 (s5.trans (.one step2))) x5
      ·rw [ha]
       exact ⟨e, w, _, cs', Ext.refl _ _, hw, hf, hcs, rfl, .refl _ _⟩
      ·rw [ha]; exact trivial
      ·rw [ha]; exact trivial
     ·exact trivial
end
end Go.Gz
