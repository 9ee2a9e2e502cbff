/- The evaluator that the kernel runs: regions that draw, part 3: what the run in the region's own order went through. -/
import Derived.Test.YtekdgkhelhcmbaaGreatGzU
namespace Go.Gz
open Go Go.Gx Go.RowKit

structure St where
  tm : Tm
  n : Nat
  hp : Hp
  snaps : List Snap
  als : List (Nat × Nat)

/-- What an operation that may write came to. -/
def HRes (P : Program) (sm : Sm) (rec : S → Ans) (kb : AObj) (o : Oper) (s : St) (v : Value) (n' : Nat) (hp' : Hp) : Prop :=
  match (aopW o.op).f P s.tm s.n s.hp with
  | .val u => v = u ∧ n' = s.n ∧ hp' = s.hp
  | .mem u h => v = u ∧ n' = s.n ∧ hp' = h.set 32767 kb
  | .new u h ob => v = u ∧ s.n < 32767 ∧ n' = s.n + 1 ∧ hp' = (h.set s.n ob).set 32767 kb
  | .enter f args => ∃ hp1, hp' = hp1.set 32767 kb ∧ s.n ≤ n' ∧ n' ≤ 32767 ∧ (sm f args s.n s.hp = .ans v n' hp1 ∨ (sm f args s.n s.hp = .no ∧ ∃ fr, enterF P f args .normal = some fr ∧ rec ⟨fr.x, fr.mode, fr.todo, fr.tm, [], s.n, s.hp⟩ = .ok v n' hp1))
  | .rnd l args => ∃ fr hp1, hp' = hp1.set 32767 kb ∧ roundF s.hp l args = some fr ∧ rec ⟨fr.x, fr.mode, fr.todo, fr.tm, [], s.n, s.hp⟩ = .ok v n' hp1 ∧ s.n ≤ n' ∧ n' ≤ 32767
  | _ => False

/-- One operation of the run. -/
structure StepOk (P : Program) (sm : Sm) (rec : S → Ans) (kb : AObj) (all : List Oper) (x : DO) (s : St) (v : Value) (s' : St) : Prop where
  tm : s'.tm = putx s.tm x.o.dst v
  snaps : s'.snaps = if heavy x.o.op = true then ⟨x.b, s'.n, s'.hp⟩ :: s.snaps else s.snaps
  how : (wantedA all s.tm s.hp x.o = some false ∧ v = undef ∧ s'.n = s.n ∧ s'.hp = s.hp ∧ s'.als = s.als) ∨
    (wantedA all s.tm s.hp x.o = some true ∧ heavy x.o.op = true ∧ HRes P sm rec kb x.o s v s'.n s'.hp ∧ s'.als = s.als) ∨
    (wantedA all s.tm s.hp x.o = some true ∧ heavy x.o.op = false ∧ (aopW x.o.op).f P s.tm s.n s.hp = .val v ∧ lightOk P x.o x.m s.tm s.n v none s.snaps s.als = true ∧ s'.n = s.n ∧ s'.hp = s.hp ∧ s'.als = s.als) ∨
    (wantedA all s.tm s.hp x.o = some true ∧ heavy x.o.op = false ∧ newOp x.o.op = true ∧ ∃ hp0 ob, (aopW x.o.op).f P s.tm s.n s.hp = .new v hp0 ob ∧ lightOk P x.o x.m s.tm s.n v (some ob) s.snaps ((x.b, s.n) :: s.als) = true ∧
      s.n < 32767 ∧ s'.n = s.n + 1 ∧ s'.hp = s.hp.set s.n ob ∧ s'.als = (x.b, s.n) :: s.als)

/-- What it comes to: it goes through, asks (then it begins anew), or is not gone through. -/
def Gone (P : Program) (sm : Sm) (rec : S → Ans) (s0 : S) (kb : AObj) (all : List Oper) (l : List DO) (s : St) (K : Tm → Nat → Hp → Ans) (a : Ans) : Prop :=
  (∃ (st : Nat → St) (vs : Nat → Value), st 0 = s ∧ (∀ (q : Nat) (y : DO), l[q]? = some y → StepOk P sm rec kb all y (st q) (vs q) (st (q + 1))) ∧ K (st l.length).tm (st l.length).n (st l.length).hp = a) ∨
    (∃ c, a = .need c s0) ∨ a = .out ∨ ∃ y s', a = .bad y s'

theorem gone_cons {P : Program} {sm : Sm} {rec : S → Ans} {s0 : S} {kb : AObj} {all : List Oper} {x : DO} {r : List DO} {s s' : St} {u : Value} (h : StepOk P sm rec kb all x s u s') {K : Tm → Nat → Hp → Ans} {a : Ans}
    (ih : Gone P sm rec s0 kb all r s' K a) : Gone P sm rec s0 kb all (x :: r) s K a := by
  rcases ih with ⟨st, vs, h0, h1, h2⟩ | ih
  · refine .inl ⟨fun q => Nat.casesOn q s st, fun q => Nat.casesOn q u vs, rfl, fun q y hy => ?_, h2⟩
    cases q with
    | zero =>
      simp at hy; subst hy
      show StepOk P sm rec kb all x s u (st 0)
      rw [h0]; exact h
    | succ q => exact h1 q y (by simpa using hy)
  · exact .inr ih

theorem drawRun_trace {P : Program} {sm : Sm} {rec : S → Ans} {s0 : S} {kb : AObj} {all : List Oper} {K : Tm → Nat → Hp → Ans} : ∀ (l : List DO) (s : St), Gone P sm rec s0 kb all l s K (drawRun P sm rec s0 kb all l s.tm s.n s.hp s.snaps s.als K)
  | [], s => .inl ⟨fun _ => s, fun _ => undef, rfl, fun q y hy => by simp at hy, rfl⟩
  | ⟨i, b, m, o⟩ :: r, s => by
    have ih := fun s' => drawRun_trace (P := P) (sm := sm) (rec := rec) (s0 := s0) (kb := kb) (all := all) (K := K) r s'
    unfold drawRun
    rw [cnd_ite]
    split
    · rename_i hh
      cases hw : wantedA all s.tm s.hp o with
      | none => exact .inr (.inl ⟨_, rfl⟩)
      | some bw =>
      cases bw with
      | true =>
        simp only
        have fin : ∀ (u : Value) (n' : Nat) (hp' : Hp), HRes P sm rec kb o s u n' hp' → Gone P sm rec s0 kb all (⟨i, b, m, o⟩ :: r) s K (drawRun P sm rec s0 kb all r (putx s.tm o.dst u) n' hp' (⟨b, n', hp'⟩ :: s.snaps) s.als K) :=
          fun u n' hp' hr => gone_cons (x := ⟨i, b, m, o⟩) (s' := ⟨putx s.tm o.dst u, n', hp', ⟨b, n', hp'⟩ :: s.snaps, s.als⟩) ⟨rfl, (if_pos hh).symm, .inr (.inl ⟨hw, hh, hr, rfl⟩)⟩ (ih _)
        split
        · rename_i u hu
          exact fin u s.n s.hp (by unfold HRes; rw [hu]; exact ⟨rfl, rfl, rfl⟩)
        · rename_i u hp' hu
          exact fin u s.n _ (by unfold HRes; rw [hu]; exact ⟨rfl, rfl, rfl⟩)
        · rename_i u hp' ob hu
          rw [cnd_ite]
          split
          · rename_i hn
            exact fin u (s.n + 1) _ (by unfold HRes; rw [hu]; exact ⟨rfl, blt_lt hn, rfl, rfl⟩)
          · exact .inr (.inr (.inl rfl))
        · rename_i f args hu
          split
          · exact .inr (.inl ⟨_, rfl⟩)
          · rename_i u n' hp1 hsm
            rw [cnd_ite]
            split
            · rename_i hn
              obtain ⟨h1, h2⟩ := and_split hn
              exact fin u n' _ (by unfold HRes; rw [hu]; exact ⟨hp1, rfl, ble_le h1, ble_le h2, .inl hsm⟩)
            · exact .inr (.inr (.inl rfl))
          · rename_i hsm
            split
            · rename_i x mode todo tm' he
              cases hr : rec ⟨x, mode, todo, tm', [], s.n, s.hp⟩ with
              | ok u n' hp1 =>
                simp only [inner]
                rw [cnd_ite]
                split
                · rename_i hn
                  obtain ⟨h1, h2⟩ := and_split hn
                  exact fin u n' _ (by unfold HRes; rw [hu]; exact ⟨hp1, rfl, ble_le h1, ble_le h2, .inr ⟨hsm, _, he, hr⟩⟩)
                · exact .inr (.inr (.inl rfl))
              | need c s2 => exact .inr (.inl ⟨c, rfl⟩)
              | bad y s2 => exact .inr (.inr (.inr ⟨_, _, rfl⟩))
              | stop s2 => exact .inr (.inr (.inl rfl))
              | out => exact .inr (.inr (.inl rfl))
            · exact .inr (.inr (.inl rfl))
        · rename_i l args hu
          split
          · rename_i x mode todo tm' he
            cases hr : rec ⟨x, mode, todo, tm', [], s.n, s.hp⟩ with
            | ok u n' hp1 =>
              simp only [inner]
              rw [cnd_ite]
              split
              · rename_i hn
                obtain ⟨h1, h2⟩ := and_split hn
                exact fin u n' _ (by unfold HRes; rw [hu]; exact ⟨_, hp1, rfl, he, hr, ble_le h1, ble_le h2⟩)
              · exact .inr (.inr (.inl rfl))
            | need c s2 => exact .inr (.inl ⟨c, rfl⟩)
            | bad y s2 => exact .inr (.inr (.inr ⟨_, _, rfl⟩))
            | stop s2 => exact .inr (.inr (.inl rfl))
            | out => exact .inr (.inr (.inl rfl))
          · exact .inr (.inr (.inl rfl))
        · exact .inr (.inl ⟨_, rfl⟩)
        · exact .inr (.inr (.inr ⟨_, _, rfl⟩))
      | false =>
        exact gone_cons (x := ⟨i, b, m, o⟩) (s' := ⟨putx s.tm o.dst undef, s.n, s.hp, ⟨b, s.n, s.hp⟩ :: s.snaps, s.als⟩) ⟨rfl, (if_pos hh).symm, .inl ⟨hw, rfl, rfl, rfl, rfl⟩⟩ (ih _)
    · rename_i hh
      have hh' : heavy o.op = false := by simpa using hh
      cases hw : wantedA all s.tm s.hp o with
      | none => exact .inr (.inl ⟨_, rfl⟩)
      | some bw =>
      cases bw with
      | true =>
        simp only
        split
        · rename_i u hu
          rw [cnd_ite]
          split
          · rename_i hl
            exact gone_cons (x := ⟨i, b, m, o⟩) (s' := ⟨putx s.tm o.dst u, s.n, s.hp, s.snaps, s.als⟩) ⟨rfl, (if_neg hh).symm, .inr (.inr (.inl ⟨hw, hh', hu, hl, rfl, rfl, rfl⟩))⟩ (ih _)
          · exact .inr (.inr (.inr ⟨_, _, rfl⟩))
        · rename_i u hp' ob hu
          rw [cnd_ite]
          split
          · rename_i hn
            obtain ⟨hn1, hn2⟩ := and_split hn
            rw [cnd_ite]
            split
            · rename_i hl
              exact gone_cons (x := ⟨i, b, m, o⟩) (s' := ⟨putx s.tm o.dst u, s.n + 1, s.hp.set s.n ob, s.snaps, (b, s.n) :: s.als⟩) ⟨rfl, (if_neg hh).symm, .inr (.inr (.inr ⟨hw, hh', hn2, _, ob, hu, hl, blt_lt hn1, rfl, rfl, rfl⟩))⟩ (ih _)
            · exact .inr (.inr (.inr ⟨_, _, rfl⟩))
          · exact .inr (.inr (.inl rfl))
        · exact .inr (.inl ⟨_, rfl⟩)
        · exact .inr (.inr (.inr ⟨_, _, rfl⟩))
      | false =>
        exact gone_cons (x := ⟨i, b, m, o⟩) (s' := ⟨putx s.tm o.dst undef, s.n, s.hp, s.snaps, s.als⟩) ⟨rfl, (if_neg hh).symm, .inl ⟨hw, rfl, rfl, rfl, rfl⟩⟩ (ih _)

theorem land_bit {m i : Nat} : (Nat.beq (Nat.land m (2 ^ i)) (2 ^ i) = true) ↔ m.testBit i = true := by
  constructor
  · intro h
    have h : m &&& 2 ^ i = 2 ^ i := beq_eq h
    have := congrArg (·.testBit i) h
    simp only [Nat.testBit_and, Nat.testBit_two_pow, decide_true, Bool.and_true] at this
    exact this
  · intro h
    have key : m &&& 2 ^ i = 2 ^ i := ?_
    · show Nat.beq (m &&& 2 ^ i) (2 ^ i) = true
      rw [key]; exact Nat.beq_refl _
    apply Nat.eq_of_testBit_eq
    intro k
    rw [Nat.testBit_and, Nat.testBit_two_pow]
    by_cases hk : i = k
    · subst hk; simp [h]
    · simp [hk]

section
variable {P : Program} {sm : Sm} {rec : S → Ans} {kb : AObj} {ops : Array Oper} {all l : List DO} (hpl : Plan ops all) (hor : Order ops all l) {st : Nat → St} {vs : Nat → Value} (hst : ∀ (q : Nat) (y : DO), l[q]? = some y → StepOk P sm rec kb ops.toList y (st q) (vs q) (st (q + 1)))
  {nt : Nat} (hok : opsOk nt ops.toList = true) (h512 : nt ≤ 512) (hn0 : (st 0).n ≤ 32767) (hs0 : (st 0).snaps = [⟨0, (st 0).n, (st 0).hp⟩]) (ha0 : (st 0).als = [])

include hpl hor in
theorem Order.at_ {q : Nat} {x : DO} (hx : l[q]? = some x) : ops[x.i]? = some x.o ∧ x.b = 2 ^ x.i ∧ all[x.i]? = some x := by
  obtain ⟨k, hk⟩ := List.mem_iff_getElem?.1 (hor.mem x (List.mem_of_getElem? hx))
  obtain ⟨h1, h2, h3⟩ := hpl.at_ k x hk
  rw [h1]; exact ⟨h2, h3, hk⟩
include hpl hor in
theorem Order.inj {q q' : Nat} {x y : DO} (hx : l[q]? = some x) (hy : l[q']? = some y) (h : x.i = y.i) : q = q' ∧ x = y := by
  have h1 := (hor.at_ hpl hx).2.2
  have h2 := (hor.at_ hpl hy).2.2
  rw [h, h2] at h1
  cases h1
  refine ⟨?_, rfl⟩
  rcases Nat.lt_trichotomy q q' with h3 | h3 | h3
  · exact absurd ⟨q, h3, _, hx, rfl⟩ (hor.new q' _ hy)
  · exact h3
  · exact absurd ⟨q', h3, _, hy, rfl⟩ (hor.new q _ hx)

include hst in
theorem n_step {q : Nat} {x : DO} (hx : l[q]? = some x) : (st q).n ≤ (st (q + 1)).n := by
  have h := hst q x hx
  rcases h.how with ⟨_, _, h, _⟩ | ⟨_, _, h, _⟩ | ⟨_, _, _, _, h, _⟩ | ⟨_, _, _, _, _, _, _, _, h, _⟩
  · omega
  · unfold HRes at h
    split at h
    · omega
    · omega
    · omega
    · obtain ⟨_, _, h, _⟩ := h; exact h
    · obtain ⟨_, _, _, _, _, h, _⟩ := h; exact h
    · exact h.elim
  · omega
  · omega
include hst in
theorem n_mono {q q' : Nat} (h : q ≤ q') (hq : q' ≤ l.length) : (st q).n ≤ (st q').n := by
  induction q' with
  | zero => rw [Nat.le_zero.1 h]; exact Nat.le_refl _
  | succ k ih =>
    rcases Nat.lt_or_ge q (k + 1) with h1 | h1
    · have hk : k < l.length := by omega
      exact Nat.le_trans (ih (by omega) (by omega)) (n_step hst (List.getElem?_eq_getElem hk))
    · rw [Nat.le_antisymm h h1]; exact Nat.le_refl _
include hst hn0 in
theorem n_max {q : Nat} (hq : q ≤ l.length) : (st q).n ≤ 32767 := by
  induction q with
  | zero => exact hn0
  | succ k ih =>
    have hk : k < l.length := by omega
    have ih := ih (by omega)
    have h := hst k _ (List.getElem?_eq_getElem hk)
    rcases h.how with ⟨_, _, h, _⟩ | ⟨_, _, h, _⟩ | ⟨_, _, _, _, h, _⟩ | ⟨_, _, _, _, _, _, _, _, h, _⟩
    · omega
    · unfold HRes at h
      split at h
      · omega
      · omega
      · omega
      · obtain ⟨_, _, _, h, _⟩ := h; exact h
      · obtain ⟨_, _, _, _, _, _, h⟩ := h; exact h
      · exact h.elim
    · omega
    · omega

/-- What is known stays what is known. -/
theorem kb_step {x : DO} {s s' : St} {v : Value} (h : StepOk P sm rec kb ops.toList x s v s') (hs : s.hp.get 32767 = kb) (hn : s.n ≤ 32767) : s'.hp.get 32767 = kb := by
  rcases h.how with ⟨_, _, _, h, _⟩ | ⟨_, _, h, _⟩ | ⟨_, _, _, _, _, h, _⟩ | ⟨_, _, _, _, _, _, _, h1, _, h, _⟩
  · rw [h]; exact hs
  · unfold HRes at h
    split at h
    · rw [h.2.2]; exact hs
    · rw [h.2.2]; exact hp_set_same _ _ (by omega) _
    · rw [h.2.2.2]; exact hp_set_same _ _ (by omega) _
    · obtain ⟨_, h, _⟩ := h; rw [h]; exact hp_set_same _ _ (by omega) _
    · obtain ⟨_, _, h, _⟩ := h; rw [h]; exact hp_set_same _ _ (by omega) _
    · exact h.elim
  · rw [h]; exact hs
  · rw [h, hp_set_ne _ _ _ (by omega) (by omega) (by omega)]; exact hs
include hst hn0 in
theorem kb_at (hk0 : (st 0).hp.get 32767 = kb) {q : Nat} (hq : q ≤ l.length) : (st q).hp.get 32767 = kb := by
  induction q with
  | zero => exact hk0
  | succ k ih =>
    have hk : k < l.length := by omega
    exact kb_step (hst k _ (List.getElem?_eq_getElem hk)) (ih (by omega)) (n_max hst hn0 (by omega))

/-- Just behind an operation that may write, or at the start. -/
def Phase (l : List DO) (Q : Nat) : Prop := Q = 0 ∨ ∃ (q : Nat) (x : DO), Q = q + 1 ∧ l[q]? = some x ∧ heavy x.o.op = true

include hpl hor hst hs0 in
theorem snap_spec (f : Hp → Bool) (mk np : Nat) : ∀ (q : Nat), q ≤ l.length → snapGo f mk (st q).snaps = some np → (∃ Q, Q ≤ q ∧ np = (st Q).n) ∧
    ∀ Q, Q ≤ q → Phase l Q → (∀ (q' : Nat) (x : DO), l[q']? = some x → q' < q → heavy x.o.op = true → mk.testBit x.i = true → q' < Q) → f (st Q).hp = true ∧ np ≤ (st Q).n
  | 0, _, h => by
    rw [hs0] at h
    unfold snapGo at h
    rw [cnd_ite] at h
    split at h
    · rename_i hf
      rw [cnd_ite] at h
      split at h
      · cases h
        refine ⟨⟨0, Nat.le_refl _, rfl⟩, fun Q hQ _ _ => ?_⟩
        rw [Nat.le_zero.1 hQ]; exact ⟨hf, Nat.le_refl _⟩
      · simp [snapGo] at h
    · cases h
  | q + 1, hq, h => by
    have hql : q < l.length := by omega
    have hx := List.getElem?_eq_getElem hql
    generalize l[q] = x at hx
    have hs := hst q x hx
    have ih := snap_spec f mk np q (by omega)
    rw [hs.snaps] at h
    split at h
    · rename_i hh
      unfold snapGo at h
      rw [cnd_ite] at h
      split at h
      · rename_i hf
        rw [cnd_ite, (hor.at_ hpl hx).2.1] at h
        split at h
        · rename_i hb
          cases h
          refine ⟨⟨q + 1, Nat.le_refl _, rfl⟩, fun Q hQ _ hall => ?_⟩
          have := hall q x hx (by omega) hh (land_bit.1 hb)
          rw [show Q = q + 1 by omega]
          exact ⟨hf, Nat.le_refl _⟩
        · rename_i hb
          obtain ⟨⟨Q0, hQ0, hnp⟩, h2⟩ := ih h
          refine ⟨⟨Q0, by omega, hnp⟩, fun Q hQ hph hall => ?_⟩
          by_cases hQq : Q = q + 1
          · rw [hQq]
            exact ⟨hf, by rw [hnp]; exact n_mono hst (by omega) hq⟩
          · exact h2 Q (by omega) hph fun q' y hy hy' => hall q' y hy (by omega)
      · cases h
    · rename_i hh
      obtain ⟨⟨Q0, hQ0, hnp⟩, h2⟩ := ih h
      refine ⟨⟨Q0, by omega, hnp⟩, fun Q hQ hph hall => ?_⟩
      by_cases hQq : Q = q + 1
      · exfalso
        rcases hph with h0 | ⟨q2, y, h3, h4, h5⟩
        · omega
        · have : q2 = q := by omega
          subst this
          rw [hx] at h4; cases h4
          exact hh h5
      · exact h2 Q (by omega) hph fun q' y hy hy' => hall q' y hy (by omega)

/-- A new block comes up here. -/
def NewAt (st : Nat → St) (l : List DO) (q : Nat) : Prop := ∃ x : DO, l[q]? = some x ∧ heavy x.o.op = false ∧ (st (q + 1)).n = (st q).n + 1

include hst in
theorem new_lt {q q' : Nat} (h : NewAt st l q) (hq : q < q') (hq' : q' ≤ l.length) : (st q).n < (st q').n := by
  obtain ⟨x, _, _, h3⟩ := h
  have := n_mono hst (q := q + 1) (q' := q') hq hq'
  omega
include hst in
theorem new_inj {q q' : Nat} (h : NewAt st l q) (h' : NewAt st l q') (he : (st q).n = (st q').n) : q = q' := by
  have l1 : q < l.length := by obtain ⟨x, hx, _⟩ := h; exact (List.getElem?_eq_some_iff.1 hx).1
  have l2 : q' < l.length := by obtain ⟨x, hx, _⟩ := h'; exact (List.getElem?_eq_some_iff.1 hx).1
  rcases Nat.lt_trichotomy q q' with h3 | h3 | h3
  · have := new_lt hst h h3 (by omega); omega
  · exact h3
  · have := new_lt hst h' h3 (by omega); omega

include hpl hor hst ha0 in
theorem als_spec (mk j : Nat) : ∀ (q : Nat), q ≤ l.length → alsHas mk j (st q).als = true → ∃ (q' : Nat) (x : DO), q' < q ∧ l[q']? = some x ∧ NewAt st l q' ∧ (st q').n = j ∧ mk.testBit x.i = true
  | 0, _, h => by rw [ha0] at h; cases h
  | q + 1, hq, h => by
    have hql : q < l.length := by omega
    have hx := List.getElem?_eq_getElem hql
    generalize l[q] = x at hx
    have hs := hst q x hx
    have ih : alsHas mk j (st q).als = true → _ := als_spec mk j q (by omega)
    have go : alsHas mk j (st q).als = true → ∃ (q' : Nat) (x : DO), q' < q + 1 ∧ l[q']? = some x ∧ NewAt st l q' ∧ (st q').n = j ∧ mk.testBit x.i = true := by
      intro h
      obtain ⟨q', y, h1, h2⟩ := ih h
      exact ⟨q', y, by omega, h2⟩
    rcases hs.how with ⟨_, _, _, _, h5⟩ | ⟨_, _, _, h5⟩ | ⟨_, _, _, _, _, _, h5⟩ | ⟨_, hh, _, _, _, _, _, _, h3, _, h5⟩
    · rw [h5] at h; exact go h
    · rw [h5] at h; exact go h
    · rw [h5] at h; exact go h
    · rw [h5] at h
      unfold alsHas at h
      rw [cnd_ite] at h
      split at h
      · rename_i hj
        rw [(hor.at_ hpl hx).2.1] at h
        exact ⟨q, x, by omega, hx, ⟨x, hx, hh, h3⟩, beq_eq hj, land_bit.1 h⟩
      · exact go h
end
end Go.Gz
