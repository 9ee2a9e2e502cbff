/- The evaluator that the kernel runs: regions that draw, part 3: what the run in the region's own order went through. -/
import Derived.Test.YthjfikbldncciaaGreatGyU
namespace Go.Gy
open Go Go.Gx Go.RowKit

structure St where
  tm : Tm
  n : Nat
  hp : Hp
  snaps : List Snap
  als : List (Nat × Nat)

/-- What an operation that may write came to. -/
def HRes (P : Program) (rec : S → Ans) (o : Oper) (s : St) (v : Value) (n' : Nat) (hp' : Hp) : Prop :=
  match (aopW o.op).f P s.tm s.n s.hp with
  | .val u => v = u ∧ n' = s.n ∧ hp' = s.hp
  | .mem u h => v = u ∧ n' = s.n ∧ hp' = h
  | .new u h ob => v = u ∧ s.n < 32768 ∧ n' = s.n + 1 ∧ hp' = h.set s.n ob
  | .enter f args => ∃ fr, enterF P f args .normal = some fr ∧ rec ⟨fr.x, fr.mode, fr.todo, fr.tm, [], s.n, s.hp⟩ = .ok v n' hp' ∧ s.n ≤ n' ∧ n' ≤ 32768
  | .rnd l args => ∃ fr, roundF s.hp l args = some fr ∧ rec ⟨fr.x, fr.mode, fr.todo, fr.tm, [], s.n, s.hp⟩ = .ok v n' hp' ∧ s.n ≤ n' ∧ n' ≤ 32768
  | _ => False

/-- One operation of the run. -/
structure StepOk (P : Program) (rec : S → Ans) (all : List Oper) (x : DO) (s : St) (v : Value) (s' : St) : Prop where
  tm : s'.tm = putx s.tm x.o.dst v
  snaps : s'.snaps = if heavy x.o.op = true then ⟨x.b, s'.n, s'.hp⟩ :: s.snaps else s.snaps
  how : (wantedA all s.tm x.o = false ∧ v = undef ∧ s'.n = s.n ∧ s'.hp = s.hp ∧ s'.als = s.als) ∨
    (wantedA all s.tm x.o = true ∧ heavy x.o.op = true ∧ HRes P rec x.o s v s'.n s'.hp ∧ s'.als = s.als) ∨
    (wantedA all s.tm x.o = true ∧ heavy x.o.op = false ∧ (aopW x.o.op).f P s.tm s.n s.hp = .val v ∧ lightOk P x.o x.m s.tm s.n v none s.snaps s.als = true ∧ s'.n = s.n ∧ s'.hp = s.hp ∧ s'.als = s.als) ∨
    (wantedA all s.tm x.o = true ∧ heavy x.o.op = false ∧ newOp x.o.op = true ∧ ∃ hp0 ob, (aopW x.o.op).f P s.tm s.n s.hp = .new v hp0 ob ∧ lightOk P x.o x.m s.tm s.n v (some ob) s.snaps ((x.b, s.n) :: s.als) = true ∧
      s.n < 32768 ∧ s'.n = s.n + 1 ∧ s'.hp = s.hp.set s.n ob ∧ s'.als = (x.b, s.n) :: s.als)

theorem trace_cons {P : Program} {rec : S → Ans} {all : List Oper} {x : DO} {r : List DO} {s s' : St} {u : Value} (h : StepOk P rec all x s u s') {K : Tm → Nat → Hp → Ans} {v : Value} {n : Nat} {hp : Hp}
    (ih : ∃ (st : Nat → St) (vs : Nat → Value), st 0 = s' ∧ (∀ (q : Nat) (y : DO), r[q]? = some y → StepOk P rec all y (st q) (vs q) (st (q + 1))) ∧ K (st r.length).tm (st r.length).n (st r.length).hp = .ok v n hp) :
    ∃ (st : Nat → St) (vs : Nat → Value), st 0 = s ∧ (∀ (q : Nat) (y : DO), (x :: r)[q]? = some y → StepOk P rec all y (st q) (vs q) (st (q + 1))) ∧ K (st (x :: r).length).tm (st (x :: r).length).n (st (x :: r).length).hp = .ok v n hp := by
  obtain ⟨st, vs, h0, h1, h2⟩ := ih
  refine ⟨fun q => Nat.casesOn q s st, fun q => Nat.casesOn q u vs, rfl, fun q y hy => ?_, h2⟩
  cases q with
  | zero =>
    simp at hy; subst hy
    show StepOk P rec all x s u (st 0)
    rw [h0]; exact h
  | succ q => exact h1 q y (by simpa using hy)

theorem drawRun_trace {P : Program} {rec : S → Ans} {all : List Oper} {K : Tm → Nat → Hp → Ans} {v : Value} {n : Nat} {hp : Hp} : ∀ (l : List DO) (s : St), drawRun P rec all l s.tm s.n s.hp s.snaps s.als K = .ok v n hp →
    ∃ (st : Nat → St) (vs : Nat → Value), st 0 = s ∧ (∀ (q : Nat) (y : DO), l[q]? = some y → StepOk P rec all y (st q) (vs q) (st (q + 1))) ∧ K (st l.length).tm (st l.length).n (st l.length).hp = .ok v n hp
  | [], s, h => ⟨fun _ => s, fun _ => undef, rfl, fun q y hy => by simp at hy, h⟩
  | ⟨i, b, m, o⟩ :: r, s, h => by
    have ih := fun s' => drawRun_trace (P := P) (rec := rec) (all := all) (K := K) (v := v) (n := n) (hp := hp) r s'
    unfold drawRun at h
    rw [cnd_ite] at h
    split at h
    · rename_i hh
      rw [cnd_ite] at h
      split at h
      · rename_i hw
        have fin : ∀ (u : Value) (n' : Nat) (hp' : Hp), HRes P rec o s u n' hp' → drawRun P rec all r (putx s.tm o.dst u) n' hp' (⟨b, n', hp'⟩ :: s.snaps) s.als K = .ok v n hp → _ :=
          fun u n' hp' hr h => trace_cons (x := ⟨i, b, m, o⟩) (s' := ⟨putx s.tm o.dst u, n', hp', ⟨b, n', hp'⟩ :: s.snaps, s.als⟩) ⟨rfl, (if_pos hh).symm, .inr (.inl ⟨hw, hh, hr, rfl⟩)⟩ (ih _ h)
        split at h
        · rename_i u hu
          exact fin u s.n s.hp (by unfold HRes; rw [hu]; exact ⟨rfl, rfl, rfl⟩) h
        · rename_i u hp' hu
          exact fin u s.n hp' (by unfold HRes; rw [hu]; exact ⟨rfl, rfl, rfl⟩) h
        · rename_i u hp' ob hu
          rw [cnd_ite] at h
          split at h
          · rename_i hn
            exact fin u (s.n + 1) (hp'.set s.n ob) (by unfold HRes; rw [hu]; exact ⟨rfl, blt_lt hn, rfl, rfl⟩) h
          · cases h
        · rename_i f args hu
          split at h
          · rename_i x mode todo tm' he
            split at h
            · rename_i u n' hp' hr
              rw [cnd_ite] at h
              split at h
              · rename_i hn
                obtain ⟨h1, h2⟩ := and_split hn
                exact fin u n' hp' (by unfold HRes; rw [hu]; exact ⟨_, he, hr, ble_le h1, ble_le h2⟩) h
              · cases h
            · rename_i hno
              exact absurd h (hno _ _ _)
          · cases h
        · rename_i l args hu
          split at h
          · rename_i x mode todo tm' he
            split at h
            · rename_i u n' hp' hr
              rw [cnd_ite] at h
              split at h
              · rename_i hn
                obtain ⟨h1, h2⟩ := and_split hn
                exact fin u n' hp' (by unfold HRes; rw [hu]; exact ⟨_, he, hr, ble_le h1, ble_le h2⟩) h
              · cases h
            · rename_i hno
              exact absurd h (hno _ _ _)
          · cases h
        · cases h
      · rename_i hw
        exact trace_cons (x := ⟨i, b, m, o⟩) (s' := ⟨putx s.tm o.dst undef, s.n, s.hp, ⟨b, s.n, s.hp⟩ :: s.snaps, s.als⟩) ⟨rfl, (if_pos hh).symm, .inl ⟨by simpa using hw, rfl, rfl, rfl, rfl⟩⟩ (ih _ h)
    · rename_i hh
      have hh' : heavy o.op = false := by simpa using hh
      rw [cnd_ite] at h
      split at h
      · rename_i hw
        split at h
        · rename_i u hu
          rw [cnd_ite] at h
          split at h
          · rename_i hl
            exact trace_cons (x := ⟨i, b, m, o⟩) (s' := ⟨putx s.tm o.dst u, s.n, s.hp, s.snaps, s.als⟩) ⟨rfl, (if_neg hh).symm, .inr (.inr (.inl ⟨hw, hh', hu, hl, rfl, rfl, rfl⟩))⟩ (ih _ h)
          · cases h
        · rename_i u hp' ob hu
          rw [cnd_ite] at h
          split at h
          · rename_i hn
            obtain ⟨hn1, hn2⟩ := and_split hn
            rw [cnd_ite] at h
            split at h
            · rename_i hl
              exact trace_cons (x := ⟨i, b, m, o⟩) (s' := ⟨putx s.tm o.dst u, s.n + 1, s.hp.set s.n ob, s.snaps, (b, s.n) :: s.als⟩) ⟨rfl, (if_neg hh).symm, .inr (.inr (.inr ⟨hw, hh', hn2, _, ob, hu, hl, blt_lt hn1, rfl, rfl, rfl⟩))⟩ (ih _ h)
            · cases h
          · cases h
        · cases h
      · rename_i hw
        exact trace_cons (x := ⟨i, b, m, o⟩) (s' := ⟨putx s.tm o.dst undef, s.n, s.hp, s.snaps, s.als⟩) ⟨rfl, (if_neg hh).symm, .inl ⟨by simpa using hw, rfl, rfl, rfl, rfl⟩⟩ (ih _ h)

theorem land_bit {m i : Nat} : (Nat.beq (Nat.land m (2 ^ i)) (2 ^ i) = true) ↔ m.testBit i = true := by
  constructor
  · intro h
    have h : m &&& 2 ^ i = 2 ^ i := beq_eq h
    have := congrArg (·.testBit i) h
    simp only [Nat.testBit_and, Nat.testBit_two_pow, decide_true, Bool.and_true] at this
    exact this
  · intro h
    have key : m &&& 2 ^ i = 2 ^ i := ?_
    · show Nat.beq (m &&& 2 ^ i) (2 ^ i) = true
      rw [key]; exact Nat.beq_refl _
    apply Nat.eq_of_testBit_eq
    intro k
    rw [Nat.testBit_and, Nat.testBit_two_pow]
    by_cases hk : i = k
    · subst hk; simp [h]
    · simp [hk]

section
variable {P : Program} {rec : S → Ans} {ops : Array Oper} {all l : List DO} (hpl : Plan ops all) (hor : Order ops all l) {st : Nat → St} {vs : Nat → Value} (hst : ∀ (q : Nat) (y : DO), l[q]? = some y → StepOk P rec ops.toList y (st q) (vs q) (st (q + 1)))
  {nt : Nat} (hok : opsOk nt ops.toList = true) (h512 : nt ≤ 512) (hn0 : (st 0).n ≤ 32768) (hs0 : (st 0).snaps = [⟨0, (st 0).n, (st 0).hp⟩]) (ha0 : (st 0).als = [])

include hpl hor in
theorem Order.at_ {q : Nat} {x : DO} (hx : l[q]? = some x) : ops[x.i]? = some x.o ∧ x.b = 2 ^ x.i ∧ all[x.i]? = some x := by
  obtain ⟨k, hk⟩ := List.mem_iff_getElem?.1 (hor.mem x (List.mem_of_getElem? hx))
  obtain ⟨h1, h2, h3⟩ := hpl.at_ k x hk
  rw [h1]; exact ⟨h2, h3, hk⟩
include hpl hor in
theorem Order.inj {q q' : Nat} {x y : DO} (hx : l[q]? = some x) (hy : l[q']? = some y) (h : x.i = y.i) : q = q' ∧ x = y := by
  have h1 := (hor.at_ hpl hx).2.2
  have h2 := (hor.at_ hpl hy).2.2
  rw [h, h2] at h1
  cases h1
  refine ⟨?_, rfl⟩
  rcases Nat.lt_trichotomy q q' with h3 | h3 | h3
  · exact absurd ⟨q, h3, _, hx, rfl⟩ (hor.new q' _ hy)
  · exact h3
  · exact absurd ⟨q', h3, _, hy, rfl⟩ (hor.new q _ hx)

include hst in
theorem n_step {q : Nat} {x : DO} (hx : l[q]? = some x) : (st q).n ≤ (st (q + 1)).n := by
  have h := hst q x hx
  rcases h.how with ⟨_, _, h, _⟩ | ⟨_, _, h, _⟩ | ⟨_, _, _, _, h, _⟩ | ⟨_, _, _, _, _, _, _, _, h, _⟩
  · omega
  · unfold HRes at h
    split at h
    · omega
    · omega
    · omega
    · obtain ⟨_, _, _, h, _⟩ := h; exact h
    · obtain ⟨_, _, _, h, _⟩ := h; exact h
    · exact h.elim
  · omega
  · omega
include hst in
theorem n_mono {q q' : Nat} (h : q ≤ q') (hq : q' ≤ l.length) : (st q).n ≤ (st q').n := by
  induction q' with
  | zero => rw [Nat.le_zero.1 h]; exact Nat.le_refl _
  | succ k ih =>
    rcases Nat.lt_or_ge q (k + 1) with h1 | h1
    · have hk : k < l.length := by omega
      exact Nat.le_trans (ih (by omega) (by omega)) (n_step hst (List.getElem?_eq_getElem hk))
    · rw [Nat.le_antisymm h h1]; exact Nat.le_refl _
include hst hn0 in
theorem n_max {q : Nat} (hq : q ≤ l.length) : (st q).n ≤ 32768 := by
  induction q with
  | zero => exact hn0
  | succ k ih =>
    have hk : k < l.length := by omega
    have ih := ih (by omega)
    have h := hst k _ (List.getElem?_eq_getElem hk)
    rcases h.how with ⟨_, _, h, _⟩ | ⟨_, _, h, _⟩ | ⟨_, _, _, _, h, _⟩ | ⟨_, _, _, _, _, _, _, _, h, _⟩
    · omega
    · unfold HRes at h
      split at h
      · omega
      · omega
      · omega
      · obtain ⟨_, _, _, _, h⟩ := h; exact h
      · obtain ⟨_, _, _, _, h⟩ := h; exact h
      · exact h.elim
    · omega
    · omega

/-- Just behind an operation that may write, or at the start. -/
def Phase (l : List DO) (Q : Nat) : Prop := Q = 0 ∨ ∃ (q : Nat) (x : DO), Q = q + 1 ∧ l[q]? = some x ∧ heavy x.o.op = true

include hpl hor hst hs0 in
theorem snap_spec (f : Hp → Bool) (mk np : Nat) : ∀ (q : Nat), q ≤ l.length → snapGo f mk (st q).snaps = some np → (∃ Q, Q ≤ q ∧ np = (st Q).n) ∧
    ∀ Q, Q ≤ q → Phase l Q → (∀ (q' : Nat) (x : DO), l[q']? = some x → q' < q → heavy x.o.op = true → mk.testBit x.i = true → q' < Q) → f (st Q).hp = true ∧ np ≤ (st Q).n
  | 0, _, h => by
    rw [hs0] at h
    unfold snapGo at h
    rw [cnd_ite] at h
    split at h
    · rename_i hf
      rw [cnd_ite] at h
      split at h
      · cases h
        refine ⟨⟨0, Nat.le_refl _, rfl⟩, fun Q hQ _ _ => ?_⟩
        rw [Nat.le_zero.1 hQ]; exact ⟨hf, Nat.le_refl _⟩
      · simp [snapGo] at h
    · cases h
  | q + 1, hq, h => by
    have hql : q < l.length := by omega
    have hx := List.getElem?_eq_getElem hql
    generalize l[q] = x at hx
    have hs := hst q x hx
    have ih := snap_spec f mk np q (by omega)
    rw [hs.snaps] at h
    split at h
    · rename_i hh
      unfold snapGo at h
      rw [cnd_ite] at h
      split at h
      · rename_i hf
        rw [cnd_ite, (hor.at_ hpl hx).2.1] at h
        split at h
        · rename_i hb
          cases h
          refine ⟨⟨q + 1, Nat.le_refl _, rfl⟩, fun Q hQ _ hall => ?_⟩
          have := hall q x hx (by omega) hh (land_bit.1 hb)
          rw [show Q = q + 1 by omega]
          exact ⟨hf, Nat.le_refl _⟩
        · rename_i hb
          obtain ⟨⟨Q0, hQ0, hnp⟩, h2⟩ := ih h
          refine ⟨⟨Q0, by omega, hnp⟩, fun Q hQ hph hall => ?_⟩
          by_cases hQq : Q = q + 1
          · rw [hQq]
            exact ⟨hf, by rw [hnp]; exact n_mono hst (by omega) hq⟩
          · exact h2 Q (by omega) hph fun q' y hy hy' => hall q' y hy (by omega)
      · cases h
    · rename_i hh
      obtain ⟨⟨Q0, hQ0, hnp⟩, h2⟩ := ih h
      refine ⟨⟨Q0, by omega, hnp⟩, fun Q hQ hph hall => ?_⟩
      by_cases hQq : Q = q + 1
      · exfalso
        rcases hph with h0 | ⟨q2, y, h3, h4, h5⟩
        · omega
        · have : q2 = q := by omega
          subst this
          rw [hx] at h4; cases h4
          exact hh h5
      · exact h2 Q (by omega) hph fun q' y hy hy' => hall q' y hy (by omega)

/-- A new block comes up here. -/
def NewAt (st : Nat → St) (l : List DO) (q : Nat) : Prop := ∃ x : DO, l[q]? = some x ∧ heavy x.o.op = false ∧ (st (q + 1)).n = (st q).n + 1

include hst in
theorem new_lt {q q' : Nat} (h : NewAt st l q) (hq : q < q') (hq' : q' ≤ l.length) : (st q).n < (st q').n := by
  obtain ⟨x, _, _, h3⟩ := h
  have := n_mono hst (q := q + 1) (q' := q') hq hq'
  omega
include hst in
theorem new_inj {q q' : Nat} (h : NewAt st l q) (h' : NewAt st l q') (he : (st q).n = (st q').n) : q = q' := by
  have l1 : q < l.length := by obtain ⟨x, hx, _⟩ := h; exact (List.getElem?_eq_some_iff.1 hx).1
  have l2 : q' < l.length := by obtain ⟨x, hx, _⟩ := h'; exact (List.getElem?_eq_some_iff.1 hx).1
  rcases Nat.lt_trichotomy q q' with h3 | h3 | h3
  · have := new_lt hst h h3 (by omega); omega
  · exact h3
  · have := new_lt hst h' h3 (by omega); omega

include hpl hor hst ha0 in
theorem als_spec (mk j : Nat) : ∀ (q : Nat), q ≤ l.length → alsHas mk j (st q).als = true → ∃ (q' : Nat) (x : DO), q' < q ∧ l[q']? = some x ∧ NewAt st l q' ∧ (st q').n = j ∧ mk.testBit x.i = true
  | 0, _, h => by rw [ha0] at h; cases h
  | q + 1, hq, h => by
    have hql : q < l.length := by omega
    have hx := List.getElem?_eq_getElem hql
    generalize l[q] = x at hx
    have hs := hst q x hx
    have ih : alsHas mk j (st q).als = true → _ := als_spec mk j q (by omega)
    have go : alsHas mk j (st q).als = true → ∃ (q' : Nat) (x : DO), q' < q + 1 ∧ l[q']? = some x ∧ NewAt st l q' ∧ (st q').n = j ∧ mk.testBit x.i = true := by
      intro h
      obtain ⟨q', y, h1, h2⟩ := ih h
      exact ⟨q', y, by omega, h2⟩
    rcases hs.how with ⟨_, _, _, _, h5⟩ | ⟨_, _, _, h5⟩ | ⟨_, _, _, _, _, _, h5⟩ | ⟨_, hh, _, _, _, _, _, _, h3, _, h5⟩
    · rw [h5] at h; exact go h
    · rw [h5] at h; exact go h
    · rw [h5] at h; exact go h
    · rw [h5] at h
      unfold alsHas at h
      rw [cnd_ite] at h
      split at h
      · rename_i hj
        rw [(hor.at_ hpl hx).2.1] at h
        exact ⟨q, x, by omega, hx, ⟨x, hx, hh, h3⟩, beq_eq hj, land_bit.1 h⟩
      · exact go h
end
end Go.Gy
