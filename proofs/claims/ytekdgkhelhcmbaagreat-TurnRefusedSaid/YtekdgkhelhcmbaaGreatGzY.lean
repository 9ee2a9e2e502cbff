/- The evaluator that the kernel runs: regions that draw, part 6: what may write; any order; runs. -/
import Derived.Test.YtekdgkhelhcmbaaGreatGzX
import Derived.Orders
namespace Go.Gz
open Go Go.Gx Go.RowKit

/-- What is known of calls holds. -/
def SmOk (P : Program) (sm : Sm) (m : Mu) : Prop :=
  ∀ (f : FuncId) (args : List Value) (n : Nat) (hp : Hp) (v : Value) (n' : Nat) (hp' : Hp), sm f args n hp = .ans v n' hp' → (bodyOf P f).isSome = true ∧
    ∀ (B : Base) (e : Env) (w : World) (args' : List Value), e.m = m → B.lt = true → WR P B e n hp w → RL e n args args' →
      Calls P f args'.toArray w fun o w' => ∃ e' v', o = .returned v' ∧ Ext e n e' n' ∧ WR P B e' n' hp' w' ∧ RV e' n' v v'

/-- What a run comes to is what the machine comes to. -/
def RunOk (P : Program) (m : Mu) (rec : S → Ans) : Prop :=
  ∀ (s : S) (v : Value) (n' : Nat) (hp' : Hp), rec s = .ok v n' hp' → ∀ (B : Base) (e : Env) (w : World) (fr : Frame) (cs' CS : List Frame), e.m = m → B.lt = true → WR P B e s.n s.hp w → RF e s.n ⟨s.x, s.mode, s.todo, s.tm⟩ fr → RFs e s.n s.cs cs' →
    ∃ e' w' v', Ext e s.n e' n' ∧ WR P B e' n' hp' w' ∧ RV e' n' v v' ∧ (∀ c CS', CS = c :: CS' → Steps P (lone fr (cs' ++ CS) w) (lone (c.finish v') CS' w')) ∧
      ((bot s.x s.cs).1 = none → ∃ fr1, Steps P (lone fr (cs' ++ CS) w) (lone fr1 CS w') ∧ fr1.fn = (bot s.x s.cs).2 ∧ fr1.leaving P w' (.returned v'))
/-- Where it stops the machine comes to. -/
def StopOk (P : Program) (m : Mu) (rec : S → Ans) : Prop :=
  ∀ (s s' : S), (rec s = .stop s' ∨ ∃ c, rec s = .need c s') → ∀ (B : Base) (e : Env) (w : World) (fr : Frame) (cs' CS : List Frame), e.m = m → B.lt = true → WR P B e s.n s.hp w → RF e s.n ⟨s.x, s.mode, s.todo, s.tm⟩ fr → RFs e s.n s.cs cs' →
    ∃ e' w' fr' cs2, Ext e s.n e' s'.n ∧ WR P B e' s'.n s'.hp w' ∧ RF e' s'.n ⟨s'.x, s'.mode, s'.todo, s'.tm⟩ fr' ∧ RFs e' s'.n s'.cs cs2 ∧ bot s'.x s'.cs = bot s.x s.cs ∧ Steps P (lone fr (cs' ++ CS) w) (lone fr' (cs2 ++ CS) w')

theorem finish_region {f : FuncId} {t : Array Value} {ops : Array Oper} {i : Nat} {rest : List Nat} {k : List Item} {ds : List Deferred} {kd : CallKind} {r : Option Nat} {o : Oper} (ho : ops[i]? = some o) (v : Value) :
    (⟨f, t, .inRegion ops (i :: rest) :: k, ds, .run, kd, r⟩ : Frame).finish v = ⟨f, putT t o.dst v, .inRegion ops rest :: k, ds, .run, kd, r⟩ := by
  cases hd : o.dst <;> simp [Frame.finish, ho, hd, putT]

section
variable {P : Program} {sm : Sm} {rec : S → Ans} {kb : AObj} {ops : Array Oper} {all l : List DO} (hpl : Plan ops all) (hor : Order ops all l) {st : Nat → St} {vs : Nat → Value} (hst : ∀ (q : Nat) (y : DO), l[q]? = some y → StepOk P sm rec kb ops.toList y (st q) (vs q) (st (q + 1)))
  {nt : Nat} (hok : opsOk nt ops.toList = true) (h512 : nt ≤ 512) (hn0 : (st 0).n ≤ 32767) (hs0 : (st 0).snaps = [⟨0, (st 0).n, (st 0).hp⟩]) (ha0 : (st 0).als = []) (hk0 : (st 0).hp.get 32767 = kb)
  {B : Base} {e0 e : Env} {Q : Nat} {L : Nat → Prop} {t : Array Value} {w : World}
  {fn : FuncId} {k : List Item} {ds : List Deferred} {kd : CallKind} {r : Option Nat} {cs : List Frame} {rest : List Nat}
variable (hP : Small P)

include hP in
/-- An operation that may write. -/
theorem heavy_res {m : Mu} (hsm : SmOk P sm m) (hrec : RunOk P m rec) {s : St} {v : Value} {n' : Nat} {hp' : Hp} {o : Oper} {i : Nat} (ho : ops[i]? = some o) (hem : e.m = m) (hl : B.lt = true) (hw : WR P B e s.n s.hp w) (hkb : s.hp.get 32767 = kb) (hr : HRes P sm rec kb o s v n' hp')
    (hwt : Region.wanted o (yielded ops t) = true) (hopd : ∀ y ∈ o.op.operands.toList, RV e s.n (ev s.tm y) (evx t.toList y)) :
    ∃ e1 w' v', Steps P (lone ⟨fn, t, .inRegion ops (i :: rest) :: k, ds, .run, kd, r⟩ cs w) (lone ⟨fn, putT t o.dst v', .inRegion ops rest :: k, ds, .run, kd, r⟩ cs w') ∧ Ext e s.n e1 n' ∧ WR P B e1 n' hp' w' ∧ RV e1 n' v v' := by
  have e1 : evx t.toList = (⟨t, []⟩ : Act).eval := by
    have := eval_evx t.toList
    simpa using this.symm
  have hs := aop_sound hP (tm := s.tm) (fr := t.toList) (o := o) hw hopd
  rw [e1] at hs
  have put : ∀ {e1 : Env} {n1 : Nat} {hp1 : Hp} {w1 : World}, e1.m = m → WR P B e1 n1 hp1 w1 → WR P B e1 n1 (hp1.set 32767 kb) w1 := fun he h1 => h1.kb fun c b hc => by
    rw [dec_kb (hp := s.hp) (by rw [hkb]; exact hp_set_same _ _ (by omega) _)] at hc
    rw [he, ← hem]; exact hw.fk c b hc
  have hnd : r = none ∨ ∀ c, o.op ≠ .defer c := by
    right
    intro c hc
    unfold HRes at hr
    rw [hc] at hr
    have e2 : (aopW (.defer c)).f P s.tm s.n s.hp = aDefer c P s.tm s.n s.hp := rfl
    rw [e2] at hr
    unfold aDefer at hr
    split at hr
    · rename_i h1
      split at h1
      · split at h1 <;> cases h1
      · cases h1
    · rename_i h1
      split at h1
      · split at h1 <;> cases h1
      · cases h1
    · rename_i h1
      split at h1
      · split at h1 <;> cases h1
      · cases h1
    · rename_i h1
      split at h1
      · split at h1 <;> cases h1
      · cases h1
    · rename_i h1
      split at h1
      · split at h1 <;> cases h1
      · cases h1
    · exact hr
  unfold HRes at hr
  split at hr
  · rename_i u hu
    obtain ⟨rfl, rfl, rfl⟩ := hr
    rw [hu] at hs
    obtain ⟨v', h1, h2⟩ := hs
    exact ⟨e, w, v', .one (op_value ho hwt hnd (.inl h1)), Ext.refl _ _, hw, h2⟩
  · rename_i u hp2 hu
    obtain ⟨rfl, rfl, rfl⟩ := hr
    rw [hu] at hs
    obtain ⟨v', w', h1, h2, h3⟩ := hs
    exact ⟨e, w', v', .one (op_value ho hwt hnd h1), Ext.refl _ _, put hem h3, h2⟩
  · rename_i u hp2 ob hu
    obtain ⟨rfl, hn, rfl, rfl⟩ := hr
    rw [hu] at hs
    obtain ⟨v', w', q, tt, h1, h2, h3⟩ := hs hn
    exact ⟨e.add s.n q tt, w', v', .one (op_value ho hwt hnd (.inl h1)), e.ext _ _ _, put hem h3, h2⟩
  · rename_i g args hu
    obtain ⟨hp1, rfl, _, _, hr⟩ := hr
    rw [hu] at hs
    rcases hr with hsmr | ⟨_, fr2, he, hrun⟩
    · obtain ⟨hbody, hc⟩ := hsm _ _ _ _ _ _ _ hsmr
      obtain ⟨args', h1, h2⟩ := hs hbody
      obtain ⟨E, w', fr1, ⟨e', v', rfl, g1, g2, g3⟩, g4, _, g5⟩ := hc B e w args' hem hl hw h2 (⟨fn, t, .inRegion ops (i :: rest) :: k, ds, .run, kd, r⟩ :: cs)
      have := step_leave_returned g5 (c := ⟨fn, t, .inRegion ops (i :: rest) :: k, ds, .run, kd, r⟩) (cs := cs)
      rw [finish_region ho] at this
      exact ⟨e', w', v', .head (op_enter ho hwt hnd h1) (Steps.trans g4 (.one this)), g1, put (g1.m.trans hem) g2, g3⟩
    · have hbody : (bodyOf P g).isSome = true := by
        unfold enterF at he
        split at he
        · rename_i c nt hb2; rw [hb2]; rfl
        · cases he
      obtain ⟨args', h1, h2⟩ := hs hbody
      obtain ⟨h3, _⟩ := enter_rel hP he h2
      obtain ⟨e', w', v', g1, g2, g3, g4, _⟩ := hrec _ _ _ _ hrun B e w _ [] (⟨fn, t, .inRegion ops (i :: rest) :: k, ds, .run, kd, r⟩ :: cs) hem hl hw h3 .nil
      have := g4 _ _ rfl
      rw [finish_region ho] at this
      exact ⟨e', w', v', .head (op_enter ho hwt hnd h1) this, g1, put (g1.m.trans hem) g2, g3⟩
  · rename_i lp args hu
    obtain ⟨fr2, hp1, rfl, he, hrun, _⟩ := hr
    rw [hu] at hs
    obtain ⟨args', h1, h2, h3⟩ := hs
    obtain ⟨g, tmps, a, c, h4, h5, _⟩ := round_rel hw h3 he h2
    rw [h4] at h1
    obtain ⟨e', w', v', g1, g2, g3, g4, _⟩ := hrec _ _ _ _ hrun B e w _ [] (⟨fn, t, .inRegion ops (i :: rest) :: k, ds, .run, kd, r⟩ :: cs) hem hl hw h5 .nil
    have := g4 _ _ rfl
    rw [finish_region ho] at this
    exact ⟨e', w', v', .head (op_round ho hwt hnd h1) this, g1, put (g1.m.trans hem) g2, g3⟩
  · exact hr.elim

include hpl hor hst hok h512 hn0 hs0 ha0 hk0 hP in
theorem heavy_step (hsm : SmOk P sm e0.m) (hrec : RunOk P e0.m rec) (hl : B.lt = true) (hI : Inv P B e0 nt all l st vs Q L e t w) {q : Nat} {x : DO} (hx : l[q]? = some x) (hLn : ¬ L x.i) (hm : ∀ j, x.m.testBit j = true → j = x.i ∨ L j) (hh : heavy x.o.op = true) :
    ∃ e' w' t', Steps P (lone ⟨fn, t, .inRegion ops (x.i :: rest) :: k, ds, .run, kd, r⟩ cs w) (lone ⟨fn, t', .inRegion ops rest :: k, ds, .run, kd, r⟩ cs w') ∧
      Inv P B e0 nt all l st vs (q + 1) (fun j => L j ∨ j = x.i) e' t' w' := by
  have hat := hor.at_ hpl hx
  have hql : q < l.length := (List.getElem?_eq_some_iff.1 hx).1
  have hQq : Q ≤ q := by
    rcases Nat.lt_or_ge q Q with h | h
    · exact absurd (hI.lo q x hx h) hLn
    · exact h
  have hpre : ∀ (q' : Nat) (y : DO), l[q']? = some y → q' < q → L y.i := by
    intro q' y hy hq
    rcases hm _ ((hor.hv q x hx hh y.i).2 (.inr ⟨q', hq, y, hy, rfl⟩)) with h | h
    · have := (hor.inj hpl hy hx h).1; omega
    · exact h
  obtain ⟨hwq, hfar⟩ := merge hst hI q hQq (by omega) hpre
  have hem : e.m = e0.m := hI.ext.m
  have hkq := kb_at hst hn0 hk0 (q := q) (by omega)
  have hfk : ∀ c b, decH (st q).hp c = some b → den e.m c = some (.bool b) := hwq.fk
  have hopd := look_opds hpl hor hst hok h512 hI hx hm
  have hself := hwq.self hl
  have hs := hst q x hx
  have core : ∃ e1 w' v', Steps P (lone ⟨fn, t, .inRegion ops (x.i :: rest) :: k, ds, .run, kd, r⟩ cs w) (lone ⟨fn, putT t x.o.dst v', .inRegion ops rest :: k, ds, .run, kd, r⟩ cs w') ∧
      Ext e (st q).n e1 (st (q + 1)).n ∧ WR P ⟨w, (st q).n, e.β, true⟩ e1 (st (q + 1)).n (st (q + 1)).hp w' ∧ RV e1 (st (q + 1)).n (vs q) v' := by
    rcases hs.how with ⟨hw, hv, g1, g2, _⟩ | ⟨hw, _, hr, _⟩ | ⟨_, hh2, _⟩ | ⟨_, hh2, _⟩
    · have hwt := look_wanted hpl hor hst hok h512 hI hx hm hfk hw
      refine ⟨e, w, undef, .one (step_skip' hat.1 hwt), ?_, ?_, by rw [hv]; exact .plain _ rfl⟩
      · rw [g1]; exact Ext.refl _ _
      · rw [g1, g2]; exact hself
    · have hwt := look_wanted hpl hor hst hok h512 hI hx hm hfk hw
      exact heavy_res hP hsm hrec hat.1 hem rfl hself hkq hr hwt hopd
    · rw [hh] at hh2; cases hh2
    · rw [hh] at hh2; cases hh2
  obtain ⟨e1, w', v', hsteps, hext, hw1, hv1⟩ := core
  have hnn : (st q).n ≤ (st (q + 1)).n := hext.le
  have hlow : (st Q).n ≤ (st q).n := n_mono hst hQq (by omega)
  -- where what came early lies stays
  let e2 : Env := ⟨fun j => if j < (st (q + 1)).n then e1.β j else e.β j, fun j => if j < (st (q + 1)).n then e1.tot j else e.tot j, e.m⟩
  have hm21 : e2.m = e1.m := hext.m.symm
  have h21 : ∀ j, j < (st (q + 1)).n → e2.β j = e1.β j ∧ e2.tot j = e1.tot j := by
    intro j hj; exact ⟨if_pos hj, if_pos hj⟩
  have h20 : ∀ j, (j < (st q).n ∨ (st (q + 1)).n ≤ j) → e2.β j = e.β j ∧ e2.tot j = e.tot j := by
    intro j hj
    rcases hj with hj | hj
    · rw [(h21 j (by omega)).1, (h21 j (by omega)).2]
      exact ⟨hext.β j hj, hext.tot j hj⟩
    · exact ⟨if_neg (by omega), if_neg (by omega)⟩
  have hre : ∀ j, Known l st Q L j → e2.β j = e.β j ∧ e2.tot j = e.tot j := by
    rintro j (hj | ⟨q', y, hy, hL, hn, rfl⟩)
    · exact h20 j (.inl (by omega))
    · have hq'l : q' < l.length := (List.getElem?_eq_some_iff.1 hy).1
      rcases Nat.lt_trichotomy q' q with h | h | h
      · exact h20 _ (.inl (new_lt hst hn h (by omega)))
      · rw [h] at hy; rw [hx] at hy; cases hy; exact absurd hL hLn
      · exact h20 _ (.inr (n_mono hst h (by omega)))
  have hzero : ∀ j, j < (st 0).n → e2.β j = e.β j ∧ e2.tot j = e.tot j := fun j hj => h20 j (.inl (by have := n_mono hst (Nat.zero_le q) (by omega); omega))
  have later : ∀ (q' : Nat) (y : DO), l[q']? = some y → (L y.i ∨ y.i = x.i) → q + 1 ≤ q' → L y.i ∧ (st (q + 1)).n ≤ (st q').n := by
    intro q' y hy hL hq
    have hq'l : q' < l.length := (List.getElem?_eq_some_iff.1 hy).1
    refine ⟨?_, n_mono hst hq (by omega)⟩
    rcases hL with hL | hL
    · exact hL
    · have := (hor.inj hpl hy hx hL).1; omega
  refine ⟨e2, w', _, hsteps, ?_⟩
  refine ⟨by omega, .inr ⟨q, x, rfl, hx, hh⟩, ?_, ?_, down_put hpl hor hI hx hm, ?_, by rw [putT_size]; exact hI.size, slots_put hpl hor hok hI hx hLn (hv1.mono ⟨Nat.le_refl _, fun j hj => (h21 j hj).1, fun j hj => (h21 j hj).2, hm21⟩) (fun q' y u hy hL h => val_re hpl hor hst hs0 ha0 hI (e' := e2) rfl hre hy hL h), rest_put hI hx (e' := e2) rfl hzero, ?_, ?_, ?_⟩
  · intro q' y hy hq
    rcases Nat.lt_or_ge q' q with h | h
    · exact .inl (hpre q' y hy h)
    · have : q' = q := by omega
      rw [this, hx] at hy; cases hy; exact .inr rfl
  · intro q' y hy hq hL
    exact hI.hi q' y hy (by omega) (later q' y hy hL hq).1
  · exact (hwq.into hw1).env h21 hm21
  · intro q' y hy hL hq hn
    obtain ⟨hL, hge⟩ := later q' y hy hL hq
    obtain ⟨ob, o', b1, b2, b3, b4, b5, b6⟩ := hI.blk q' y hy hL (by omega) hn
    have hb := (h20 (st q').n (.inr hge)).1
    rw [hb]
    have hfar' := hfar q' y hy hL (by omega) hn
    have hlt : e.β (st q').n < w.heap.size := (Array.getElem?_eq_some_iff.1 b2).1
    refine ⟨ob, o', b1, ?_, obj_re hpl hor hst hs0 ha0 hI (e' := e2) rfl hre hy hL (by omega) hn b1 b3, b4, fun j hj => ?_, b6⟩
    · rw [hw1.old _ hlt fun i hi => hfar' i hi]; exact b2
    · rw [(h21 j hj).1]
      rcases Nat.lt_or_ge j (st q).n with h | h
      · rw [hext.β j h]; exact hfar' j h
      · rcases hw1.fresh j h hj with h1 | ⟨i, hi, h1⟩
        · have h1 : w.heap.size ≤ e1.β j := h1
          omega
        · rw [h1]; exact hfar' i hi
  · intro q1 q2 y1 y2 h1 h2 h3 h4 h5 h6 h7 h8 h9
    obtain ⟨k1, k2⟩ := later q1 y1 h1 h2 h3
    obtain ⟨k3, k4⟩ := later q2 y2 h5 h6 h7
    rw [(h20 _ (.inr k2)).1, (h20 _ (.inr k4)).1]
    exact hI.apart q1 q2 y1 y2 h1 k1 (by omega) h4 h5 k3 (by omega) h8 h9
  · exact hI.ext.trans ⟨Nat.le_refl _, fun j hj => (hzero j hj).1, fun j hj => (hzero j hj).2, rfl⟩

include hpl hor hst hok h512 in
theorem all_done (hI : Inv P B e0 nt all l st vs Q L e t w) (hall : ∀ (q : Nat) (x : DO), l[q]? = some x → L x.i) :
    Ext e0 (st 0).n e (st l.length).n ∧ WR P B e (st l.length).n (st l.length).hp w ∧ RTm e (st l.length).n nt (st l.length).tm t := by
  have hmono : (st 0).n ≤ (st l.length).n := n_mono hst (Nat.zero_le _) (Nat.le_refl _)
  refine ⟨hI.ext.trans ⟨hmono, fun _ _ => rfl, fun _ _ => rfl, rfl⟩, (merge hst hI l.length hI.hQ (Nat.le_refl _) fun q x hx _ => hall q x hx).1, hI.size, h512, fun d hd => ?_⟩
  by_cases h : ∃ a ∈ l, a.o.dst = some d
  · obtain ⟨a, ha, had⟩ := h
    obtain ⟨q', ha⟩ := List.mem_iff_getElem?.1 ha
    have hql : q' < l.length := (List.getElem?_eq_some_iff.1 ha).1
    rw [slot_done hpl hor hst hok h512 ha had l.length hql (Nat.le_refl _)]
    exact (hI.slots q' a d ha (hall q' a ha) had).mono ⟨n_mono hst hql (Nat.le_refl _), fun _ _ => rfl, fun _ _ => rfl, rfl⟩
  · have h : ∀ x ∈ l, x.o.dst ≠ some d := fun a ha had => h ⟨a, ha, had⟩
    rw [slot_rest hpl hor hst hok h512 hd h l.length (Nat.le_refl _)]
    exact (hI.rest d hd h).mono ⟨hmono, fun _ _ => rfl, fun _ _ => rfl, rfl⟩

theorem ready_iff {listed : Array Bool} {i : Nat} (h : i ∈ Region.ready .any ops listed) : i < ops.size ∧ listed.getD i true = false ∧ ∀ o, ops[i]? = some o → ∀ ed ∈ o.after.toList, bindsA ed.ground = true → listed.getD ed.on false = true := by
  unfold Region.ready at h
  simp only [List.mem_filter, List.mem_range, Bool.and_eq_true, Bool.not_eq_true'] at h
  obtain ⟨h1, h2, h3⟩ := h
  refine ⟨h1, h2, fun o ho ed hed hb => ?_⟩
  rw [ho] at h3
  simp only [Option.map_some, Option.getD_some, Array.all_eq_true'] at h3
  have := h3 ed (by simpa using hed)
  rw [bindsA_eq, hb] at this
  simpa using this

include hpl hor hst hok h512 hn0 hs0 ha0 hk0 hP in
/-- Any order. -/
theorem sched (hsm : SmOk P sm e0.m) (hrec : RunOk P e0.m rec) (hl : B.lt = true) : ∀ (fuel tt : Nat) (listed : Array Bool) (Q : Nat) (e : Env) (t : Array Value) (w : World), listed.size = ops.size → Inv P B e0 nt all l st vs Q (fun j => listed.getD j false = true) e t w →
    (List.range ops.size).countP (fun i => listed.getD i false) + fuel = ops.size →
    ∃ e' w' t', Steps P (lone ⟨fn, t, .inRegion ops (Region.linearise.go .any ops fuel tt listed []) :: k, ds, .run, kd, r⟩ cs w) (lone ⟨fn, t', .inRegion ops [] :: k, ds, .run, kd, r⟩ cs w') ∧
      Ext e0 (st 0).n e' (st l.length).n ∧ WR P B e' (st l.length).n (st l.length).hp w' ∧ RTm e' (st l.length).n nt (st l.length).tm t' := by
  intro fuel
  induction fuel with
  | zero =>
    intro tt listed Q e t w hsz hI hc
    refine ⟨e, w, t, .refl _ _, all_done hpl hor hst hok h512 hI fun q x hx => ?_⟩
    have hlt : x.i < ops.size := (Array.getElem?_eq_some_iff.1 (hor.at_ hpl hx).1).1
    have : (List.range ops.size).countP (fun i => listed.getD i false) = (List.range ops.size).length := by simpa using hc
    exact List.countP_eq_length.1 this x.i (by simpa using hlt)
  | succ fuel ih =>
    intro tt listed Q e t w hsz hI hc
    simp only [Region.linearise.go]
    change ∃ e' w' t', Steps P (lone ⟨fn, t, .inRegion ops (match (Region.ready .any ops listed)[tt % (Region.ready .any ops listed).length]? with
      | some i => Region.linearise.go .any ops fuel (tt / (Region.ready .any ops listed).length) (listed.setIfInBounds i true) [i]
      | none => [].reverse) :: k, ds, .run, kd, r⟩ cs w) _ ∧ _
    cases hi : (Region.ready .any ops listed)[tt % (Region.ready .any ops listed).length]? with
    | none =>
      have hnil : Region.ready .any ops listed = [] := by
        cases hr : Region.ready .any ops listed with
        | nil => rfl
        | cons x xs =>
          rw [hr] at hi
          have hlt : tt % (x :: xs).length < (x :: xs).length := Nat.mod_lt _ (by simp)
          simp at hi
          simp at hlt
          omega
      refine ⟨e, w, t, .refl _ _, all_done hpl hor hst hok h512 hI ?_⟩
      intro q
      induction q using Nat.strongRecOn with
      | ind q ihq =>
        intro x hx
        have hat := hor.at_ hpl hx
        have hlt : x.i < ops.size := (Array.getElem?_eq_some_iff.1 hat.1).1
        apply Classical.byContradiction
        intro hno
        have : x.i ∈ Region.ready .any ops listed := by
          unfold Region.ready
          simp only [List.mem_filter, List.mem_range, Bool.and_eq_true, Bool.not_eq_true']
          refine ⟨hlt, ?_, ?_⟩
          · have hlt2 : x.i < listed.size := by omega
            simp [Array.getD, hlt2] at hno ⊢
            exact hno
          · rw [hat.1]
            simp only [Option.map_some, Option.getD_some, Array.all_eq_true']
            intro ed hed
            rw [bindsA_eq]
            cases hb : bindsA ed.ground with
            | false => rfl
            | true =>
              have hon := edgesLt_lt x.i _ (hor.lt q x hx) ed (by simpa using hed) hb
              have hbit := hpl.sup x.i x hat.2.2 ed (by simpa using hed) hb hon
              rcases hor.any q x hx _ hbit with h | ⟨q', hq', y, hy, hyi⟩
              · omega
              · have := ihq q' hq' y hy
                rw [hyi] at this
                simpa using this
        rw [hnil] at this
        simp at this
    | some i =>
      simp only []
      rw [linearise_go_acc, List.reverse_singleton, List.singleton_append]
      obtain ⟨h1, h2, h3⟩ := ready_iff (List.mem_of_getElem? hi)
      obtain ⟨q, x, hx, hxi⟩ := hor.full i h1
      subst hxi
      have hat := hor.at_ hpl hx
      have hlt2 : x.i < listed.size := by omega
      have hLn : ¬ listed.getD x.i false = true := by
        simp [Array.getD, hlt2] at h2 ⊢
        exact h2
      have hm : ∀ j, x.m.testBit j = true → j = x.i ∨ listed.getD j false = true := by
        intro j hj
        rcases hpl.sub x.i x hat.2.2 (hor.lt q x hx) j hj with h | ⟨ed, hed, hb, y, hy, hyj⟩
        · exact .inl h
        · exact .inr (hI.down _ y hy (h3 x.o hat.1 ed hed hb) j hyj)
      have hL2 : (fun j => (listed.setIfInBounds x.i true).getD j false = true) = (fun j => listed.getD j false = true ∨ j = x.i) := by
        funext j
        apply propext
        by_cases hj : x.i = j
        · subst hj; simp [hlt2]
        · simp [Array.getElem?_setIfInBounds_ne hj, Ne.symm hj]
      have hc2 : (List.range ops.size).countP (fun i => (listed.setIfInBounds x.i true).getD i false) + fuel = ops.size := by
        have key : ∀ (m : Nat), (List.range m).countP (fun i => (listed.setIfInBounds x.i true).getD i false) = (List.range m).countP (fun i => listed.getD i false) + (if x.i < m then 1 else 0) := by
          intro m
          induction m with
          | zero => simp
          | succ m ihm =>
            rw [List.range_succ, List.countP_append, List.countP_append, ihm]
            by_cases hj : x.i = m
            · subst hj
              have a1 : (listed.setIfInBounds x.i true).getD x.i false = true := by simp [hlt2]
              have a2 : listed.getD x.i false = false := by simpa using hLn
              simp only [List.countP_cons, List.countP_nil, a1, a2, if_pos (Nat.lt_succ_self x.i)]
              rw [if_neg (Nat.lt_irrefl _)]
              simp
            · have a1 : (listed.setIfInBounds x.i true).getD m false = listed.getD m false := by simp [Array.getElem?_setIfInBounds_ne hj]
              have a3 : (x.i < m + 1) = (x.i < m) := by apply propext; omega
              simp only [List.countP_cons, List.countP_nil, a1, a3]
              omega
        rw [key, if_pos h1]; omega
      cases hh : heavy x.o.op with
      | false =>
        obtain ⟨e', w', t', s1, hI'⟩ := light_step hpl hor hst hok h512 hn0 hs0 ha0 hk0 hP hl hI hx hLn hm hh (fn := fn) (k := k) (ds := ds) (kd := kd) (r := r) (cs := cs) (rest := Region.linearise.go .any ops fuel (tt / (Region.ready .any ops listed).length) (listed.setIfInBounds x.i true) [])
        rw [← hL2] at hI'
        obtain ⟨e3, w3, t3, s3, r3⟩ := ih (tt / (Region.ready .any ops listed).length) (listed.setIfInBounds x.i true) _ e' t' w' (by simpa using hsz) hI' hc2
        exact ⟨e3, w3, t3, .head s1 s3, r3⟩
      | true =>
        obtain ⟨e', w', t', s1, hI'⟩ := heavy_step hpl hor hst hok h512 hn0 hs0 ha0 hk0 hP hsm hrec hl hI hx hLn hm hh (fn := fn) (k := k) (ds := ds) (kd := kd) (r := r) (cs := cs) (rest := Region.linearise.go .any ops fuel (tt / (Region.ready .any ops listed).length) (listed.setIfInBounds x.i true) [])
        rw [← hL2] at hI'
        obtain ⟨e3, w3, t3, s3, r3⟩ := ih (tt / (Region.ready .any ops listed).length) (listed.setIfInBounds x.i true) _ e' t' w' (by simpa using hsz) hI' hc2
        exact ⟨e3, w3, t3, s1.trans s3, r3⟩
end
end Go.Gz
