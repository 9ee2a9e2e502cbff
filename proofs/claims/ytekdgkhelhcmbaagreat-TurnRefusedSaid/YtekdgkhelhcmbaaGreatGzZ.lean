/- The evaluator that the kernel runs: whole runs; calls. -/
import Derived.Test.YtekdgkhelhcmbaaGreatGzY
import Derived.Below
namespace Go.Gz
open Go Go.Gx Go.RowKit

/-- What a run from here comes to. -/
def Goes (P : Program) (B : Base) (e : Env) (n : Nat) (fr : Frame) (cs CS : List Frame) (w : World) (b : Option Nat × FuncId) : Ans → Prop
  | .ok v n' hp' => ∃ e' w' v', Ext e n e' n' ∧ WR P B e' n' hp' w' ∧ RV e' n' v v' ∧ (∀ c CS', CS = c :: CS' → Steps P (lone fr (cs ++ CS) w) (lone (c.finish v') CS' w')) ∧
      (b.1 = none → ∃ fr1, Steps P (lone fr (cs ++ CS) w) (lone fr1 CS w') ∧ fr1.fn = b.2 ∧ fr1.leaving P w' (.returned v'))
  | .need _ s' => ∃ e' w' fr' cs2, Ext e n e' s'.n ∧ WR P B e' s'.n s'.hp w' ∧ RF e' s'.n ⟨s'.x, s'.mode, s'.todo, s'.tm⟩ fr' ∧ RFs e' s'.n s'.cs cs2 ∧ bot s'.x s'.cs = b ∧ Steps P (lone fr (cs ++ CS) w) (lone fr' (cs2 ++ CS) w')
  | .stop s' => ∃ e' w' fr' cs2, Ext e n e' s'.n ∧ WR P B e' s'.n s'.hp w' ∧ RF e' s'.n ⟨s'.x, s'.mode, s'.todo, s'.tm⟩ fr' ∧ RFs e' s'.n s'.cs cs2 ∧ bot s'.x s'.cs = b ∧ Steps P (lone fr (cs ++ CS) w) (lone fr' (cs2 ++ CS) w')
  | .bad _ _ => True
  | .out => True

theorem Goes.trans {P : Program} {B : Base} {e e1 : Env} {n n1 : Nat} {fr fr1 : Frame} {cs cs1 CS : List Frame} {w w1 : World} {b : Option Nat × FuncId} {a : Ans}
    (hs : Steps P (lone fr (cs ++ CS) w) (lone fr1 (cs1 ++ CS) w1)) (hx : Ext e n e1 n1) (h : Goes P B e1 n1 fr1 cs1 CS w1 b a) : Goes P B e n fr cs CS w b a := by
  cases a with
  | ok v n' hp' =>
    obtain ⟨e', w', v', g1, g2, g3, g4, g5⟩ := h
    exact ⟨e', w', v', hx.trans g1, g2, g3, fun c CS' hc => hs.trans (g4 c CS' hc), fun hb => by obtain ⟨f1, g6, g7⟩ := g5 hb; exact ⟨f1, hs.trans g6, g7⟩⟩
  | need c s' =>
    obtain ⟨e', w', fr', cs2, g1, g2, g3, g4, g5, g6⟩ := h
    exact ⟨e', w', fr', cs2, hx.trans g1, g2, g3, g4, g5, hs.trans g6⟩
  | stop s' =>
    obtain ⟨e', w', fr', cs2, g1, g2, g3, g4, g5, g6⟩ := h
    exact ⟨e', w', fr', cs2, hx.trans g1, g2, g3, g4, g5, hs.trans g6⟩
  | bad => trivial
  | out => trivial

section
variable {P : Program} (hP : Small P) {sm : Sm} {m : Mu} (hsm : SmOk P sm m)
include hP hsm

theorem arun_goes : ∀ (N : Nat) (stop : Bool) (s : S) (B : Base) (e : Env) (w : World) (fr : Frame) (cs' CS : List Frame), e.m = m → B.lt = true → WR P B e s.n s.hp w → RF e s.n ⟨s.x, s.mode, s.todo, s.tm⟩ fr → RFs e s.n s.cs cs' →
    Goes P B e s.n fr cs' CS w (bot s.x s.cs) (arunS P sm N stop s) := by
  intro N
  induction N with
  | zero => intro stop s B e w fr cs' CS _ _ _ _ _; exact trivial
  | succ N ih =>
    intro stop s B e w fr cs' CS hem hl hw hf hcs
    show Goes P B e s.n fr cs' CS w (bot s.x s.cs) (onOut (astep P s) P sm (arunS P sm N) stop s)
    have hnx := step_sound hP (CS := CS) hw hf hcs rfl
    have go : ∀ s2, (∃ e' w' fr' cs2, step P (lone fr (cs' ++ CS) w) = .next (lone fr' (cs2 ++ CS) w') ∧ Ext e s.n e' s2.n ∧ WR P B e' s2.n s2.hp w' ∧ RF e' s2.n ⟨s2.x, s2.mode, s2.todo, s2.tm⟩ fr' ∧ RFs e' s2.n s2.cs cs2 ∧ bot s2.x s2.cs = bot s.x s.cs) →
        Goes P B e s.n fr cs' CS w (bot s.x s.cs) (arunS P sm N stop s2) := by
      rintro s2 ⟨e1, w1, fr1, cs1, s1, hx, hw1, hf1, hcs1, hb⟩
      have := ih stop s2 B e1 w1 fr1 cs1 CS (hx.m.trans hem) hl hw1 hf1 hcs1
      rw [hb] at this
      exact this.trans (.one s1) hx
    cases ho : astep P s with
    | go s2 =>
      rw [ho] at hnx
      exact go s2 hnx
    | head s2 =>
      rw [ho] at hnx
      show Goes P B e s.n fr cs' CS w (bot s.x s.cs) (cnd stop (.stop s2) (arunS P sm N stop s2))
      cases stop with
      | false => exact go s2 hnx
      | true =>
        obtain ⟨e1, w1, fr1, cs1, s1, hx, hw1, hf1, hcs1, hb⟩ := hnx
        exact ⟨e1, w1, fr1, cs1, hx, hw1, hf1, hcs1, hb, .one s1⟩
    | done v0 n0 hp0 =>
      rw [ho] at hnx
      obtain ⟨e1, w1, v1, hx, hw1, hv, hcn, g1, g2⟩ := hnx
      subst hcn
      refine ⟨e1, w1, v1, hx, hw1, hv, fun c CS' hc => ?_, fun hb => ?_⟩
      · exact .one (g1 c CS' hc)
      · obtain ⟨g3, g4, g5⟩ := g2 hb
        subst g5
        exact ⟨fr, .refl _ _, g3, g4⟩
    | need c s2 =>
      rw [ho] at hnx
      obtain ⟨hn, hw1, hf1, hcs1, hb⟩ := hnx
      refine ⟨e, w, fr, cs', ?_, ?_, ?_, ?_, hb, .refl _ _⟩
      · rw [hn]; exact Ext.refl _ _
      · rw [hn]; exact hw1
      · rw [hn]; exact hf1
      · rw [hn]; exact hcs1
    | bad y s2 => exact trivial
    | ent f args o x all rest k tm cs n hp =>
      rw [ho] at hnx
      obtain ⟨hn, hw1, hf1, hcs1, hb, hfin, hent⟩ := hnx
      subst hn
      show Goes P B e s.n fr cs' CS w (bot s.x s.cs) (match sm f args s.n hp with
        | .ask c => _
        | .ans v n' hp' => _
        | .no => _)
      split
      · exact ⟨e, w, fr, cs', Ext.refl _ _, hw1, hf1, hcs1, hb, .refl _ _⟩
      · rename_i v n' hp' hsmr
        rw [cnd_ite]
        split
        · obtain ⟨hbody, hc⟩ := hsm _ _ _ _ _ _ _ hsmr
          obtain ⟨args', h1, h2⟩ := hent hbody
          obtain ⟨E, w', fr1, ⟨e', v', rfl, g1, g2, g3⟩, g4, _, g5⟩ := hc B e w args' hem hl hw1 h1 (fr :: (cs' ++ CS))
          have h3 := step_leave_returned g5 (c := fr) (cs := cs' ++ CS)
          have hf2 := hfin e' n' v v' g1 g3
          have := ih stop ⟨x, .run, .ops all rest :: k, putx tm o.dst v, cs, n', hp'⟩ B e' w' (fr.finish v') cs' CS (g1.m.trans hem) hl g2 hf2 (hcs1.mono g1)
          rw [hb] at this
          exact this.trans (.head h2 (Steps.trans g4 (.one h3))) g1
        · exact trivial
      · split
        · rename_i x' mode todo tm' he
          have hbody : (bodyOf P f).isSome = true := by
            unfold enterF at he
            split at he
            · rename_i c nt hb2; rw [hb2]; rfl
            · cases he
          obtain ⟨args', h1, h2⟩ := hent hbody
          obtain ⟨h3, h4, _⟩ := enter_rel hP he h1
          refine go ⟨x', mode, todo, tm', ⟨x, .run, .ops all (o :: rest) :: k, tm⟩ :: cs, s.n, hp⟩ ⟨e, w, _, fr :: cs', by simpa using h2, Ext.refl _ _, hw1, h3, .cons _ _ _ _ hf1 hcs1, ?_⟩
          rw [← hb]; rfl
        · exact trivial
    | draw ops s2 =>
      rw [ho] at hnx
      obtain ⟨x, mode, todo, tm, cs, n, hp⟩ := s2
      obtain ⟨hm, hn, hok, hw2, hb, hcs2, id, k', htd, hmd, hf2⟩ := hnx
      simp only at hm hn hok hw2 hb hcs2 hf2
      subst hm hn
      obtain ⟨f, t, td, ds, md, kd, r⟩ := fr
      simp only at htd hmd hf2
      subst htd hmd
      show Goes P B e s.n _ cs' CS w (bot s.x s.cs) (drawStep P sm (arunS P sm N) stop ops ⟨x, .run, todo, tm, cs, s.n, hp⟩ s)
      unfold drawStep
      simp only
      split
      · rename_i l hplan
        obtain ⟨all, hpl, hor⟩ := planOf_order hplan
        have hgone := drawRun_trace (P := P) (sm := sm) (rec := arunS P sm N false) (s0 := s) (kb := hp.get 32767) (all := ops.toList) (K := fun tm n hp => arunS P sm N stop ⟨x, .run, todo, tm, cs, n, hp⟩) l ⟨tm, s.n, hp, [⟨0, s.n, hp⟩], []⟩
        rcases hgone with ⟨st, vs, h0, hst, hK⟩ | ⟨c, ha⟩ | ha | ⟨y, s', ha⟩
        · rw [← hK]
          obtain ⟨f1, f2, f3, f4, f5, f6, f7⟩ := hf2
          simp only at f1 f2 f3 f4 f5 f6 f7
          have step1 : step P (lone ⟨f, t, .code (.region id ops true) :: k', ds, .run, kd, r⟩ (cs' ++ CS) w) =
              .next (lone ⟨f, t, .inRegion ops (Region.schedule (P.follows .mixedOrders) ops (w.tape w.drawn (.order f id))) :: k', ds, .run, kd, r⟩ (cs' ++ CS) { w with drawn := w.drawn + 1 }) :=
            step_lone_go (by simp [stepG, stepG.exec, choose, Sem.run, Question.forced, Question.cut])
          rw [hP.2.2.1] at step1
          simp only [Region.schedule, Bool.true_or, if_true, Region.linearise] at step1
          have hno : ∀ j, ¬ (Array.replicate ops.size false).getD j false = true := by
            intro j
            by_cases hj : j < ops.size <;> simp [hj]
          have e0 : (st 0).n = s.n := by rw [h0]
          have e1 : (st 0).hp = hp := by rw [h0]
          have e2 : (st 0).tm = tm := by rw [h0]
          have e3 : (st 0).snaps = [⟨0, (st 0).n, (st 0).hp⟩] := by rw [h0]
          have e4 : (st 0).als = [] := by rw [h0]
          have hI : Inv P B e x.nt all l st vs 0 (fun j => (Array.replicate ops.size false).getD j false = true) e t { w with drawn := w.drawn + 1 } := by
            refine ⟨Nat.zero_le _, .inl rfl, fun q y _ hq => absurd hq (Nat.not_lt_zero _), fun q y _ _ hL => absurd hL (hno _), fun k y _ hL => absurd hL (hno _), ?_, f2.size, fun q y d _ hL => absurd hL (hno _), fun d hd _ => ?_, fun q y _ hL => absurd hL (hno _), fun q q' y y' _ hL => absurd hL (hno _), Ext.refl _ _⟩
            · rw [e0, e1]; exact hw2.same rfl rfl rfl rfl
            · rw [e0, e2]; exact f2.rel d hd
          have hrun : RunOk P e.m (arunS P sm N false) := by
            intro s3 v3 n3 hp3 h3 B3 e3 w3 fr3 cs3 CS3 hm3 hl3 hw3 hf3 hc3
            have := ih false s3 B3 e3 w3 fr3 cs3 CS3 (hm3.trans hem) hl3 hw3 hf3 hc3
            rw [h3] at this
            exact this
          obtain ⟨e5, w5, t5, s5, x5, hw5, ht5⟩ := sched hpl hor hst hok f2.le (by rw [e0]; exact hw2.nmax) e3 e4 (by rw [e1]) hP (by rw [hem]; exact hsm) hrun hl (fn := f) (k := k') (ds := ds) (kd := kd) (r := r) (cs := cs' ++ CS) ops.size (w.tape w.drawn (.order f id)) (Array.replicate ops.size false) 0 e t _ (by simp) hI (by
            have : (List.range ops.size).countP (fun i => (Array.replicate ops.size false).getD i false) = 0 := by
              rw [List.countP_eq_zero]
              intro j _
              exact hno j
            omega)
          rw [e0] at x5
          have step2 : step P (lone ⟨f, t5, .inRegion ops [] :: k', ds, .run, kd, r⟩ (cs' ++ CS) w5) = .next (lone ⟨f, t5, k', ds, .run, kd, r⟩ (cs' ++ CS) w5) :=
            step_lone_go (by simp [stepG, stepG.exec])
          have := ih stop ⟨x, .run, todo, (st l.length).tm, cs, (st l.length).n, (st l.length).hp⟩ B e5 w5 ⟨f, t5, k', ds, .run, kd, r⟩ cs' CS (x5.m.trans hem) hl hw5 ⟨f1, ht5, f3.mono x5, f4.mono x5, f5.mono x5, f6, f7.mono x5⟩ (hcs2.mono x5)
          rw [← hb]
          exact this.trans (.head step1 (s5.trans (.one step2))) x5
        · rw [ha]
          exact ⟨e, w, _, cs', Ext.refl _ _, hw, hf, hcs, rfl, .refl _ _⟩
        · rw [ha]; exact trivial
        · rw [ha]; exact trivial
      · exact trivial
end
end Go.Gz
