/- The evaluator that the kernel runs: whole runs; calls. -/
import Derived.Test.YthjfikbldncciaaGreatGyY
import Derived.Below
namespace Go.Gy
open Go Go.Gx Go.RowKit

section
variable {P : Program} (hP : Small P)
include hP

theorem arun_ok : ∀ (N : Nat), RunOk P (arun P N) := by
  intro N
  induction N with
  | zero => intro s v n' hp' h; cases h
  | succ N ih =>
    intro s v n' hp' h B e w fr cs' CS hl hw hf hcs
    have h : onOut (astep P s) P (arun P N) = .ok v n' hp' := h
    have hnx := step_sound hP (CS := CS) hw hf hcs rfl
    cases ho : astep P s with
    | go s2 =>
      rw [ho] at h hnx
      obtain ⟨e1, w1, fr1, cs1, s1, hx, hw1, hf1, hcs1, hb⟩ := hnx
      obtain ⟨e2, w2, v2, g1, g2, g3, g4, g5⟩ := ih s2 v n' hp' h B e1 w1 fr1 cs1 CS hl hw1 hf1 hcs1
      refine ⟨e2, w2, v2, hx.trans g1, g2, g3, fun c CS' hc => .head s1 (g4 c CS' hc), fun hb1 => ?_⟩
      rw [hb] at g5
      obtain ⟨fr3, g6, g7⟩ := g5 hb1
      exact ⟨fr3, .head s1 g6, g7⟩
    | done v0 n0 hp0 =>
      rw [ho] at h hnx
      cases h
      obtain ⟨e1, w1, v1, hx, hw1, hv, hcn, g1, g2⟩ := hnx
      subst hcn
      refine ⟨e1, w1, v1, hx, hw1, hv, fun c CS' hc => ?_, fun hb => ?_⟩
      · exact .one (g1 c CS' hc)
      · obtain ⟨g3, g4, g5⟩ := g2 hb
        subst g5
        exact ⟨fr, .refl _ _, g3, g4⟩
    | bad y s2 => rw [ho] at h; cases h
    | draw ops s2 =>
      rw [ho] at h hnx
      obtain ⟨x, mode, todo, tm, cs, n, hp⟩ := s2
      obtain ⟨hm, hn, hok, hw2, hb, hcs2, id, k', htd, hmd, hf2⟩ := hnx
      simp only at hm hn hok hw2 hb hcs2 hf2
      subst hm hn
      obtain ⟨f, t, td, ds, md, kd, r⟩ := fr
      simp only at htd hmd hf2
      subst htd hmd
      have h : drawStep P (arun P N) ops ⟨x, .run, todo, tm, cs, s.n, hp⟩ = .ok v n' hp' := h
      unfold drawStep at h
      simp only at h
      split at h
      · rename_i l hplan
        obtain ⟨all, hpl, hor⟩ := planOf_order hplan
        obtain ⟨st, vs, h0, hst, hK⟩ := drawRun_trace l ⟨tm, s.n, hp, [⟨0, s.n, hp⟩], []⟩ h
        obtain ⟨f1, f2, f3, f4, f5, f6, f7⟩ := hf2
        simp only at f1 f2 f3 f4 f5 f6 f7
        have step1 : step P (lone ⟨f, t, .code (.region id ops true) :: k', ds, .run, kd, r⟩ (cs' ++ CS) w) =
            .next (lone ⟨f, t, .inRegion ops (Region.schedule (P.follows .mixedOrders) ops (w.tape w.drawn (.order f id))) :: k', ds, .run, kd, r⟩ (cs' ++ CS) { w with drawn := w.drawn + 1 }) :=
          step_lone_go (by simp [stepG, stepG.exec, choose, Sem.run, Question.forced, Question.cut])
        rw [hP.2.2.1] at step1
        simp only [Region.schedule, Bool.true_or, if_true, Region.linearise] at step1
        have hno : ∀ j, ¬ (Array.replicate ops.size false).getD j false = true := by
          intro j
          by_cases hj : j < ops.size <;> simp [hj]
        have e0 : (st 0).n = s.n := by rw [h0]
        have e1 : (st 0).hp = hp := by rw [h0]
        have e2 : (st 0).tm = tm := by rw [h0]
        have e3 : (st 0).snaps = [⟨0, (st 0).n, (st 0).hp⟩] := by rw [h0]
        have e4 : (st 0).als = [] := by rw [h0]
        have hI : Inv P B e x.nt all l st vs 0 (fun j => (Array.replicate ops.size false).getD j false = true) e t { w with drawn := w.drawn + 1 } := by
          refine ⟨Nat.zero_le _, .inl rfl, fun q y _ hq => absurd hq (Nat.not_lt_zero _), fun q y _ _ hL => absurd hL (hno _), fun k y _ hL => absurd hL (hno _), ?_, f2.size, fun q y d _ hL => absurd hL (hno _), fun d hd _ => ?_, fun q y _ hL => absurd hL (hno _), fun q q' y y' _ hL => absurd hL (hno _), Ext.refl _ _⟩
          · rw [e0, e1]; exact hw2.same rfl rfl rfl rfl
          · rw [e0, e2]; exact f2.rel d hd
        obtain ⟨e5, w5, t5, s5, x5, hw5, ht5⟩ := sched hpl hor hst hok f2.le (by rw [e0]; exact hw2.nmax) e3 e4 hP ih hl (fn := f) (k := k') (ds := ds) (kd := kd) (r := r) (cs := cs' ++ CS) ops.size (w.tape w.drawn (.order f id)) (Array.replicate ops.size false) 0 e t _ (by simp) hI (by
          have : (List.range ops.size).countP (fun i => (Array.replicate ops.size false).getD i false) = 0 := by
            rw [List.countP_eq_zero]
            intro j _
            exact hno j
          omega)
        rw [e0] at x5
        have step2 : step P (lone ⟨f, t5, .inRegion ops [] :: k', ds, .run, kd, r⟩ (cs' ++ CS) w5) = .next (lone ⟨f, t5, k', ds, .run, kd, r⟩ (cs' ++ CS) w5) :=
          step_lone_go (by simp [stepG, stepG.exec])
        obtain ⟨e6, w6, v6, g1, g2, g3, g4, g5⟩ := ih ⟨x, .run, todo, (st l.length).tm, cs, (st l.length).n, (st l.length).hp⟩ v n' hp' hK B e5 w5 ⟨f, t5, k', ds, .run, kd, r⟩ cs' CS hl hw5 ⟨f1, ht5, f3.mono x5, f4.mono x5, f5.mono x5, f6, f7.mono x5⟩ (hcs2.mono x5)
        have hsteps : Steps P (lone ⟨f, t, .code (.region id ops true) :: k', ds, .run, kd, r⟩ (cs' ++ CS) w) (lone ⟨f, t5, k', ds, .run, kd, r⟩ (cs' ++ CS) w5) :=
          .head step1 (s5.trans (.one step2))
        refine ⟨e6, w6, v6, x5.trans g1, g2, g3, fun c CS' hc => hsteps.trans (g4 c CS' hc), fun hb1 => ?_⟩
        rw [hb] at g5
        obtain ⟨fr3, g6, g7⟩ := g5 hb1
        exact ⟨fr3, hsteps.trans g6, g7⟩
      · cases h

/-- A call whose arguments name no block. -/
theorem call_calls {N : Nat} {f : FuncId} {args : List Value} {v : Value} {n' : Nat} {hp' : Hp} (h : call P N f args = .ok v n' hp') (ha : ∀ u ∈ args, plainC u = true) (w : World) :
    Calls P f args.toArray w fun E w' => ∃ e v', RV e n' v v' ∧ E = .returned v' ∧ Below w.heap.size w w' := by
  intro cs
  unfold call at h
  split at h
  · rename_i x mode todo tm he
    let e : Env := ⟨fun _ => 0, fun _ => 0⟩
    obtain ⟨h1, h2, h3, h4, h5, h6⟩ := enter_rel hP (e := e) (n := 0) he (RL.plain ha)
    have hw : WR P ⟨w, 0, fun _ => 0, true⟩ e 0 .none w :=
      ⟨rfl, rfl, rfl, Nat.le_refl _, Nat.le_refl _, by omega, fun j hj => absurd hj (Nat.not_lt_zero _), fun j _ hj => absurd hj (Nat.not_lt_zero _), fun _ _ _ => rfl, fun j hj => absurd hj (Nat.not_lt_zero _), fun i j hi => absurd hi (Nat.not_lt_zero _), fun _ j hj => absurd hj (Nat.not_lt_zero _)⟩
    obtain ⟨e', w', v', g1, g2, g3, g4, g5⟩ := arun_ok hP N ⟨x, mode, todo, tm, [], 0, .none⟩ v n' hp' h ⟨w, 0, fun _ => 0, true⟩ e w _ [] cs rfl hw h1 .nil
    obtain ⟨fr1, g6, g7, g8⟩ := g5 h4
    exact ⟨.returned v', w', fr1, ⟨e', v', g3, rfl, g2.os, g2.tape, g2.output, g2.size, fun k hk => g2.old k hk fun i hi => absurd hi (Nat.not_lt_zero _)⟩, g6, g7.trans h3, g8⟩
  · cases h

/-- It gives a yes. -/
noncomputable def isYes : Ans → Bool
  | .ok v _ _ => match v with
    | .bool b => b
    | _ => false
  | _ => false
theorem yes_calls {N : Nat} {f : FuncId} {args : List Value} (h : isYes (call P N f args) = true) (ha : ∀ u ∈ args, plainC u = true) (w : World) :
    Calls P f args.toArray w fun E w' => E = .returned (.bool true) ∧ Below w.heap.size w w' := by
  cases hc : call P N f args with
  | ok v n' hp' =>
    rw [hc] at h
    have hv : v = .bool true := by
      revert h
      cases v with
      | bool b => intro h; cases b <;> first | rfl | cases h
      | _ => intro h; cases h
    subst hv
    refine (call_calls hP hc ha w).mono ?_
    rintro E w' ⟨e, v', hv, rfl, hb⟩
    rw [hv.boolI]
    exact ⟨rfl, hb⟩
  | bad => rw [hc] at h; cases h
  | out => rw [hc] at h; cases h
end
end Go.Gy
