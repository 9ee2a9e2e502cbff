/- The evaluator that the kernel runs: one step of the machine: items, ends; all. -/
import Derived.Test.YtekdgkhelhcmbaaGreatGzR
namespace Go.Gz
open Go Go.Gx Go.RowKit

section
variable {P : Program} (hP : Small P) {B : Base} {e : Env} {n : Nat} {hp : Hp} {w : World} {CS : List Frame}

include hP
theorem run_nx (hw : WR P B e n hp w) {x : X} {tm : Tm} {cs : List AF} {todo : List AI} {fr : Frame} {cs' : List Frame} (hf : RF e n ⟨x, .run, todo, tm⟩ fr) (hcs : RFs e n cs cs') {b : Option Nat × FuncId} (hb : bot x cs = b) :
    Nx P B e n fr cs' CS w b (runA P todo tm x cs n hp) := by
  have hf0 := hf
  obtain ⟨f, t, td, ds, md, kd, r⟩ := fr
  obtain ⟨g1, g2, g3, g4, g5, g6, g7⟩ := hf
  simp only at g1 g2 g3 g4 g5 g6 g7
  cases g5
  cases g3 with
  | nil =>
    refine leave_nx hw hf0 hcs hb none fun cs2 => ?_
    simp only [stepG, stepG.exec]
    cases r with
    | none => rfl
    | some l => simp only [Sem.runT_eq, GStep.bare_after]; split <;> simp_all
  | code c k k' hk => exact code_nx hP hw hf0 hcs hb
  | blk id k k' hk => exact in_nx hw g1 g2 g4 g6 g7 hcs hb hk fun cs2 => by simp [stepG, stepG.exec]
  | sc c k k' hk => exact in_nx hw g1 g2 g4 g6 g7 hcs hb hk fun cs2 => by simp [stepG, stepG.exec]
  | lp c k k' hk => exact head_nx hw g1 g2 g4 g6 g7 hcs hb (.code _ _ _ (.lp _ _ _ hk)) fun cs2 => by simp [stepG, stepG.exec]
  | ops ops i k k' hok hk => exact ops_sound hP hw hf0 hcs hb
  | rf l k k' hl hk => trivial
  | erf l k k' hl hk =>
    show Nx P B e n _ cs' CS w b (stErf l P k tm x cs n hp)
    unfold stErf
    split
    · rename_i st p fn2 nt2 tm2 ps a c d hg
      obtain ⟨tmps, ho, ht, hd⟩ := hw.loop hl hg
      have hget := getObj_run (P := P) ho (by simp)
      have hset := fun o' => setObj_run (P := P) (o' := o') ho (by simp)
      have go : st ≠ .busy → Nx P B e n ⟨f, t, .endRangeFunc (e.β l) :: k', ds, .run, kd, r⟩ cs' CS w b (.go ⟨x, .run, pendTo p k, tm, cs, n, hp.set l (.loop .exhausted p fn2 nt2 tm2 ps a c d)⟩) := by
        intro hst
        have hrun : (Instr.endLoop (e.β l)).run P w = .ok p (setB w (e.β l) (.loop { state := .exhausted, pending := p, fn := fn2, tmps := tmps, params := ps.toArray, assign := a, body := c, defers := e.β d })) := by
          simp [Instr.endLoop, Instr.getLoop, hget, hset, hst]
        refine ⟨e, _, ⟨f, t, (p.map Item.code).toList ++ k', ds, .run, kd, r⟩, cs', step_lone_go ?_, Ext.refl _ _, hw.set hl (by rw [hg]; simp) (.loop _ _ _ _ _ _ _ _ _ _ ht hd), ⟨g1, g2, ?_, g4, .run, g6, g7⟩, hcs, hb⟩
        · simp only [stepG, stepG.exec, Sem.runT_eq, hrun, GStep.bare_after, GStep.bare_go]
        · cases p with
          | none => exact hk
          | some c2 => exact .code _ _ _ hk
      cases st with
      | busy => trivial
      | ready => exact go (by simp)
      | done => exact go (by simp)
      | exhausted => exact go (by simp)
    · trivial
  | br k k' hk =>
    show Nx P B e n _ cs' CS w b (stBr P k tm x cs n hp)
    obtain ⟨fn, nt, dfs, kind, rnd⟩ := x
    unfold stBr
    simp only
    rcases g7 with ⟨h1, h2⟩ | ⟨l, h1, h2, hl⟩
    · simp only at h1; subst h1; trivial
    · simp only at h1 h2
      subst h1 h2
      simp only
      split
      · rename_i p fn2 nt2 tm2 ps a c d hg
        obtain ⟨tmps, ho, ht, hd⟩ := hw.loop hl hg
        have hget := getObj_run (P := P) ho (by simp)
        have hset := fun o' => setObj_run (P := P) (o' := o') ho (by simp)
        have hrun : (Instr.beginRound (e.β l)).run P w = .ok () (setB w (e.β l) (.loop { state := .busy, pending := p, fn := fn2, tmps := tmps, params := ps.toArray, assign := a, body := c, defers := e.β d })) := by
          simp [Instr.beginRound, Instr.getLoop, hget, hset]
        have hrun2 : ((some (e.β l)).elim (stuck "beginRound: no round") Instr.beginRound >>= fun _ => (pure .skip : Sem Next)).run P w = .ok .skip (setB w (e.β l) (.loop { state := .busy, pending := p, fn := fn2, tmps := tmps, params := ps.toArray, assign := a, body := c, defers := e.β d })) := by
          simp [hrun]
        refine ⟨e, _, ⟨f, t, k', ds, .run, kd, some (e.β l)⟩, cs', step_lone_go ?_, Ext.refl _ _, hw.set hl (by rw [hg]; simp) (.loop _ _ _ _ _ _ _ _ _ _ ht hd), ⟨g1, g2, hk, g4, .run, g6, .inr ⟨l, rfl, rfl, hl⟩⟩, hcs, hb⟩
        simp only [stepG, stepG.exec, stepG.apply, Sem.runT_eq, if_true, hrun2, GStep.bare_after, GStep.bare_go, Frame.finish]
      · trivial

theorem resultsOf_some {f : FuncId} {rs : List ResultVar} (h : resultsOf P f = some rs) : ∃ fn, P.funcs[f]? = some fn ∧ rs = fn.results.toList := by
  unfold resultsOf at h
  rw [cnd_ite] at h
  split at h
  · rename_i hb
    split at h
    · rename_i fn hf
      cases h
      exact ⟨fn, ftab_get hP (blt_lt hb) hf, rfl⟩
    · cases h
  · cases h

theorem unwind_nx (hw : WR P B e n hp w) {x : X} {mode : FrameMode} {tm : Tm} {cs : List AF} {todo : List AI} {fr : Frame} {cs' : List Frame} (hm : mode ≠ .run) (hf : RF e n ⟨x, mode, todo, tm⟩ fr) (hcs : RFs e n cs cs') {b : Option Nat × FuncId} (hb : bot x cs = b) :
    Nx P B e n fr cs' CS w b (unwindA P mode todo tm x cs n hp) := by
  obtain ⟨fn, nt, dfs, kind, rnd⟩ := x
  obtain ⟨f, t, td, ds, md, kd, r⟩ := fr
  obtain ⟨g1, g2, g3, g4, g5, g6, g7⟩ := hf
  simp only at g1 g2 g3 g4 g5 g6 g7
  subst g1 g6
  have hmd : md ≠ .run := by rintro rfl; cases g5; exact hm rfl
  have hst : ∀ (ds : List Deferred) (cs2 : List Frame), stepG P true { frame := ⟨f, t, td, ds, md, kd, r⟩, callers := cs2, status := .running, dying := none } w = unwind P true ⟨f, t, td, ds, md, kd, r⟩ cs2 none w := by
    intro ds cs2
    simp only [stepG]
  unfold unwindA
  simp only
  cases g4 with
  | cons d d' dl dl' hd hdl =>
    cases hd with
    | collected bb hbb =>
      simp only
      split
      · rename_i l hg
        obtain ⟨o, ho, hr⟩ := hw.obj bb hbb (by rw [hg]; simp)
        rw [hg] at hr
        cases hr with
        | dfr _ l' hl =>
        have hget := getObj_run (P := P) ho (by simp)
        have hset := fun o' => setObj_run (P := P) (o' := o') ho (by simp)
        have hrun : (Instr.takeDeferred (e.β bb)).run P w = .ok l' (setB w (e.β bb) (.deferred none)) := by
          simp [Instr.takeDeferred, hget, hset]
        refine ⟨e, _, ⟨f, t, td, l' ++ dl', md, kd, r⟩, cs', step_lone_go ?_, Ext.refl _ _, hw.set hbb (by rw [hg]; simp) .dfrN, ⟨rfl, g2, g3, hl.append hdl, g5, rfl, g7⟩, hcs, by rw [← hb]; exact bot_eq (x := ⟨f, nt, l ++ dl, kd, rnd⟩) (y := ⟨f, nt, ⟨.collected bb, #[]⟩ :: dl, kd, rnd⟩) rfl rfl cs⟩
        rw [hst]
        simp only [unwind, Sem.runT_eq, hrun, GStep.bare_after, GStep.bare_go]
      · trivial
    | fn g c c' a a' hc ha =>
      simp only
      split
      · rename_i fr2 he
        have hargs : RL e n (a.toList ++ c.toList) (a'.toList ++ c'.toList) := ha.append hc
        obtain ⟨h3, _, _, _, hbody, _⟩ := enter_rel hP he hargs
        have hinv : (invoke (.fn (.func g) c') a').run P w = .ok (.enter g (a'.toList ++ c'.toList).toArray) w := by
          have hfn := fnOk_body hP hbody
          unfold fnOk at hfn
          split at hfn
          · rename_i fn3 hfn3
            simp only [Bool.and_eq_true, bne_iff_ne, ne_eq] at hfn
            obtain ⟨c3, hc3⟩ := Option.isSome_iff_exists.1 hfn.2
            have e5 : (a'.toList ++ c'.toList).toArray = a' ++ c' := by apply Array.ext'; simp
            rw [e5]
            simp [invoke, callFunc, hfn3, hfn.1, hc3]
          · cases hfn
        refine top_nx (w2 := w) (cs2' := ⟨f, t, td, dl', md, kd, r⟩ :: cs') (step_lone_go ?_) (Ext.refl _ _) hw h3 (.cons _ _ _ _ ⟨rfl, g2, g3, hdl, g5, rfl, g7⟩ hcs) (by rw [← hb]; exact bot_eq (x := ⟨f, nt, dl, kd, rnd⟩) (y := ⟨f, nt, ⟨.fn (.func g) c, a⟩ :: dl, kd, rnd⟩) rfl rfl cs)
        rw [hst]
        cases md with
        | run => exact absurd rfl hmd
        | returning => simp [unwind, callDeferred, hinv]
        | panicking ch => simp [unwind, callDeferred, hinv]
      · trivial
  | nil =>
    simp only
    cases g5 with
    | run => exact absurd rfl hm
    | returning =>
      simp only
      split
      · rename_i rs hrs
        rw [cnd_ite]
        split
        rotate_left
        · trivial
        rename_i hok
        split
        · rename_i l hl
          obtain ⟨fn, hfn, rfl⟩ := resultsOf_some hP hrs
          obtain ⟨v', h1, h2⟩ := results_rel hP hw g2 hok hl
          refine doRet_nx (Ext.refl _ _) hw h2 hcs hb ?_ ?_ ?_
          · intro hk c l2 hcl
            simp only at hk
            subst hk
            rw [hcl]
            refine step_lone_go ?_
            rw [hst]
            simp [unwind, hfn, h1, doReturn]
          · intro hk c l2 hcl
            simp only at hk
            subst hk
            rw [hcl]
            refine step_lone_go ?_
            rw [hst]
            simp only [unwind, hfn, Sem.runT_eq, h1, GStep.bare_after, doReturn]
            unfold settle
            split <;> (try split) <;> simp_all
          · intro hk hc hb1
            simp only at hk
            subst hk hc
            rw [← hb] at hb1 ⊢
            exact ⟨rfl, ⟨rfl, rfl, rfl, fn, hfn, h1⟩, rfl⟩
        · trivial
      · trivial
    | panicking ch ch' hch =>
      simp only
      cases hcs with
      | nil => trivial
      | cons a f2 l l' ha hl =>
        obtain ⟨x2, mode2, todo2, tm2⟩ := a
        obtain ⟨f3, t3, td3, ds3, md3, kd3, r3⟩ := f2
        obtain ⟨j1, j2, j3, j4, j5, j6, j7⟩ := ha
        simp only at j1 j2 j3 j4 j5 j6 j7
        simp only
        split
        rotate_left
        · trivial
        rename_i rs hrs
        obtain ⟨fn, hfn, _⟩ := resultsOf_some hP hrs
        refine ⟨e, w, ⟨f3, t3, td3, ds3, raised md3 ch', kd3, r3⟩, l', ?_, Ext.refl _ _, hw, ⟨j1, j2, j3, j4, raise_rel j5 hch, j6, j7⟩, hl, by rw [← hb]; rfl⟩
        have : ({ (⟨f3, t3, td3, ds3, md3, kd3, r3⟩ : Frame) with mode := raised md3 ch' } : Frame) = (⟨f3, t3, td3, ds3, md3, kd3, r3⟩ : Frame).raise ch' := (Frame.raise_mode _ _).symm
        show step P (lone _ (_ :: l' ++ CS) w) = .next (lone ({ (⟨f3, t3, td3, ds3, md3, kd3, r3⟩ : Frame) with mode := raised md3 ch' } : Frame) (l' ++ CS) w)
        rw [this]
        refine step_lone_go ?_
        rw [hst]
        simp [unwind, Frame.catches, hfn]

/-- ONE STEP. -/
theorem step_sound {s : S} {fr : Frame} {cs' : List Frame} {b : Option Nat × FuncId} (hw : WR P B e s.n s.hp w) (hf : RF e s.n ⟨s.x, s.mode, s.todo, s.tm⟩ fr) (hcs : RFs e s.n s.cs cs') (hb : bot s.x s.cs = b) :
    Nx P B e s.n fr cs' CS w b (astep P s) := by
  obtain ⟨x, mode, todo, tm, cs, n, hp⟩ := s
  unfold astep
  simp only
  cases mode with
  | run => exact run_nx hP hw hf hcs hb
  | returning => exact unwind_nx hP hw (by simp) hf hcs hb
  | panicking c => exact unwind_nx hP hw (by simp) hf hcs hb
end

end Go.Gz
