/- The evaluator that the kernel runs: one step of the machine, part 3: code, ends. -/
import Derived.Test.YtekdgkhelhcmbaaGreatGzP
namespace Go.Gz
open Go Go.Gx Go.RowKit

section
variable {P : Program} (hP : Small P) {B : Base} {e : Env} {n : Nat} {hp : Hp} {w : World} {CS : List Frame}

theorem exit_rel {nt : Nat} (id : Nat) : ∀ {k : List AI} {k' : List Item}, RT e n nt k k' → (∀ t, exitA id k = some t → ∃ t', exitTo id k' = some t' ∧ RT e n nt t t') ∧ (exitA id k = none → exitTo id k' = none)
  | _, _, .nil => ⟨fun t h => by simp [exitA] at h, fun _ => rfl⟩
  | _, _, .blk id' k k' h => by
    have ih := exit_rel id h
    constructor
    · intro t ht
      simp only [exitA, cnd_ite] at ht
      split at ht
      · rename_i hb
        have := beq_eq hb
        subst this
        cases ht
        exact ⟨k', by simp [exitTo], h⟩
      · rename_i hb
        obtain ⟨t', h1, h2⟩ := ih.1 t ht
        have : ¬ id' = id := fun h => hb (by rw [h]; simp)
        exact ⟨t', by simp [exitTo, this, h1], h2⟩
    · intro ht
      simp only [exitA, cnd_ite] at ht
      split at ht
      · cases ht
      · rename_i hb
        have : ¬ id' = id := fun h => hb (by rw [h]; simp)
        simp [exitTo, this, ih.2 ht]
  | _, _, .code c k k' h => by have ih := exit_rel id h; exact ⟨fun t ht => ih.1 t (by simpa [exitA] using ht), fun ht => by simpa [exitTo] using ih.2 (by simpa [exitA] using ht)⟩
  | _, _, .lp c k k' h => by have ih := exit_rel id h; exact ⟨fun t ht => ih.1 t (by simpa [exitA] using ht), fun ht => by simpa [exitTo] using ih.2 (by simpa [exitA] using ht)⟩
  | _, _, .sc c k k' h => by have ih := exit_rel id h; exact ⟨fun t ht => ih.1 t (by simpa [exitA] using ht), fun ht => by simpa [exitTo] using ih.2 (by simpa [exitA] using ht)⟩
  | _, _, .ops o i k k' hok h => by have ih := exit_rel id h; exact ⟨fun t ht => ih.1 t (by simpa [exitA] using ht), fun ht => by simpa [exitTo] using ih.2 (by simpa [exitA] using ht)⟩
  | _, _, .rf l k k' hl h => by have ih := exit_rel id h; exact ⟨fun t ht => ih.1 t (by simpa [exitA] using ht), fun ht => by simpa [exitTo] using ih.2 (by simpa [exitA] using ht)⟩
  | _, _, .erf l k k' hl h => by have ih := exit_rel id h; exact ⟨fun t ht => ih.1 t (by simpa [exitA] using ht), fun ht => by simpa [exitTo] using ih.2 (by simpa [exitA] using ht)⟩
  | _, _, .br k k' h => by have ih := exit_rel id h; exact ⟨fun t ht => ih.1 t (by simpa [exitA] using ht), fun ht => by simpa [exitTo] using ih.2 (by simpa [exitA] using ht)⟩

theorem goto_rel {nt : Nat} (l : Nat) : ∀ {k : List AI} {k' : List Item}, RT e n nt k k' → (∀ t, gotoA l k = some t → ∃ t', gotoIn l k' = some t' ∧ RT e n nt t t') ∧ (gotoA l k = none → gotoIn l k' = none)
  | _, _, .nil => ⟨fun t h => by simp [gotoA] at h, fun _ => rfl⟩
  | _, _, .sc c k k' h => by
    have ih := goto_rel l h
    cases hf : findLabel c l with
    | none => exact ⟨fun t ht => by obtain ⟨t', h1, h2⟩ := ih.1 t (by simpa [gotoA, hf] using ht); exact ⟨t', by simp [gotoIn, hf, h1], h2⟩, fun ht => by simp [gotoIn, hf, ih.2 (by simpa [gotoA, hf] using ht)]⟩
    | some rest => exact ⟨fun t ht => by simp only [gotoA, hf, Option.some.injEq] at ht; subst ht; exact ⟨_, by simp only [gotoIn, hf], .code _ _ _ (.sc _ _ _ h)⟩, fun ht => by simp [gotoA, hf] at ht⟩
  | _, _, .code c k k' h => by have ih := goto_rel l h; exact ⟨fun t ht => ih.1 t (by simpa [gotoA] using ht), fun ht => by simpa [gotoIn] using ih.2 (by simpa [gotoA] using ht)⟩
  | _, _, .lp c k k' h => by have ih := goto_rel l h; exact ⟨fun t ht => ih.1 t (by simpa [gotoA] using ht), fun ht => by simpa [gotoIn] using ih.2 (by simpa [gotoA] using ht)⟩
  | _, _, .blk c k k' h => by have ih := goto_rel l h; exact ⟨fun t ht => ih.1 t (by simpa [gotoA] using ht), fun ht => by simpa [gotoIn] using ih.2 (by simpa [gotoA] using ht)⟩
  | _, _, .ops o i k k' hok h => by have ih := goto_rel l h; exact ⟨fun t ht => ih.1 t (by simpa [gotoA] using ht), fun ht => by simpa [gotoIn] using ih.2 (by simpa [gotoA] using ht)⟩
  | _, _, .rf q k k' hl h => by have ih := goto_rel l h; exact ⟨fun t ht => ih.1 t (by simpa [gotoA] using ht), fun ht => by simpa [gotoIn] using ih.2 (by simpa [gotoA] using ht)⟩
  | _, _, .erf q k k' hl h => by have ih := goto_rel l h; exact ⟨fun t ht => ih.1 t (by simpa [gotoA] using ht), fun ht => by simpa [gotoIn] using ih.2 (by simpa [gotoA] using ht)⟩
  | _, _, .br k k' h => by have ih := goto_rel l h; exact ⟨fun t ht => ih.1 t (by simpa [gotoA] using ht), fun ht => by simpa [gotoIn] using ih.2 (by simpa [gotoA] using ht)⟩

theorem settle_rel {m m' : FrameMode} (h : RMd e n m m') : RMd e n (settleM m) (settle m') := by
  cases h with
  | run => exact .run
  | returning => exact .returning
  | panicking l l' hc =>
    cases hc with
    | nil => exact .panicking _ _ .nil
    | cons x x' l l' hv hr hg hl =>
      obtain ⟨v, r, g⟩ := x
      obtain ⟨v', r', g'⟩ := x'
      simp only at hv hr hg
      subst hr hg
      cases r with
      | false => exact .panicking _ _ (.cons _ _ _ _ hv rfl rfl hl)
      | true =>
        have key : ∀ {l l' : List PanicEntry}, RCh e n l l' → RCh e n (l.dropWhile (!·.goexit)) (l'.dropWhile (!·.goexit)) := by
          intro l l' h
          induction l generalizing l' with
          | nil => cases h; exact .nil
          | cons y l ih =>
            cases h with
            | cons _ y' _ l2 hv hr hg hl =>
              simp only [List.dropWhile_cons, hg]
              split
              · exact ih hl
              · exact .cons _ _ _ _ hv hr hg hl
        have hk := key hl
        simp only [settleM, settle]
        generalize l.dropWhile (!·.goexit) = a at hk
        generalize l'.dropWhile (!·.goexit) = b at hk
        cases hk with
        | nil => exact .returning
        | cons y y' m m' h1 h2 h3 h4 => exact .panicking _ _ (.cons _ _ _ _ h1 h2 h3 h4)

theorem RCh.append : ∀ {l l' r r' : List PanicEntry}, RCh e n l l' → RCh e n r r' → RCh e n (l ++ r) (l' ++ r')
  | _, _, _, _, .nil, hr => hr
  | _, _, _, _, .cons a b l l' h1 h2 h3 hl, hr => .cons a b _ _ h1 h2 h3 (RCh.append hl hr)
theorem raise_rel {m m' : FrameMode} (h : RMd e n m m') {c c' : List PanicEntry} (hc : RCh e n c c') : RMd e n (raiseM m c) (raised m' c') := by
  cases h with
  | run => exact .panicking _ _ hc
  | returning => exact .panicking _ _ hc
  | panicking l l' h => exact .panicking _ _ (hc.append h)

/-- A callee's value comes back. -/
theorem fin_rel {a a2 : AF} {f : Frame} (h : RF e n a f) {v v' : Value} (hv : RV e n v v') (hf : fin a v = some a2) : RF e n a2 (f.finish v') ∧ a2.x = a.x := by
  obtain ⟨x, mode, todo, tm⟩ := a
  obtain ⟨fn, t, td, ds, md, kd, r⟩ := f
  obtain ⟨g1, g2, g3, g4, g5, g6, g7⟩ := h
  unfold fin at hf
  simp only at hf g1 g2 g3 g4 g5 g6 g7
  cases g3 with
  | ops ops i k k' hok hk =>
    simp only at hf
    split at hf
    · cases hf
    · rename_i o rest hcons
      cases hf
      have hi : i < ops.size := by
        have := congrArg List.length hcons
        simp at this; omega
      have ho : ops[i]? = some o := by
        have : (ops.toList.drop i)[0]? = some o := by rw [hcons]; rfl
        simpa using this
      have hrest : rest = ops.toList.drop (i + 1) := by
        have := congrArg List.tail hcons
        simpa using this.symm
      have hrg : List.range' i (ops.size - i) = i :: List.range' (i + 1) (ops.size - (i + 1)) := by
        rw [show ops.size - i = (ops.size - (i + 1)) + 1 by omega, List.range'_succ]
      have hom : o ∈ ops.toList := List.mem_of_getElem? (by simpa using ho : ops.toList[i]? = some o)
      obtain ⟨hdst, hopd⟩ := opsOk_mem hok o hom
      rw [hrg]
      simp only [Frame.finish, ho, Option.bind_some]
      refine ⟨⟨g1, ?_, ?_, g4, g5, g6, g7⟩, by first | rfl | trivial⟩
      · exact g2.put hdst hv
      · rw [hrest]; exact .ops ops (i + 1) k k' hok hk
  | rf l k k' hl hk =>
    simp only at hf
    cases hf
    exact ⟨⟨g1, g2, .erf l k k' hl hk, g4, g5, g6, g7⟩, by first | rfl | trivial⟩
  | _ => simp at hf

theorem bot_eq {x y : X} (h : x.rnd = y.rnd) (h2 : x.fn = y.fn) (cs : List AF) : bot x cs = bot y cs := by
  cases cs <;> simp [bot, h, h2]

/-- Coming back, the machine's step given. -/
theorem doRet_nx {fr : Frame} {cs' : List Frame} {x : X} {cs : List AF} {b : Option Nat × FuncId} {e2 : Env} {n2 : Nat} {hp2 : Hp} {w2 : World} {v v' : Value} (hx : Ext e n e2 n2) (hw : WR P B e2 n2 hp2 w2) (hv : RV e2 n2 v v') (hcs : RFs e2 n2 cs cs') (hb : bot x cs = b)
    (h1 : x.kind = .normal → ∀ c l, cs' ++ CS = c :: l → step P (lone fr (cs' ++ CS) w) = .next (lone (c.finish v') l w2))
    (h2 : x.kind = .deferred → ∀ c l, cs' ++ CS = c :: l → step P (lone fr (cs' ++ CS) w) = .next (lone { c with mode := settle c.mode } l w2))
    (h3 : x.kind = .normal → cs = [] → b.1 = none → fr.fn = b.2 ∧ fr.leaving P w (.returned v') ∧ w2 = w) : Nx P B e n fr cs' CS w b (doRet v x cs n2 hp2) := by
  obtain ⟨fn, nt, dfs, kind, rnd⟩ := x
  unfold doRet
  simp only
  split
  · cases hcs with
    | nil => exact ⟨e2, w2, v', hx, hw, hv, rfl, fun c l hl => h1 rfl c l hl, fun h => h3 rfl rfl h⟩
    | cons a f l l' ha hl =>
      simp only
      split
      · rename_i a2 hf
        obtain ⟨g1, g2⟩ := fin_rel ha hv hf
        exact top_nx (h1 rfl f (l' ++ CS) rfl) hx hw g1 hl (by rw [← hb]; show bot a2.x l = bot a.x l; rw [g2])
      · trivial
  · cases hcs with
    | nil => trivial
    | cons a f l l' ha hl =>
      obtain ⟨x, mode, todo, tm⟩ := a
      obtain ⟨g1, g2, g3, g4, g5, g6, g7⟩ := ha
      exact ⟨e2, w2, _, l', h2 rfl f (l' ++ CS) rfl, hx, hw, ⟨g1, g2, g3, g4, settle_rel g5, g6, g7⟩, hl, by rw [← hb]; rfl⟩
  · trivial

def resOfA (tmps : Array Value) : ResultVar → Sem Value
  | .tmp t => pure (tmps.getD t undef)
  | .cell a t => do loadVar t (← asAddr (tmps.getD a undef))

include hP
theorem resA_run (hw : WR P B e n hp w) {nt : Nat} {tm : Tm} {tmps : Array Value} (ht : RTm e n nt tm tmps) : ∀ (rs : List ResultVar) (l : List Value), resOk nt rs = true → resA P hp tm rs = some l →
    ∃ l', (rs.mapM (resOfA tmps)).run P w = .ok l' w ∧ RL e n l l'
  | [], l, _, h => by simp [resA] at h; subst h; exact ⟨[], by simp, .nil⟩
  | .tmp t :: r, l, hok, h => by
    simp only [resOk, cnd_ite] at hok
    split at hok
    · rename_i hlt
      simp only [resA, Option.map_eq_some_iff] at h
      obtain ⟨l2, h1, rfl⟩ := h
      obtain ⟨l', h2, h3⟩ := resA_run hw ht r l2 hok h1
      have hr := ht.rel t (blt_lt hlt)
      refine ⟨tmps.getD t undef :: l', ?_, .cons _ _ _ _ hr h3⟩
      simp [List.mapM_cons, resOfA, h2]
    · cases hok
  | .cell a t :: r, l, hok, h => by
    simp only [resOk, cnd_ite] at hok
    split at hok
    · rename_i hlt
      simp only [resA] at h
      split at h
      · rename_i v hv
        simp only [Option.map_eq_some_iff] at h
        obtain ⟨l2, h1, rfl⟩ := h
        obtain ⟨l', h2, h3⟩ := resA_run hw ht r l2 hok h1
        have hr := ht.rel a (blt_lt hlt)
        obtain ⟨ad, v', h4, h5, h6⟩ := loadx_run hP hw hr hv
        refine ⟨v' :: l', ?_, .cons _ _ _ _ h6 h3⟩
        have h4' : tmps[a]?.getD undef = .pointer (some ad) := by rw [← h4]; simp
        simp [List.mapM_cons, resOfA, h2, h4', asAddr, h5]
      · cases h
    · cases hok

theorem results_rel (hw : WR P B e n hp w) {nt : Nat} {tm : Tm} {tmps : Array Value} (ht : RTm e n nt tm tmps) {fn : Func} {l : List Value} (hok : resOk nt fn.results.toList = true) (h : resA P hp tm fn.results.toList = some l) :
    ∃ v', (results fn tmps).run P w = .ok v' w ∧ RV e n (tupx l) v' := by
  obtain ⟨l', h1, h2⟩ := resA_run hP hw ht _ _ hok h
  refine ⟨tupx l', ?_, ?_⟩
  · have e : results fn tmps = (do
        let vs ← fn.results.mapM (resOfA tmps)
        pure (if h : vs.size = 1 then vs[0] else .tuple vs)) := by
      unfold results
      congr 1
    rw [e]
    simp only [Sem.run_bind, Array.mapM_eq_mapM_toList, Sem.run_map]
    rw [h1]
    simp only [Result.andThen_ok, Sem.run_pure, Result.ok.injEq, and_true]
    cases l' with
    | nil => rfl
    | cons x r => cases r <;> simp [tupx]
  · cases h2 with
    | nil => exact .tuple _ _ .nil
    | cons v v' l l' hv hl =>
      cases hl with
      | nil => exact hv
      | cons u u' m m' hu hm => exact .tuple _ _ (.cons _ _ _ _ hv (.cons _ _ _ _ hu hm))

omit hP in
/-- Leaving a frame. -/
theorem leave_nx (hw : WR P B e n hp w) {x : X} {tm : Tm} {cs : List AF} {todo : List AI} {fr : Frame} {cs' : List Frame} (hf : RF e n ⟨x, .run, todo, tm⟩ fr) (hcs : RFs e n cs cs') {b : Option Nat × FuncId} (hb : bot x cs = b) (jump : Option Code)
    (hstep : ∀ cs2, (stepG P true { frame := fr, callers := cs2, status := .running, dying := none } w).bare = (match fr.roundOf with
      | none => if jump matches none | some .ret then GStep.go { frame := { fr with mode := .returning }, callers := cs2, status := .running, dying := none } w else .ended (.stuck "exit, goto: no such block or label" (fr.pos P)) w
      | some l =>
        match (Instr.endRound l jump).run P w with
        | .ok v w => (doReturn P true fr cs2 none v w).bare
        | .halt _ w => .ended (.stuck "range over a function: no such loop" (fr.pos P)) w)) :
    Nx P B e n fr cs' CS w b (leaveA jump todo tm x cs n hp) := by
  obtain ⟨fn, nt, dfs, kind, rnd⟩ := x
  obtain ⟨f, t, td, ds, md, kd, r⟩ := fr
  obtain ⟨g1, g2, g3, g4, g5, g6, g7⟩ := hf
  simp only at g1 g6
  subst g1 g6
  unfold leaveA
  simp only
  rcases g7 with ⟨h1, h2⟩ | ⟨l, h1, h2, hl⟩
  · simp only at h1 h2
    subst h1 h2
    simp only
    have go : (jump = none ∨ jump = some .ret) → Nx P B e n ⟨f, t, td, ds, md, kd, none⟩ cs' CS w b (.go ⟨⟨f, nt, dfs, kd, none⟩, .returning, todo, tm, cs, n, hp⟩) := by
      intro hj
      refine ⟨e, w, ⟨f, t, td, ds, .returning, kd, none⟩, cs', ?_, Ext.refl _ _, hw, ⟨rfl, g2, g3, g4, .returning, rfl, .inl ⟨rfl, rfl⟩⟩, hcs, hb⟩
      refine step_lone_go ?_
      rw [hstep]
      rcases hj with rfl | rfl <;> rfl
    split
    · exact go (.inl rfl)
    · exact go (.inr rfl)
    · trivial
  · simp only at h1 h2
    subst h1 h2
    simp only
    split
    · rename_i st pend fn2 nt2 tm2 ps a c d hg
      obtain ⟨tmps, ho, ht, hd⟩ := hw.loop hl hg
      have hget := getObj_run (P := P) ho (by simp)
      have hset := fun o' => setObj_run (P := P) (o' := o') ho (by simp)
      have hrun : (Instr.endRound (e.β l) jump).run P w = .ok (.bool jump.isNone) (setB w (e.β l) (.loop { state := if jump.isNone then .ready else .done, pending := jump, fn := fn2, tmps := tmps, params := ps.toArray, assign := a, body := c, defers := e.β d })) := by
        simp [Instr.endRound, Instr.getLoop, hget, hset]
      have hw2 := hw.set hl (by rw [hg]; simp) (o := .loop (cnd jump.isNone .ready .done) jump fn2 nt2 tm2 ps a c d) (o' := .loop { state := if jump.isNone then .ready else .done, pending := jump, fn := fn2, tmps := tmps, params := ps.toArray, assign := a, body := c, defers := e.β d }) (by
        have : (if jump.isNone = true then LoopState.ready else LoopState.done) = cnd jump.isNone LoopState.ready LoopState.done := by cases jump <;> rfl
        rw [this]
        exact .loop _ _ _ _ _ _ _ _ _ _ ht hd)
      refine doRet_nx (Ext.refl _ _) hw2 (.plain _ rfl) hcs hb ?_ ?_ ?_
      · intro hk c2 l2 hcl
        rw [hcl]
        refine step_lone_go ?_
        rw [hstep]
        simp only [hrun]
        simp only at hk
        subst hk
        rfl
      · intro hk c2 l2 hcl
        rw [hcl]
        refine step_lone_go ?_
        rw [hstep]
        simp only [hrun]
        simp only at hk
        subst hk
        simp only [doReturn]
        unfold settle
        split <;> (try split) <;> simp_all
      · intro hk hc hb1
        subst hc
        rw [← hb] at hb1
        cases hb1
    · trivial
end

end Go.Gz
