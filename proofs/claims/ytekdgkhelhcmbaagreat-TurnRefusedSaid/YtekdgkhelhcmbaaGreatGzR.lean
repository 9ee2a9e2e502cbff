/- The evaluator that the kernel runs: one step of the machine, whole. -/
import Derived.Test.YtekdgkhelhcmbaaGreatGzQ
namespace Go.Gz
open Go Go.Gx Go.RowKit

section
variable {P : Program} (hP : Small P) {B : Base} {e : Env} {n : Nat} {hp : Hp} {w : World} {CS : List Frame}

/-- A step within the frame. -/
theorem in_nx (hw : WR P B e n hp w) {x : X} {tm : Tm} {cs : List AF} {k : List AI} {f : FuncId} {t : Array Value} {td td' : List Item} {ds : List Deferred} {kd : CallKind} {r : Option Nat} {cs' : List Frame} (h1 : f = x.fn) (h2 : RTm e n x.nt tm t) (h4 : RDs e n x.dfs ds) (h6 : kd = x.kind) (h7 : RR e n x.rnd r)
    (hcs : RFs e n cs cs') {b : Option Nat × FuncId} (hb : bot x cs = b) (hk : RT e n x.nt k td')
    (hs : ∀ cs2, (stepG P true { frame := ⟨f, t, td, ds, .run, kd, r⟩, callers := cs2, status := .running, dying := none } w).bare = .go { frame := ⟨f, t, td', ds, .run, kd, r⟩, callers := cs2, status := .running, dying := none } w) :
    Nx P B e n ⟨f, t, td, ds, .run, kd, r⟩ cs' CS w b (.go ⟨x, .run, k, tm, cs, n, hp⟩) :=
  ⟨e, w, ⟨f, t, td', ds, .run, kd, r⟩, cs', step_lone_go (hs _), Ext.refl _ _, hw, ⟨h1, h2, hk, h4, .run, h6, h7⟩, hcs, hb⟩

/-- The head of a loop. -/
theorem head_nx (hw : WR P B e n hp w) {x : X} {tm : Tm} {cs : List AF} {a b0 : AI} {k : List AI} {f : FuncId} {t : Array Value} {td td' : List Item} {ds : List Deferred} {kd : CallKind} {r : Option Nat} {cs' : List Frame} (h1 : f = x.fn) (h2 : RTm e n x.nt tm t) (h4 : RDs e n x.dfs ds) (h6 : kd = x.kind) (h7 : RR e n x.rnd r)
    (hcs : RFs e n cs cs') {b : Option Nat × FuncId} (hb : bot x cs = b) (hk : RT e n x.nt (a :: b0 :: k) td')
    (hs : ∀ cs2, (stepG P true { frame := ⟨f, t, td, ds, .run, kd, r⟩, callers := cs2, status := .running, dying := none } w).bare = .go { frame := ⟨f, t, td', ds, .run, kd, r⟩, callers := cs2, status := .running, dying := none } w) :
    Nx P B e n ⟨f, t, td, ds, .run, kd, r⟩ cs' CS w b (stHead a b0 P k tm x cs n hp) := by
  unfold stHead
  cases cs with
  | nil => exact ⟨e, w, ⟨f, t, td', ds, .run, kd, r⟩, cs', step_lone_go (hs _), Ext.refl _ _, hw, ⟨h1, h2, hk, h4, .run, h6, h7⟩, hcs, hb⟩
  | cons c cs => exact ⟨e, w, ⟨f, t, td', ds, .run, kd, r⟩, cs', step_lone_go (hs _), Ext.refl _ _, hw, ⟨h1, h2, hk, h4, .run, h6, h7⟩, hcs, hb⟩

include hP
/-- A function value is called with one argument. -/
theorem callv_run {ρ : Operand → Value} {f2 : Operand} {g : FuncId} {a b : Array Value} {u : Value} (h : ρ f2 = .func (.func g) a b) (hu : ρ (.const u) = u) (hbody : (bodyOf P g).isSome = true) (w : World) :
    (do let d ← resolve ρ { callee := .value f2, args := #[.const u], argTypes := #[] } 0; invoke d.target d.args : Sem Next).run P w = .ok (.enter g (a.toList ++ (u :: b.toList)).toArray) w := by
  have hfn := fnOk_body hP hbody
  unfold fnOk at hfn
  split at hfn
  · rename_i fn3 hfn3
    simp only [Bool.and_eq_true, bne_iff_ne, ne_eq] at hfn
    obtain ⟨c3, hc3⟩ := Option.isSome_iff_exists.1 hfn.2
    have e5 : (a.toList ++ (u :: b.toList)).toArray = a ++ #[u] ++ b := by apply Array.ext'; simp
    rw [e5]
    simp [resolve, Deferred.ofValue, h, invoke, callFunc, hfn3, hfn.1, hc3, hu]
  · cases hfn

theorem code_nx (hw : WR P B e n hp w) {x : X} {tm : Tm} {cs : List AF} {c : Code} {k : List AI} {fr : Frame} {cs' : List Frame} (hf : RF e n ⟨x, .run, .code c :: k, tm⟩ fr) (hcs : RFs e n cs cs') {b : Option Nat × FuncId} (hb : bot x cs = b) :
    Nx P B e n fr cs' CS w b ((codeW c).f P k tm x cs n hp) := by
  have hf0 := hf
  obtain ⟨f, t, td, ds, md, kd, r⟩ := fr
  obtain ⟨g1, g2, g3, g4, g5, g6, g7⟩ := hf
  simp only at g1 g2 g3 g4 g5 g6 g7
  cases g5
  cases g3 with
  | code _ _ k' hk =>
  cases c with
  | ret =>
    refine leave_nx hw hf0 hcs hb (some .ret) fun cs2 => ?_
    simp only [stepG, stepG.exec]
    cases r with
    | none => rfl
    | some l => simp only [Sem.runT_eq, GStep.bare_after]; split <;> simp_all
  | skip => exact in_nx hw g1 g2 g4 g6 g7 hcs hb hk fun cs2 => by simp [stepG, stepG.exec]
  | label l => exact in_nx hw g1 g2 g4 g6 g7 hcs hb hk fun cs2 => by simp [stepG, stepG.exec]
  | seq a c => exact in_nx hw g1 g2 g4 g6 g7 hcs hb (.code _ _ _ (.code _ _ _ hk)) fun cs2 => by simp [stepG, stepG.exec]
  | block id c => exact in_nx hw g1 g2 g4 g6 g7 hcs hb (.code _ _ _ (.blk _ _ _ hk)) fun cs2 => by simp [stepG, stepG.exec]
  | loop c => exact head_nx hw g1 g2 g4 g6 g7 hcs hb (.code _ _ _ (.lp _ _ _ hk)) fun cs2 => by simp [stepG, stepG.exec]
  | scope c => exact in_nx hw g1 g2 g4 g6 g7 hcs hb (.code _ _ _ (.sc _ _ _ hk)) fun cs2 => by simp [stepG, stepG.exec]
  | cond c a d =>
    show Nx P B e n _ cs' CS w b (stCond c a d P k tm x cs n hp)
    obtain ⟨fn, nt, dfs, kind, rnd⟩ := x
    unfold stCond
    simp only [cnd_ite]
    split
    · rename_i hok
      split
      · rename_i tt hev
        have := ev_rel g2 hok
        have hv := hw.dec hev this
        have hv' : (⟨f, t, .code (.cond c a d) :: k', ds, .run, kd, r⟩ : Frame).eval c = .bool tt := by
          rw [← hv]; cases c <;> rfl
        refine in_nx hw g1 g2 g4 g6 g7 hcs hb (td' := .code (if tt then a else d) :: k') (.code _ _ _ hk) fun cs2 => ?_
        simp [stepG, stepG.exec, hv']
      · exact ⟨rfl, hw, hf0, hcs, hb⟩
    · trivial
  | exit id =>
    show Nx P B e n _ cs' CS w b (stExit id P k tm x cs n hp)
    unfold stExit
    obtain ⟨e1, e2⟩ := exit_rel id hk
    split
    · rename_i t2 ht
      obtain ⟨t', h1, h2⟩ := e1 t2 ht
      exact in_nx hw g1 g2 g4 g6 g7 hcs hb h2 fun cs2 => by simp [stepG, stepG.exec, h1]
    · rename_i ht
      have h1 := e2 ht
      refine leave_nx hw hf0 hcs hb (some (.exit id)) fun cs2 => ?_
      simp only [stepG, stepG.exec, h1, Option.elim_none]
      cases r with
      | none => rfl
      | some l => simp only [Sem.runT_eq, GStep.bare_after]; split <;> simp_all
  | goto l =>
    show Nx P B e n _ cs' CS w b (stGoto l P k tm x cs n hp)
    unfold stGoto
    obtain ⟨e1, e2⟩ := goto_rel l hk
    split
    · rename_i t2 ht
      obtain ⟨t', h1, h2⟩ := e1 t2 ht
      exact in_nx hw g1 g2 g4 g6 g7 hcs hb h2 fun cs2 => by simp [stepG, stepG.exec, h1]
    · rename_i ht
      have h1 := e2 ht
      refine leave_nx hw hf0 hcs hb (some (.goto l)) fun cs2 => ?_
      simp only [stepG, stepG.exec, h1, Option.elim_none]
      cases r with
      | none => rfl
      | some l => simp only [Sem.runT_eq, GStep.bare_after]; split <;> simp_all
  | region id ops draw =>
    show Nx P B e n _ cs' CS w b (stRegion ops draw P k tm x cs n hp)
    obtain ⟨fn, nt, dfs, kind, rnd⟩ := x
    unfold stRegion
    simp only [cnd_ite]
    split
    · rename_i hok
      split
      · rename_i hd
        subst hd
        exact ⟨rfl, rfl, hok, hw, hb, hcs, id, k', rfl, rfl, ⟨g1, g2, hk, g4, .run, g6, g7⟩⟩
      · rename_i hd
        have hd : draw = false := by simpa using hd
        subst hd
        have hrt := RT.ops (e := e) (n := n) ops 0 k k' hok hk
        simp only [List.drop_zero, Nat.sub_zero] at hrt
        rw [← List.range_eq_range'] at hrt
        exact in_nx hw g1 g2 g4 g6 g7 hcs hb hrt fun cs2 => by simp [stepG, stepG.exec]
    · trivial
  | rangeFunc f2 ps a d =>
    show Nx P B e n _ cs' CS w b (stRf f2 ps a d P k tm x cs n hp)
    obtain ⟨fn, nt, dfs, kind, rnd⟩ := x
    unfold stRf
    split
    · rename_i fn2 nt2 dfs2 kind2 rnd2 g a1 b1 hx hev
      cases hx
      rw [cnd_ite]
      split
      · rename_i hok
        obtain ⟨hok, hn⟩ := and_split hok
        have hn := blt_lt hn
        have := ev_rel g2 hok
        rw [hev] at this
        obtain ⟨a1', b1', hv, ha1, hb1⟩ := this.funcI
        have hev2 : ∀ (fr : Frame), fr.tmps = t → fr.eval f2 = .func (.func g) a1' b1' := by
          intro fr hfr
          rw [← hv]; cases f2 <;> simp [Frame.eval, Act.eval, hfr]
        split
        · rcases g7 with ⟨_, h7⟩ | ⟨l, h7, _⟩
          · subst h7
            split
            · rename_i fr2 he
              -- two blocks
              have w1 := hw.alloc (t := 0) (by omega) (o := .dfr (some [])) (o' := .deferred (some [])) (.dfr _ _ .nil)
              have x1 := e.ext n w.heap.size 0
              have w2 := w1.alloc (t := 0) hn (o := .loop .ready none fn nt tm ps.toList a d n) (o' := .loop { state := .ready, pending := none, fn := fn, tmps := t, params := ps, assign := a, body := d, defers := w.heap.size }) (by
                have h := RO.loop (P := P) (e := (e.add n w.heap.size 0).add (n + 1) (w.heap.size + 1) 0) (n := n + 1 + 1) (j := n + 1) .ready none fn nt tm t ps.toList a d n ((g2.mono x1).mono ((e.add n w.heap.size 0).ext (n + 1) _ 0)) (by omega)
                have eb : ((e.add n w.heap.size 0).add (n + 1) (w.heap.size + 1) 0).β n = w.heap.size := by
                  rw [((e.add n w.heap.size 0).ext (n + 1) _ 0).β n (by omega), Env.add_β]
                rw [eb] at h
                simpa using h)
              have x2 := (e.add n w.heap.size 0).ext (n + 1) ((w.heap.push (.deferred (some []))).size) 0
              have x12 := x1.trans x2
              have hargs : RL ((e.add n w.heap.size 0).add (n + 1) ((w.heap.push (.deferred (some []))).size) 0) (n + 1 + 1) (a1.toList ++ (Value.func (.yield (Nat.succ n)) #[] #[] :: b1.toList)) (a1'.toList ++ (Value.func (.yield (w.heap.size + 1)) #[] #[] :: b1'.toList)) := by
                refine (ha1.mono x12).append (.cons _ _ _ _ ?_ (hb1.mono x12))
                have := RV.yield (e := (e.add n w.heap.size 0).add (n + 1) ((w.heap.push (.deferred (some []))).size) 0) (n := n + 1 + 1) (n + 1) (by omega)
                rw [Env.add_β] at this
                simpa using this
              obtain ⟨h3, _, _, _, hbody, _⟩ := enter_rel hP he hargs
              have hgo := callv_run hP (ρ := (⟨f, t, .inRangeFunc (w.heap.size + 1) :: k', ⟨.collected w.heap.size, #[]⟩ :: ds, .run, kd, none⟩ : Frame).eval) (u := .func (.yield (w.heap.size + 1)) #[] #[]) (hev2 _ rfl) rfl hbody
                { w with heap := (w.heap.push (.deferred (some []))).push (.loop { state := .ready, pending := none, fn := f, tmps := t, params := ps, assign := a, body := d, defers := w.heap.size }) }
              refine top_nx (w2 := { w with heap := (w.heap.push (.deferred (some []))).push (.loop { state := .ready, pending := none, fn := f, tmps := t, params := ps, assign := a, body := d, defers := w.heap.size }) }) (cs2' := ⟨f, t, .inRangeFunc (w.heap.size + 1) :: k', ⟨.collected w.heap.size, #[]⟩ :: ds, .run, kd, none⟩ :: cs') ?_ x12 ?_ h3 (.cons _ _ _ _ ⟨g1, g2.mono x12, ?_, .cons _ _ _ _ ?_ (g4.mono x12), .run, g6, .inl ⟨rfl, rfl⟩⟩ (hcs.mono x12)) (by rw [← hb]; show bot (⟨fn, nt, ⟨.collected n, #[]⟩ :: dfs, kind, none⟩ : X) cs = _; exact bot_eq (x := ⟨fn, nt, ⟨.collected n, #[]⟩ :: dfs, kind, none⟩) (y := ⟨fn, nt, dfs, kind, none⟩) rfl rfl cs)
              · refine step_lone_go ?_
                simp only [stepG, stepG.exec, Sem.runT_eq, Instr.enterLoop, Sem.run_bind, newObj, Sem.run, Sem.run_pure, Result.andThen_ok]
                simp only [GStep.bare_after]
                simp only [Array.size_push] at *
                simp [stepG.apply, hgo]
              · have hfe : f = fn := g1
                subst hfe
                exact w2
              · have := RT.rf (e := (e.add n w.heap.size 0).add (n + 1) ((w.heap.push (.deferred (some []))).size) 0) (n := n + 1 + 1) (nt := nt) (n + 1) k k' (by omega) (hk.mono x12)
                rw [Env.add_β] at this
                simpa using this
              · have := RD.collected (e := (e.add n w.heap.size 0).add (n + 1) ((w.heap.push (.deferred (some []))).size) 0) (n := n + 1 + 1) n (by omega)
                rw [x2.β n (by omega), Env.add_β] at this
                exact this
            · trivial
          · cases h7
        · rename_i l0
          rcases g7 with ⟨h7, _⟩ | ⟨l, h7, h8, hl⟩
          · cases h7
          · simp only [Option.some.injEq] at h7 h8
            subst h7 h8
            split
            · rename_i st0 p0 fn0 nt0 tm0 ps0 a0 b0 d0 hg
              obtain ⟨tmps0, ho0, _, hd0⟩ := hw.loop hl hg
              have hget := getObj_run (P := P) ho0 (by simp)
              split
              · rename_i fr2 he
                have x1 := e.ext n w.heap.size 0
                have w1 := hw.alloc (t := 0) (by omega) (o := .loop .ready none fn nt tm ps.toList a d d0) (o' := .loop { state := .ready, pending := none, fn := fn, tmps := t, params := ps, assign := a, body := d, defers := e.β d0 }) (by
                  have h := RO.loop (P := P) (e := e.add n w.heap.size 0) (n := n + 1) (j := n) .ready none fn nt tm t ps.toList a d d0 (g2.mono x1) (by omega)
                  rw [x1.β d0 hd0] at h
                  simpa using h)
                have hargs : RL (e.add n w.heap.size 0) (n + 1) (a1.toList ++ (Value.func (.yield n) #[] #[] :: b1.toList)) (a1'.toList ++ (Value.func (.yield w.heap.size) #[] #[] :: b1'.toList)) := by
                  refine (ha1.mono x1).append (.cons _ _ _ _ ?_ (hb1.mono x1))
                  have := RV.yield (e := e.add n w.heap.size 0) (n := n + 1) n (by omega)
                  rwa [Env.add_β] at this
                obtain ⟨h3, _, _, _, hbody, _⟩ := enter_rel hP he hargs
                have hgo := callv_run hP (ρ := (⟨f, t, .inRangeFunc w.heap.size :: k', ds, .run, kd, some (e.β l0)⟩ : Frame).eval) (u := .func (.yield w.heap.size) #[] #[]) (hev2 _ rfl) rfl hbody
                  { w with heap := w.heap.push (.loop { state := .ready, pending := none, fn := f, tmps := t, params := ps, assign := a, body := d, defers := e.β d0 }) }
                refine top_nx (w2 := { w with heap := w.heap.push (.loop { state := .ready, pending := none, fn := f, tmps := t, params := ps, assign := a, body := d, defers := e.β d0 }) }) (cs2' := ⟨f, t, .inRangeFunc w.heap.size :: k', ds, .run, kd, some (e.β l0)⟩ :: cs') ?_ x1 ?_ h3 (.cons _ _ _ _ ⟨g1, g2.mono x1, ?_, g4.mono x1, .run, g6, .inr ⟨l0, rfl, by rw [x1.β l0 hl], by omega⟩⟩ (hcs.mono x1)) hb
                · refine step_lone_go ?_
                  simp only [stepG, stepG.exec, Sem.runT_eq, Instr.enterLoop, Sem.run_bind, Instr.getLoop, hget, newObj, Sem.run, Sem.run_pure, Result.andThen_ok]
                  simp only [GStep.bare_after, stepG.apply, Sem.runT_eq, if_true, List.nil_append, hgo, GStep.bare_go, List.cons_append]
                · have hfe : f = fn := g1
                  subst hfe
                  exact w1
                · have := RT.rf (e := e.add n w.heap.size 0) (n := n + 1) (nt := nt) n k k' (by omega) (hk.mono x1)
                  rw [Env.add_β] at this
                  exact this
              · trivial
            · trivial
      · trivial
    · trivial
  | refuse w2 => trivial
end

end Go.Gz
