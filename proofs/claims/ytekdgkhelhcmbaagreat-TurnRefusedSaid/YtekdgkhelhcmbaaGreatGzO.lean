/- The evaluator that the kernel runs: one step of the machine, part 1: when frames stand for frames; operations. -/
import Derived.Test.YtekdgkhelhcmbaaGreatGzN
import Derived.Recover
import Derived.Scope
namespace Go.Gz
open Go Go.Gx Go.RowKit

inductive RT (e : Env) (n nt : Nat) : List AI → List Item → Prop
  | nil : RT e n nt [] []
  | code (c : Code) (k : List AI) (k' : List Item) (h : RT e n nt k k') : RT e n nt (.code c :: k) (.code c :: k')
  | blk (id : Nat) (k : List AI) (k' : List Item) (h : RT e n nt k k') : RT e n nt (.blk id :: k) (.inBlock id :: k')
  | lp (c : Code) (k : List AI) (k' : List Item) (h : RT e n nt k k') : RT e n nt (.lp c :: k) (.inLoop c :: k')
  | sc (c : Code) (k : List AI) (k' : List Item) (h : RT e n nt k k') : RT e n nt (.sc c :: k) (.inScope c :: k')
  | ops (ops : Array Oper) (i : Nat) (k : List AI) (k' : List Item) (hok : opsOk nt ops.toList = true) (h : RT e n nt k k') : RT e n nt (.ops ops.toList (ops.toList.drop i) :: k) (.inRegion ops (List.range' i (ops.size - i)) :: k')
  | rf (l : Nat) (k : List AI) (k' : List Item) (hl : l < n) (h : RT e n nt k k') : RT e n nt (.rf l :: k) (.inRangeFunc (e.β l) :: k')
  | erf (l : Nat) (k : List AI) (k' : List Item) (hl : l < n) (h : RT e n nt k k') : RT e n nt (.erf l :: k) (.endRangeFunc (e.β l) :: k')
  | br (k : List AI) (k' : List Item) (h : RT e n nt k k') : RT e n nt (.br :: k) (.beginRound :: k')

inductive RCh (e : Env) (n : Nat) : List PanicEntry → List PanicEntry → Prop
  | nil : RCh e n [] []
  | cons (x x' : PanicEntry) (l l' : List PanicEntry) (hv : RV e n x.v x'.v) (hr : x.recovered = x'.recovered) (hg : x.goexit = x'.goexit) (hl : RCh e n l l') : RCh e n (x :: l) (x' :: l')
inductive RMd (e : Env) (n : Nat) : FrameMode → FrameMode → Prop
  | run : RMd e n .run .run
  | returning : RMd e n .returning .returning
  | panicking (l l' : List PanicEntry) (h : RCh e n l l') : RMd e n (.panicking l) (.panicking l')

def RR (e : Env) (n : Nat) (r : Option Nat) (r' : Option Nat) : Prop := (r = none ∧ r' = none) ∨ ∃ l, r = some l ∧ r' = some (e.β l) ∧ l < n

structure RF (e : Env) (n : Nat) (a : AF) (f : Frame) : Prop where
  fn : f.fn = a.x.fn
  tm : RTm e n a.x.nt a.tm f.tmps
  todo : RT e n a.x.nt a.todo f.todo
  dfs : RDs e n a.x.dfs f.defers
  mode : RMd e n a.mode f.mode
  kind : f.kind = a.x.kind
  rnd : RR e n a.x.rnd f.roundOf
inductive RFs (e : Env) (n : Nat) : List AF → List Frame → Prop
  | nil : RFs e n [] []
  | cons (a : AF) (f : Frame) (l : List AF) (l' : List Frame) (h : RF e n a f) (hl : RFs e n l l') : RFs e n (a :: l) (f :: l')

section
variable {e e' : Env} {n n' : Nat} (x : Ext e n e' n')
include x
theorem RT.mono {nt : Nat} : ∀ {k : List AI} {k' : List Item}, RT e n nt k k' → RT e' n' nt k k'
  | _, _, .nil => .nil
  | _, _, .code c k k' h => .code c k k' (RT.mono h)
  | _, _, .blk c k k' h => .blk c k k' (RT.mono h)
  | _, _, .lp c k k' h => .lp c k k' (RT.mono h)
  | _, _, .sc c k k' h => .sc c k k' (RT.mono h)
  | _, _, .ops o i k k' hok h => .ops o i k k' hok (RT.mono h)
  | _, _, .rf l k k' hl h => by rw [← x.β l hl]; exact .rf l k k' (Nat.lt_of_lt_of_le hl x.le) (RT.mono h)
  | _, _, .erf l k k' hl h => by rw [← x.β l hl]; exact .erf l k k' (Nat.lt_of_lt_of_le hl x.le) (RT.mono h)
  | _, _, .br k k' h => .br k k' (RT.mono h)
theorem RCh.mono : ∀ {l l' : List PanicEntry}, RCh e n l l' → RCh e' n' l l'
  | _, _, .nil => .nil
  | _, _, .cons a b l l' hv hr hg hl => .cons a b l l' (hv.mono x) hr hg (RCh.mono hl)
theorem RMd.mono {m m' : FrameMode} (h : RMd e n m m') : RMd e' n' m m' := by
  cases h with
  | run => exact .run
  | returning => exact .returning
  | panicking l l' h => exact .panicking l l' (h.mono x)
theorem RR.mono {r r' : Option Nat} (h : RR e n r r') : RR e' n' r r' := by
  rcases h with h | ⟨l, h1, h2, h3⟩
  · exact .inl h
  · exact .inr ⟨l, h1, by rw [x.β l h3]; exact h2, Nat.lt_of_lt_of_le h3 x.le⟩
theorem RF.mono {a : AF} {f : Frame} (h : RF e n a f) : RF e' n' a f := ⟨h.fn, h.tm.mono x, h.todo.mono x, h.dfs.mono x, h.mode.mono x, h.kind, h.rnd.mono x⟩
theorem RFs.mono : ∀ {l : List AF} {l' : List Frame}, RFs e n l l' → RFs e' n' l l'
  | _, _, .nil => .nil
  | _, _, .cons a f l l' h hl => .cons a f l l' (h.mono x) (RFs.mono hl)
end

/-- The frame at the bottom: its round, its function. -/
def bot (x : X) : List AF → Option Nat × FuncId
  | [] => (x.rnd, x.fn)
  | c :: cs => bot c.x cs

/-- What a step comes to. -/
def Nx (P : Program) (B : Base) (e : Env) (n : Nat) (fr : Frame) (cs CS : List Frame) (w : World) (b : Option Nat × FuncId) : Out → Prop
  | .go s => ∃ e' w' fr' cs', step P (lone fr (cs ++ CS) w) = .next (lone fr' (cs' ++ CS) w') ∧ Ext e n e' s.n ∧ WR P B e' s.n s.hp w' ∧ RF e' s.n ⟨s.x, s.mode, s.todo, s.tm⟩ fr' ∧ RFs e' s.n s.cs cs' ∧ bot s.x s.cs = b
  | .done v n' hp' => ∃ e' w' v', Ext e n e' n' ∧ WR P B e' n' hp' w' ∧ RV e' n' v v' ∧ cs = [] ∧ (∀ c CS', CS = c :: CS' → step P (lone fr CS w) = .next (lone (c.finish v') CS' w')) ∧ (b.1 = none → fr.fn = b.2 ∧ fr.leaving P w (.returned v') ∧ w' = w)
  | .draw ops s => s.mode = .run ∧ s.n = n ∧ opsOk s.x.nt ops.toList = true ∧ WR P B e s.n s.hp w ∧ bot s.x s.cs = b ∧ RFs e s.n s.cs cs ∧ ∃ id k', fr.todo = .code (.region id ops true) :: k' ∧ fr.mode = .run ∧ RF e s.n ⟨s.x, .run, s.todo, s.tm⟩ { fr with todo := k' }
  | .need _ s => s.n = n ∧ WR P B e n s.hp w ∧ RF e n ⟨s.x, s.mode, s.todo, s.tm⟩ fr ∧ RFs e n s.cs cs ∧ bot s.x s.cs = b
  | .head s => ∃ e' w' fr' cs', step P (lone fr (cs ++ CS) w) = .next (lone fr' (cs' ++ CS) w') ∧ Ext e n e' s.n ∧ WR P B e' s.n s.hp w' ∧ RF e' s.n ⟨s.x, s.mode, s.todo, s.tm⟩ fr' ∧ RFs e' s.n s.cs cs' ∧ bot s.x s.cs = b
  | .ent f args o x all rest k tm acs n' hp' => n' = n ∧ WR P B e n hp' w ∧ RF e n ⟨x, .run, .ops all (o :: rest) :: k, tm⟩ fr ∧ RFs e n acs cs ∧ bot x acs = b ∧ (∀ e2 n2 v v', Ext e n e2 n2 → RV e2 n2 v v' → RF e2 n2 ⟨x, .run, .ops all rest :: k, putx tm o.dst v⟩ (fr.finish v')) ∧
      ((bodyOf P f).isSome = true → ∃ args', RL e n args args' ∧ step P (lone fr (cs ++ CS) w) = .next (lone (Frame.enter P f (args' : List Value).toArray .normal) (fr :: (cs ++ CS)) w))
  | .bad _ _ => True

theorem opsOk_mem {nt : Nat} : ∀ {l : List Oper}, opsOk nt l = true → ∀ o ∈ l, dstOk nt o.dst = true ∧ opdsOk nt o.op.operands.toList = true
  | [], _, o, ho => by simp at ho
  | q :: l, h, o, ho => by
    unfold opsOk at h
    simp only [cnd_ite] at h
    split at h
    · rename_i h1
      split at h
      · rename_i h2
        rcases List.mem_cons.1 ho with rfl | ho
        · exact ⟨h1, h2⟩
        · exact opsOk_mem h o ho
      · cases h
    · cases h

section
variable {e : Env} {n nt : Nat}
def putT (t : Array Value) (d : Option Tmp) (v : Value) : Array Value :=
  match d with
  | some d => t.setIfInBounds d v
  | none => t
theorem RTm.put {tm : Tm} {tmps : Array Value} (h : RTm e n nt tm tmps) {d : Option Tmp} (hd : dstOk nt d = true) {v v' : Value} (hv : RV e n v v') :
    RTm e n nt (putx tm d v) (putT tmps d v') := by
  cases d with
  | none => exact h
  | some d =>
    have hd := blt_lt hd
    refine ⟨by simpa [putT] using h.size, h.le, fun i hi => ?_⟩
    have hs := h.size
    have hl := h.le
    show RV e n (slot (tm.set d v) i) _
    by_cases hid : d = i
    · subst hid
      rw [slot_set_same _ _ (by omega)]
      simpa [putT, hs, hd] using hv
    · rw [slot_set_ne _ _ _ (by omega) (by omega) hid]
      have := h.rel i hi
      simpa [putT, Array.getElem?_setIfInBounds_ne hid] using this

def isB (want : Bool) (u : Value) : Bool :=
  match u with
  | .bool b => b == want
  | _ => false
theorem wanted_slot {v u : Value} {hp : Hp} {want b : Bool} {m : Mu} (hm : e.m = m) (hfk : ∀ c b, decH hp c = some b → den m c = some (.bool b)) (hr : RV e n v u) (h : wantB hp want v = some b) :
    isB want u = b := by
  subst hm
  unfold wantB at h
  cases v with
  | bool b0 =>
    have := hr.boolI; subst this
    cases b0 <;> cases want <;> cases h <;> rfl
  | func fn a c =>
    cases fn with
    | methodOf op s =>
      simp only [cnd_ite] at h
      split at h
      · split at h
        · rename_i b0 hb0
          have := hr.den (hfk _ _ hb0) rfl
          subst this
          cases b0 <;> cases want <;> cases h <;> rfl
        · cases h
      · cases h
    | func => cases h; cases hr <;> rfl
    | yield => cases h; cases hr <;> rfl
    | _ => cases h; cases hr; rfl
  | _ => cases h; cases hr <;> rfl

theorem wanted_rel {tm : Tm} {tmps : Array Value} {hp : Hp} {b : Bool} {m : Mu} (h : RTm e n nt tm tmps) {ops : Array Oper} (hok : opsOk nt ops.toList = true) (o : Oper) (hm : e.m = m) (hfk : ∀ c b, decH hp c = some b → den m c = some (.bool b)) (hwa : wantedA ops.toList tm hp o = some b) :
    Region.wanted o (yielded ops tmps) = b := by
  unfold Region.wanted
  unfold wantedA at hwa
  cases hg : o.guard with
  | none => rw [hg] at hwa; cases hwa; rfl
  | some jw =>
    obtain ⟨j, want⟩ := jw
    rw [hg] at hwa
    simp only [yielded]
    have e1 : ops.toList[j]? = ops[j]? := by simp
    simp only [e1] at hwa
    cases hj : ops[j]? with
    | none => rw [hj] at hwa; cases hwa; rfl
    | some q =>
      rw [hj] at hwa
      simp only [Option.bind_some] at hwa ⊢
      cases hd : q.dst with
      | none => rw [hd] at hwa; cases hwa; rfl
      | some d =>
        rw [hd] at hwa
        simp only at hwa
        have hmq : q ∈ ops.toList := List.mem_of_getElem? (e1.trans hj)
        have := (opsOk_mem hok q hmq).1
        rw [hd] at this
        have hdn := blt_lt this
        simp only [Option.bind_some]
        have hlt : d < tmps.size := by rw [h.size]; exact hdn
        have hr := h.rel d hdn
        rw [Array.getElem?_eq_getElem hlt]
        have e2 : tmps.getD d undef = tmps[d] := by simp [Array.getD, hlt]
        rw [e2] at hr
        have := wanted_slot hm hfk hr hwa
        revert this
        generalize tmps[d] = u
        clear hr e2
        intro this
        cases u <;> exact this
end

/-! The machine at an operation. -/
section
variable {P : Program} {f : FuncId} {t : Array Value} {ops : Array Oper} {i : Nat} {rest : List Nat} {k : List Item} {ds : List Deferred} {kd : CallKind} {r : Option Nat} {cs : List Frame} {w w' : World} {o : Oper}

theorem stepG_op' (ho : ops[i]? = some o) (hw : Region.wanted o (yielded ops t) = true) (hr : r = none ∨ ∀ c, o.op ≠ .defer c) :
    stepG P true { frame := ⟨f, t, .inRegion ops (i :: rest) :: k, ds, .run, kd, r⟩, callers := cs, status := .running, dying := none } w =
      stepG.apply P true ⟨f, t, .inRegion ops (i :: rest) :: k, ds, .run, kd, r⟩ cs none (execOp (⟨t, []⟩ : Act).eval o) w := by
  have he : (⟨f, t, .inRegion ops (i :: rest) :: k, ds, .run, kd, r⟩ : Frame).eval = (⟨t, []⟩ : Act).eval := by
    funext x; cases x <;> rfl
  simp only [stepG, stepG.exec, ho, Option.map_some, Option.getD_some, hw, if_true, stepG.oper, Frame.oper?]
  rw [he]
  rcases hr with rfl | hr
  · rfl
  · cases r with
    | none => rfl
    | some l =>
      cases hop : o.op <;> first | rfl | exact absurd hop (hr _)

theorem step_skip' (h : ops[i]? = some o) (hw : Region.wanted o (yielded ops t) = false) :
    step P (lone ⟨f, t, .inRegion ops (i :: rest) :: k, ds, .run, kd, r⟩ cs w) = .next (lone ⟨f, putT t o.dst undef, .inRegion ops rest :: k, ds, .run, kd, r⟩ cs w) := by
  refine step_lone_go ?_
  simp only [stepG, stepG.exec, h, Option.map_some, Option.getD_some, hw, Bool.false_eq_true, if_false, Frame.finish, Option.bind_some]
  rfl

theorem op_value (ho : ops[i]? = some o) (hw : Region.wanted o (yielded ops t) = true) (hr : r = none ∨ ∀ c, o.op ≠ .defer c) {v : Value} (h : (execOp (⟨t, []⟩ : Act).eval o).run P w = .ok (.value v) w' ∨ ((execOp (⟨t, []⟩ : Act).eval o).run P w = .ok .skip w' ∧ v = undef)) :
    step P (lone ⟨f, t, .inRegion ops (i :: rest) :: k, ds, .run, kd, r⟩ cs w) = .next (lone ⟨f, putT t o.dst v, .inRegion ops rest :: k, ds, .run, kd, r⟩ cs w') := by
  refine step_lone_go ?_
  rw [stepG_op' ho hw hr]
  rcases h with h | ⟨h, rfl⟩ <;> (simp [stepG.apply, h, Frame.finish, ho]; rfl)

theorem op_enter (ho : ops[i]? = some o) (hw : Region.wanted o (yielded ops t) = true) (hr : r = none ∨ ∀ c, o.op ≠ .defer c) {g : FuncId} {args : Array Value} (h : (execOp (⟨t, []⟩ : Act).eval o).run P w = .ok (.enter g args) w') :
    step P (lone ⟨f, t, .inRegion ops (i :: rest) :: k, ds, .run, kd, r⟩ cs w) = .next (lone (Frame.enter P g args .normal) (⟨f, t, .inRegion ops (i :: rest) :: k, ds, .run, kd, r⟩ :: cs) w') := by
  refine step_lone_go ?_
  rw [stepG_op' ho hw hr]
  simp [stepG.apply, h]

theorem op_round (ho : ops[i]? = some o) (hw : Region.wanted o (yielded ops t) = true) (hr : r = none ∨ ∀ c, o.op ≠ .defer c) {l : Nat} {g : FuncId} {tmps : Array Value} {a b : Code} (h : (execOp (⟨t, []⟩ : Act).eval o).run P w = .ok (.round l g tmps a b) w') :
    step P (lone ⟨f, t, .inRegion ops (i :: rest) :: k, ds, .run, kd, r⟩ cs w) = .next (lone (Frame.round l g tmps a b .normal) (⟨f, t, .inRegion ops (i :: rest) :: k, ds, .run, kd, r⟩ :: cs) w') := by
  refine step_lone_go ?_
  rw [stepG_op' ho hw hr]
  simp [stepG.apply, h]

theorem op_defer (ho : ops[i]? = some o) (hw : Region.wanted o (yielded ops t) = true) {d : Deferred} (h : (execOp (⟨t, []⟩ : Act).eval o).run P w = .ok (.defer d) w') :
    step P (lone ⟨f, t, .inRegion ops (i :: rest) :: k, ds, .run, kd, none⟩ cs w) = .next (lone ⟨f, putT t o.dst undef, .inRegion ops rest :: k, d :: ds, .run, kd, none⟩ cs w') := by
  refine step_lone_go ?_
  rw [stepG_op' ho hw (.inl rfl)]
  simp [stepG.apply, h, Frame.finish, ho]; rfl

theorem op_panic (ho : ops[i]? = some o) (hw : Region.wanted o (yielded ops t) = true) (hr : r = none ∨ ∀ c, o.op ≠ .defer c) {v : Value} (h : (execOp (⟨t, []⟩ : Act).eval o).run P w = .halt (.panic v) w') :
    step P (lone ⟨f, t, .inRegion ops (i :: rest) :: k, ds, .run, kd, r⟩ cs w) = .next (lone ⟨f, t, .inRegion ops (i :: rest) :: k, ds, .panicking [{ v, recovered := false }], kd, r⟩ cs w') := by
  refine step_lone_go ?_
  rw [stepG_op' ho hw hr]
  simp [stepG.apply, h, Frame.raise]

theorem op_recover (ho : ops[i]? = some o) (hw : Region.wanted o (yielded ops t) = true) (h : (execOp (⟨t, []⟩ : Act).eval o).run P w = .ok .recover w') :
    step P (lone ⟨f, t, .inRegion ops (i :: rest) :: k, ds, .run, .deferred, none⟩ cs w) =
      match recoverD cs with
      | some (v, cs') => .next (lone ⟨f, putT t o.dst v, .inRegion ops rest :: k, ds, .run, .deferred, none⟩ cs' w')
      | none => .next (lone ⟨f, putT t o.dst .nilIface, .inRegion ops rest :: k, ds, .run, .deferred, none⟩ cs w') := by
  have htr := tryRecover_deferred (fr := (⟨f, t, .inRegion ops (i :: rest) :: k, ds, .run, .deferred, none⟩ : Frame)) rfl cs
  cases hc : recoverD cs with
  | none =>
    rw [hc] at htr
    refine step_lone_go ?_
    rw [stepG_op' ho hw (.inl rfl)]
    simp [stepG.apply, h, htr, Frame.finish, ho]; rfl
  | some p =>
    obtain ⟨v, cs'⟩ := p
    rw [hc] at htr
    refine step_lone_go ?_
    rw [stepG_op' ho hw (.inl rfl)]
    simp [stepG.apply, h, htr, Frame.finish, ho]; rfl
end

end Go.Gz
