/- The evaluator that the kernel runs: one step of the machine, part 1: when frames stand for frames; operations. -/
import Derived.Test.YteglommbdpaokaaGreatGzN
import Derived.Recover
import Derived.Scope
namespace Go.Gz
open Go Go.Gx Go.RowKit
inductive RT (e : Env) (n nt : Nat) : List AI → List Item → Prop
 | nil : RT e n nt [] []
 | code (c : Code) (k : List AI) (k' : List Item) (h : RT e n nt k k') : RT e n nt (.code c :: k) (.code c :: k')
 | blk (id : Nat) (k : List AI) (k' : List Item) (h : RT e n nt k k') : RT e n nt (.blk id :: k) (.inBlock id :: k')
 | lp (c : Code) (k : List AI) (k' : List Item) (h : RT e n nt k k') : RT e n nt (.lp c :: k) (.inLoop c :: k')
 | sc (c : Code) (k : List AI) (k' : List Item) (h : RT e n nt k k') : RT e n nt (.sc c :: k) (.inScope c :: k')
 | ops (ops : Array Oper) (i : Nat) (k : List AI) (k' : List Item) (hok : opsOk nt ops.toList = true) (h : RT e n nt k k') : RT e n nt (.ops ops.toList (ops.toList.drop i) :: k) (.inRegion ops (List.range' i (ops.size - i)) :: k')
 | rf (l : Nat) (k : List AI) (k' : List Item) (hl : l < n) (h : RT e n nt k k') : RT e n nt (.rf l :: k) (.inRangeFunc (e.β l) :: k')
 | erf (l : Nat) (k : List AI) (k' : List Item) (hl : l < n) (h : RT e n nt k k') : RT e n nt (.erf l :: k) (.endRangeFunc (e.β l) :: k')
 | br (k : List AI) (k' : List Item) (h : RT e n nt k k') : RT e n nt (.br :: k) (.beginRound :: k')
inductive RCh (e : Env) (n : Nat) : List PanicEntry → List PanicEntry → Prop
 | nil : RCh e n [] []
 | cons (x x' : PanicEntry) (l l' : List PanicEntry) (hv : RV e n x.v x'.v) (hr : x.recovered = x'.recovered) (hg : x.goexit = x'.goexit) (hl : RCh e n l l') : RCh e n (x :: l) (x' :: l')
inductive RMd (e : Env) (n : Nat) : FrameMode → FrameMode → Prop
 | run : RMd e n .run .run
 | returning : RMd e n .returning .returning
 | panicking (l l' : List PanicEntry) (h : RCh e n l l') : RMd e n (.panicking l) (.panicking l')
def RR (e : Env) (n : Nat) (r : Option Nat) (r' : Option Nat) : Prop := (r = none ∧ r' = none) ∨ ∃ l, r = some l ∧ r' = some (e.β l) ∧ l < n
structure RF (e : Env) (n : Nat) (a : AF) (f : Frame) : Prop where
 fn : f.fn = a.x.fn
 tm : RTm e n a.x.nt a.tm f.tmps
 todo : RT e n a.x.nt a.todo f.todo
 dfs : RDs e n a.x.dfs f.defers
 mode : RMd e n a.mode f.mode
 kind : f.kind = a.x.kind
 rnd : RR e n a.x.rnd f.roundOf
inductive RFs (e : Env) (n : Nat) : List AF → List Frame → Prop
 | nil : RFs e n [] []
 | cons (a : AF) (f : Frame) (l : List AF) (l' : List Frame) (h : RF e n a f) (hl : RFs e n l l') : RFs e n (a :: l) (f :: l')
section
variable {e e' : Env} {n n' : Nat} (x : Ext e n e' n')
include x
theorem RT.mono {nt : Nat} : ∀ {k : List AI} {k' : List Item}, RT e n nt k k' → RT e' n' nt k k'
 | _, _, .nil => .nil
 | _, _, .code c k k' h => .code c k k' (RT.mono h)
 | _, _, .blk c k k' h => .blk c k k' (RT.mono h)
 | _, _, .lp c k k' h => .lp c k k' (RT.mono h)
 | _, _, .sc c k k' h => .sc c k k' (RT.mono h)
 | _, _, .ops o i k k' hok h => .ops o i k k' hok (RT.mono h)
 | _, _, .rf l k k' hl h => by rw [← x.β l hl]; exact .rf l k k' (Nat.lt_of_lt_of_le hl x.le) (RT.mono h)
 | _, _, .erf l k k' hl h => by rw [← x.β l hl]; exact .erf l k k' (Nat.lt_of_lt_of_le hl x.le) (RT.mono h)
 | _, _, .br k k' h => .br k k' (RT.mono h)
theorem RCh.mono : ∀ {l l' : List PanicEntry}, RCh e n l l' → RCh e' n' l l'
 | _, _, .nil => .nil
 | _, _, .cons a b l l' hv hr hg hl => .cons a b l l' (hv.mono x) hr hg (RCh.mono hl)
theorem RMd.mono {m m' : FrameMode} (h : RMd e n m m') : RMd e' n' m m' := by
 cases h with
 | run => exact .run
 | returning => exact .returning
 | panicking l l' h => exact .panicking l l' (h.mono x)
theorem RR.mono {r r' : Option Nat} (h : RR e n r r') : RR e' n' r r' := by
 rcases h with h | ⟨l, h1, h2, h3⟩
 ·exact .inl h
 ·exact .inr ⟨l, h1, by rw [x.β l h3]; exact h2, Nat.lt_of_lt_of_le h3 x.le⟩
theorem RF.mono {a : AF} {f : Frame} (h : RF e n a f) : RF e' n' a f := ⟨h.fn, h.tm.mono x, h.todo.mono x, h.dfs.mono x, h.mode.mono x, h.kind, h.rnd.mono x⟩
theorem RFs.mono : ∀ {l : List AF} {l' : List Frame}, RFs e n l l' → RFs e' n' l l'
 | _, _, .nil => .nil
 | _, _, .cons a f l l' h hl => .cons a f l l' (h.mono x) (RFs.mono hl)
end
def bot (x : X) : List AF → Option Nat × FuncId
 | [] => (x.rnd, x.fn)
 | c :: cs => bot c.x cs
def Nx (P : Program) (B : Base) (e : Env) (n : Nat) (fr : Frame) (cs CS : List Frame) (w : World) (b : Option Nat × FuncId) : Out → Prop
 | .go s => ∃ e' w' fr' cs', step P (lone fr (cs ++ CS) w) = .next (lone fr' (cs' ++ CS) w') ∧ Ext e n e' s.n ∧ WR P B e' s.n s.hp w' ∧ RF e' s.n ⟨s.x, s.mode, s.todo, s.tm⟩ fr' ∧ RFs e' s.n s.cs cs' ∧ bot s.x s.cs = b
 | .done v n' hp' => ∃ e' w' v', Ext e n e' n' ∧ WR P B e' n' hp' w' ∧ RV e' n' v v' ∧ cs = [] ∧ (∀ c CS', CS = c :: CS' → step P (lone fr CS w) = .next (lone (c.finish v') CS' w')) ∧ (b.1 = none → fr.fn = b.2 ∧ fr.leaving P w (.returned v') ∧ w' = w)
 | .draw ops s => s.mode = .run ∧ s.n = n ∧ opsOk s.x.nt ops.toList = true ∧ WR P B e s.n s.hp w ∧ bot s.x s.cs = b ∧ RFs e s.n s.cs cs ∧ ∃ id k', fr.todo = .code (.region id ops true) :: k' ∧ fr.mode = .run ∧ RF e s.n ⟨s.x, .run, s.todo, s.tm⟩ { fr with todo := k' }
 | .need _ s => s.n = n ∧ WR P B e n s.hp w ∧ RF e n ⟨s.x, s.mode, s.todo, s.tm⟩ fr ∧ RFs e n s.cs cs ∧ bot s.x s.cs = b
 | .head s => ∃ e' w' fr' cs', step P (lone fr (cs ++ CS) w) = .next (lone fr' (cs' ++ CS) w') ∧ Ext e n e' s.n ∧ WR P B e' s.n s.hp w' ∧ RF e' s.n ⟨s.x, s.mode, s.todo, s.tm⟩ fr' ∧ RFs e' s.n s.cs cs' ∧ bot s.x s.cs = b
 | .ent f args o x all rest k tm acs n' hp' => n' = n ∧ WR P B e n hp' w ∧ RF e n ⟨x, .run, .ops all (o :: rest) :: k, tm⟩ fr ∧ RFs e n acs cs ∧ bot x acs = b ∧ (∀ e2 n2 v v', Ext e n e2 n2 → RV e2 n2 v v' → RF e2 n2 ⟨x, .run, .ops all rest :: k, putx tm o.dst v⟩ (fr.finish v')) ∧
  ((bodyOf P f).isSome = true → ∃ args', RL e n args args' ∧ step P (lone fr (cs ++ CS) w) = .next (lone (Frame.enter P f (args' : List Value).toArray .normal) (fr :: (cs ++ CS)) w))
 | .bad _ _ => True
theorem opsOk_mem {nt : Nat} : ∀ {l : List Oper}, opsOk nt l = true → ∀ o ∈ l, dstOk nt o.dst = true ∧ opdsOk nt o.op.operands.toList = true
 | [], _, o, ho => by simp at ho
 | q :: l, h, o, ho => by
   unfold opsOk at h
   simp only [zaa] at h
   split at h
   ·rename_i h1
    split at h
    ·rename_i h2
     rcases List.mem_cons.1 ho with rfl | ho
     ·exact ⟨h1, h2⟩
     ·exact opsOk_mem h o ho
    ·cases h
   ·cases h
section
variable {e : Env} {n nt : Nat}
def putT (t : Array Value) (d : Option Tmp) (v : Value) : Array Value :=
 match d with
 | some d => t.setIfInBounds d v
 | none => t
theorem RTm.put {tm : Tm} {tmps : Array Value} (h : RTm e n nt tm tmps) {d : Option Tmp} (hd : dstOk nt d = true) {v v' : Value} (hv : RV e n v v') :
  RTm e n nt (putx tm d v) (putT tmps d v') := by
 cases d with
 | none => exact h
 | some d =>
   have hd := blt_lt hd
   refine ⟨by simpa [putT] using h.size, h.le, fun i hi => ?_⟩
   have hs := h.size
   have hl := h.le
   show RV e n (slot (tm.set d v) i) _
   by_cases hid : d = i
   ·subst hid
    rw [slot_set_same _ _ (by omega)]
    simpa [putT, hs, hd] using hv
   ·rw [slot_set_ne _ _ _ (by omega) (by omega) hid]
    have := h.rel i hi
    simpa [putT, Array.getElem?_setIfInBounds_ne hid] using this
def isB (want : Bool) (u : Value) : Bool :=
 match u with
 | .bool b => b == want
 | _ => false
theorem wanted_slot {v u : Value} {hp : Hp} {want b : Bool} {m : Mu} (hm : e.m = m) (hfk : ∀ c b, decH hp c = some b → den m c = some (.bool b)) (hr : RV e n v u) (h : wantB hp want v = some b) :
  isB want u = b := by
 subst hm
 unfold wantB at h
 cases v with
 | bool b0 =>
   have := hr.boolI; subst this
   cases b0 <;> cases want <;> cases h <;> rfl
 | func fn a c =>
   cases fn with
   | methodOf op s =>
     simp only [zaa] at h
     split at h
     ·split at h
      ·rename_i b0 hb0
       have := hr.den (hfk _ _ hb0) rfl
       subst this
       cases b0 <;> cases want <;> cases h <;> rfl
      ·cases h
     ·cases h
   | func => cases h; cases hr <;> rfl
   | yield => cases h; cases hr <;> rfl
   | _ => cases h; cases hr; rfl
 | _ => cases h; cases hr <;> rfl
theorem wanted_rel {tm : Tm} {tmps : Array Value} {hp : Hp} {b : Bool} {m : Mu} (h : RTm e n nt tm tmps) {ops : Array Oper} (hok : opsOk nt ops.toList = true) (o : Oper) (hm : e.m = m) (hfk : ∀ c b, decH hp c = some b → den m c = some (.bool b)) (hwa : wantedA ops.toList tm hp o = some b) :
  Region.wanted o (yielded ops tmps) = b := by
 unfold Region.wanted
 unfold wantedA at hwa
 cases hg : o.guard with
 | none => rw [hg] at hwa; cases hwa; rfl
 | some jw =>
   obtain ⟨j, want⟩ := jw
   rw [hg] at hwa
   simp only [yielded]
   have e1 : ops.toList[j]? = ops[j]? := by simp
   simp only [e1] at hwa
   cases hj : ops[j]? with
   | none => rw [hj] at hwa; cases hwa; rfl
   | some q =>
     rw [hj] at hwa
     simp only [Option.bind_some] at hwa ⊢
     cases hd : q.dst with
     | none => rw [hd] at hwa; cases hwa; rfl
     | some d =>
       rw [hd] at hwa
       simp only at hwa
       have hmq : q ∈ ops.toList := List.mem_of_getElem? (e1.trans hj)
       have := (opsOk_mem hok q hmq).1
       rw [hd] at this
       have hdn := blt_lt this
       simp only [Option.bind_some]
       have hlt : d < tmps.size := by rw [h.size]; exact hdn
       have hr := h.rel d hdn
       rw [Array.getElem?_eq_getElem hlt]
       have e2 : tmps.getD d undef = tmps[d] := by simp [Array.getD, hlt]
       rw [e2] at hr
       have := wanted_slot hm hfk hr hwa
       revert this
       generalize tmps[d] = u
       clear hr e2
       intro this
       cases u <;> exact this
end
section
variable {P : Program} {f : FuncId} {t : Array Value} {ops : Array Oper} {i : Nat} {rest : List Nat} {k : List Item} {ds : List Deferred} {kd : CallKind} {r : Option Nat} {cs : List Frame} {w w' : World} {o : Oper}
theorem stepG_op' (ho : ops[i]? = some o) (hw : Region.wanted o (yielded ops t) = true) (hr : r = none ∨ ∀ c, o.op ≠ .defer c) :
  stepG P true { frame := ⟨f, t, .inRegion ops (i :: rest) :: k, ds, .run, kd, r⟩, callers := cs, status := .running, dying := none } w =
   stepG.apply P true ⟨f, t, .inRegion ops (i :: rest) :: k, ds, .run, kd, r⟩ cs none (execOp (⟨t, []⟩ : Act).eval o) w := by
 have he : (⟨f, t, .inRegion ops (i :: rest) :: k, ds, .run, kd, r⟩ : Frame).eval = (⟨t, []⟩ : Act).eval := by
  funext x; cases x <;> rfl
 simp only [stepG, stepG.exec, ho, Option.map_some, Option.getD_some, hw, if_true, stepG.oper, Frame.oper?]
 rw [he]
 rcases hr with rfl | hr
 ·rfl
 ·cases r with
  | none => rfl
  | some l =>
    cases hop : o.op <;> first | rfl | exact absurd hop (hr _)
theorem step_skip' (h : ops[i]? = some o) (hw : Region.wanted o (yielded ops t) = false) :
  step P (lone ⟨f, t, .inRegion ops (i :: rest) :: k, ds, .run, kd, r⟩ cs w) = .next (lone ⟨f, putT t o.dst undef, .inRegion ops rest :: k, ds, .run, kd, r⟩ cs w) := by
 refine step_lone_go ?_
 simp only [stepG, stepG.exec, h, Option.map_some, Option.getD_some, hw, Bool.false_eq_true, if_false, Frame.finish, Option.bind_some]
 rfl
theorem op_value (ho : ops[i]? = some o) (hw : Region.wanted o (yielded ops t) = true) (hr : r = none ∨ ∀ c, o.op ≠ .defer c) {v : Value} (h : (execOp (⟨t, []⟩ : Act).eval o).run P w = .ok (.value v) w' ∨ ((execOp (⟨t, []⟩ : Act).eval o).run P w = .ok .skip w' ∧ v = undef)) :
  step P (lone ⟨f, t, .inRegion ops (i :: rest) :: k, ds, .run, kd, r⟩ cs w) = .next (lone ⟨f, putT t o.dst v, .inRegion ops rest :: k, ds, .run, kd, r⟩ cs w') := by
 refine step_lone_go ?_
 rw [stepG_op' ho hw hr]
 rcases h with h | ⟨h, rfl⟩ <;> (simp [stepG.apply, h, Frame.finish, ho]; rfl)
theorem op_enter (ho : ops[i]? = some o) (hw : Region.wanted o (yielded ops t) = true) (hr : r = none ∨ ∀ c, o.op ≠ .defer c) {g : FuncId} {args : Array Value} (h : (execOp (⟨t, []⟩ : Act).eval o).run P w = .ok (.enter g args) w') :
  step P (lone ⟨f, t, .inRegion ops (i :: rest) :: k, ds, .run, kd, r⟩ cs w) = .next (lone (Frame.enter P g args .normal) (⟨f, t, .inRegion ops (i :: rest) :: k, ds, .run, kd, r⟩ :: cs) w') := by
 refine step_lone_go ?_
 rw [stepG_op' ho hw hr]
 simp [stepG.apply, h]
theorem op_round (ho : ops[i]? = some o) (hw : Region.wanted o (yielded ops t) = true) (hr : r = none ∨ ∀ c, o.op ≠ .defer c) {l : Nat} {g : FuncId} {tmps : Array Value} {a b : Code} (h : (execOp (⟨t, []⟩ : Act).eval o).run P w = .ok (.round l g tmps a b) w') :
  step P (lone ⟨f, t, .inRegion ops (i :: rest) :: k, ds, .run, kd, r⟩ cs w) = .next (lone (Frame.round l g tmps a b .normal) (⟨f, t, .inRegion ops (i :: rest) :: k, ds, .run, kd, r⟩ :: cs) w') := by
 refine step_lone_go ?_
 rw [stepG_op' ho hw hr]
 simp [stepG.apply, h]
theorem op_defer (ho : ops[i]? = some o) (hw : Region.wanted o (yielded ops t) = true) {d : Deferred} (h : (execOp (⟨t, []⟩ : Act).eval o).run P w = .ok (.defer d) w') :
  step P (lone ⟨f, t, .inRegion ops (i :: rest) :: k, ds, .run, kd, none⟩ cs w) = .next (lone ⟨f, putT t o.dst undef, .inRegion ops rest :: k, d :: ds, .run, kd, none⟩ cs w') := by
 refine step_lone_go ?_
 rw [stepG_op' ho hw (.inl rfl)]
 simp [stepG.apply, h, Frame.finish, ho]; rfl
theorem op_panic (ho : ops[i]? = some o) (hw : Region.wanted o (yielded ops t) = true) (hr : r = none ∨ ∀ c, o.op ≠ .defer c) {v : Value} (h : (execOp (⟨t, []⟩ : Act).eval o).run P w = .halt (.panic v) w') :
  step P (lone ⟨f, t, .inRegion ops (i :: rest) :: k, ds, .run, kd, r⟩ cs w) = .next (lone ⟨f, t, .inRegion ops (i :: rest) :: k, ds, .panicking [{ v, recovered := false }], kd, r⟩ cs w') := by
 refine step_lone_go ?_
 rw [stepG_op' ho hw hr]
 simp [stepG.apply, h, Frame.raise]
theorem op_recover (ho : ops[i]? = some o) (hw : Region.wanted o (yielded ops t) = true) (h : (execOp (⟨t, []⟩ : Act).eval o).run P w = .ok .recover w') :
  step P (lone ⟨f, t, .inRegion ops (i :: rest) :: k, ds, .run, .deferred, none⟩ cs w) =
   match recoverD cs with
   | some (v, cs') => .next (lone ⟨f, putT t o.dst v, .inRegion ops rest :: k, ds, .run, .deferred, none⟩ cs' w')
   | none => .next (lone ⟨f, putT t o.dst .nilIface, .inRegion ops rest :: k, ds, .run, .deferred, none⟩ cs w') := by
 have htr := tryRecover_deferred (fr := (⟨f, t, .inRegion ops (i :: rest) :: k, ds, .run, .deferred, none⟩ : Frame)) rfl cs
 cases hc : recoverD cs with
 | none =>
   rw [hc] at htr
   refine step_lone_go ?_
   rw [stepG_op' ho hw (.inl rfl)]
   simp [stepG.apply, h, htr, Frame.finish, ho]; rfl
 | some p =>
   obtain ⟨v, cs'⟩ := p
   rw [hc] at htr
   refine step_lone_go ?_
   rw [stepG_op' ho hw (.inl rfl)]
   simp [stepG.apply, h, htr, Frame.finish, ho]; rfl
end
end Go.Gz
namespace Go.Gz
open Go Go.Gx Go.RowKit
section
variable {P : Program} (hP : Small P) {B : Base} {e : Env} {n : Nat} {hp : Hp} {w : World} {CS : List Frame}
theorem ofList_rel {nt : Nat} (hnt : nt ≤ 512) : ∀ (l l' : List Value) (k : Nat) (t : Tm) (a : Array Value), RL e n l l' → k + l.length ≤ nt → a.size = nt → (∀ i, i < nt → RV e n (slot t i) (a.getD i undef)) →
  ∀ i, i < nt → RV e n (slot (Tm.ofList t k l) i) ((if k ≤ i ∧ i < k + l.length then l'[i - k]? else some (a.getD i undef)).getD undef)
 | [], _, k, t, a, .nil, _, _, h, i, hi => by simp [Tm.ofList]; rw [if_neg (by omega)]; simpa using h i hi
 | v :: l, _, k, t, a, .cons _ v' _ l' hv hl, hk, hs, h, i, hi => by
   simp only [List.length_cons] at hk ⊢
   have := ofList_rel hnt l l' (k + 1) (t.set k v) (a.setIfInBounds k v') hl (by omega) (by simpa using hs) (by
    intro j hj
    by_cases hjk : k = j
    ·subst hjk
     rw [slot_set_same _ _ (by omega)]
     simpa [hs, hj] using hv
    ·rw [slot_set_ne _ _ _ (by omega) (by omega) hjk]
     simpa [Array.getElem?_setIfInBounds_ne hjk] using h j hj) i hi
   rw [Tm.ofList]
   by_cases h1 : k + 1 ≤ i ∧ i < k + 1 + l.length
   ·rw [if_pos h1] at this
    rw [if_pos (by omega), show i - k = (i - (k + 1)) + 1 by omega, List.getElem?_cons_succ]
    exact this
   ·rw [if_neg h1] at this
    by_cases h2 : i = k
    ·subst h2
     rw [if_pos (by omega)]
     simp only [Nat.sub_self, List.getElem?_cons_zero, Option.getD_some]
     simpa [hs, hi] using this
    ·rw [if_neg (by omega)]
     simpa [Array.getElem?_setIfInBounds_ne (Ne.symm h2)] using this
include hP
theorem bodyOf_some {f : FuncId} {c : Code} {nt : Nat} (h : bodyOf P f = some (c, nt)) : ∃ fn, P.funcs[f]? = some fn ∧ fn.body = some c ∧ fn.ntmps = nt ∧ nt ≤ 512 ∧ resOk nt fn.results.toList = true ∧ (ftab P).get f = some fn ∧ f < 4096 := by
 unfold bodyOf at h
 rw [zaa] at h
 split at h
 ·rename_i hb
  split at h
  ·rename_i fn hf
   split at h
   ·rename_i c' hc
    rw [zaa] at h
    split at h
    ·rename_i hk
     obtain ⟨h1, h2⟩ := zac hk
     cases h
     exact ⟨fn, ftab_get hP (blt_lt hb) hf, hc, rfl, zaw h1, h2, hf, blt_lt hb⟩
    ·cases h
   ·cases h
  ·cases h
 ·cases h
theorem enter_rel {f : FuncId} {args args' : List Value} {kind : CallKind} {fr : AF} (h : enterF P f args kind = some fr) (hr : RL e n args args') :
  RF e n fr (Frame.enter P f args'.toArray kind) ∧ fr.mode = .run ∧ fr.x.fn = f ∧ fr.x.rnd = none ∧ (bodyOf P f).isSome = true ∧ fr.x.kind = kind := by
 unfold enterF at h
 split at h
 ·rename_i c nt hb
  rw [zaa] at h
  split at h
  ·rename_i hle
   have hle := zaw hle
   cases h
   obtain ⟨fn, hf, hbody, hnt, h512, _, _, _⟩ := bodyOf_some hP hb
   have hlen := hr.length
   have e1 : Frame.enter P f args'.toArray kind = ⟨f, args'.toArray ++ Array.replicate (nt - args'.length) undef, [.code c], [], .run, kind, none⟩ := by
    simp [Frame.enter, hf, hbody, hnt]
   rw [e1]
   refine ⟨⟨rfl, ⟨by simp; omega, h512, fun i hi => ?_⟩, .code c _ _ .nil, .nil, .run, rfl, .inl ⟨rfl, rfl⟩⟩, rfl, rfl, rfl, by rw [hb]; rfl, rfl⟩
   have := ofList_rel h512 args args' 0 .none (Array.replicate nt undef) hr (by omega) (by simp) (fun j hj => by rw [slot_none]; simpa [hj] using RV.plain undef rfl) i hi
   simp only [Nat.zero_le, true_and, Nat.zero_add, Nat.sub_zero] at this
   show RV e n (slot (Tm.ofList .none 0 args) i) _
   have e2 : (args'.toArray ++ Array.replicate (nt - args'.length) undef).getD i undef = ((if i < args.length then args'[i]? else some ((Array.replicate nt undef).getD i undef)).getD undef) := by
    by_cases hia : i < args.length
    ·rw [if_pos hia]
     have : i < args'.toArray.size := by simp; omega
     simp [Array.getElem?_append, hlen ▸ hia]
    ·rw [if_neg hia]
     have : ¬ i < args'.length := by omega
     simp [Array.getElem?_append, this, hi, Array.getElem?_replicate]
     split <;> rfl
   rw [e2]; exact this
  ·cases h
 ·cases h
omit hP
theorem WR.loop (hw : WR P B e n hp w) {b : Nat} (hb : b < n) {st : LoopState} {pend : Option Code} {fn : FuncId} {nt : Nat} {tm : Tm} {ps : List Tmp} {a c : Code} {d : Nat} (h : hp.get b = .loop st pend fn nt tm ps a c d) :
  ∃ tmps, w.heap[e.β b]? = some (.loop { state := st, pending := pend, fn := fn, tmps := tmps, params := ps.toArray, assign := a, body := c, defers := e.β d }) ∧ RTm e n nt tm tmps ∧ d < n := by
 obtain ⟨o, ho, hr⟩ := hw.obj b hb (by rw [h]; simp)
 rw [h] at hr
 cases hr with
 | loop _ _ _ _ _ tmps _ _ _ _ ht hd => exact ⟨tmps, ho, ht, hd⟩
theorem putArgs_rel {nt : Nat} : ∀ (ps : List Tmp) (l l' : List Value) (tm tm2 : Tm) (tmps : Array Value), RL e n l l' → RTm e n nt tm tmps → putArgs nt tm ps l = some tm2 →
  ps.length = l'.length ∧ RTm e n nt tm2 ((ps.zip l').foldl (fun t (p : Tmp × Value) => t.setIfInBounds p.1 p.2) tmps)
 | [], [], _, tm, tm2, tmps, .nil, ht, h => by simp [putArgs] at h; subst h; exact ⟨rfl, by simpa using ht⟩
 | p :: ps, v :: l, _, tm, tm2, tmps, .cons _ v' _ l' hv hl, ht, h => by
   simp only [putArgs, zaa] at h
   split at h
   ·rename_i hp
    have := ht.put (d := some p) (v := v) (v' := v') hp hv
    obtain ⟨h1, h2⟩ := putArgs_rel ps l l' _ tm2 _ hl this h
    exact ⟨by simp [h1], by simpa [putT] using h2⟩
   ·cases h
 | [], _ :: _, _, _, _, _, _, _, h => by simp [putArgs] at h
 | _ :: _, [], _, _, _, _, _, _, h => by simp [putArgs] at h
theorem round_rel (hw : WR P B e n hp w) {l : Nat} (hl : l < n) {args args' : List Value} {fr : AF} (h : roundF hp l args = some fr) (hr : RL e n args args') :
  ∃ g tmps a b, (Instr.yield (e.β l) args'.toArray).run P w = .ok (.round (e.β l) g tmps a b) w ∧ RF e n fr (Frame.round (e.β l) g tmps a b .normal) ∧ fr.mode = .run ∧ fr.x.kind = .normal := by
 unfold roundF at h
 split at h
 ·rename_i st pend fn nt tm ps a b d hg
  simp only [Option.map_eq_some_iff] at h
  obtain ⟨tm2, h1, rfl⟩ := h
  obtain ⟨tmps, ho, ht, hd⟩ := hw.loop hl hg
  obtain ⟨h2, h3⟩ := putArgs_rel ps args args' tm tm2 tmps hr ht h1
  have hget := getObj_run (P := P) ho (by simp)
  refine ⟨fn, _, a, b, ?_, ⟨rfl, h3, .code a _ _ (.br _ _ (.code b _ _ .nil)), .nil, .run, rfl, .inr ⟨l, rfl, rfl, hl⟩⟩, rfl, rfl⟩
  simp [Instr.yield, Instr.getLoop, hget, h2]
 ·cases h
theorem RFs.app (_h : True) : True := trivial
theorem top_nx {fr : Frame} {cs : List Frame} {b : Option Nat × FuncId} {fr2 : AF} {cs2 : List AF} {n2 : Nat} {hp2 : Hp} {e2 : Env} {w2 : World} {f2 : Frame} {cs2' : List Frame}
  (h1 : step P (lone fr (cs ++ CS) w) = .next (lone f2 (cs2' ++ CS) w2)) (hx : Ext e n e2 n2) (h2 : WR P B e2 n2 hp2 w2) (h3 : RF e2 n2 fr2 f2) (h4 : RFs e2 n2 cs2 cs2') (h5 : bot fr2.x cs2 = b) : Nx P B e n fr cs CS w b (top fr2 cs2 n2 hp2) := by
 obtain ⟨x, mode, todo, tm⟩ := fr2
 exact ⟨e2, w2, f2, cs2', h1, hx, h2, h3, h4, h5⟩
include hP
theorem ops_sound (hw : WR P B e n hp w) {x : X} {tm : Tm} {cs : List AF} {all rest : List Oper} {k : List AI} {fr : Frame} {cs' : List Frame} (hf : RF e n ⟨x, .run, .ops all rest :: k, tm⟩ fr) (hcs : RFs e n cs cs') {b : Option Nat × FuncId} (hb : bot x cs = b) :
  Nx P B e n fr cs' CS w b (stOps all rest P k tm x cs n hp) := by
 obtain ⟨f, t, td, ds, md, kd, r⟩ := fr
 obtain ⟨hfn, htm, htd, hds, hmd, hkd, hrn⟩ := hf
 simp only at hfn htm htd hds hmd hkd hrn
 cases hmd
 cases htd with
 | ops ops i _ k' hok hk =>
 subst hfn hkd
 unfold stOps
 split
 ·rename_i hnil
  have hi : ops.size - i = 0 := by
   have := congrArg List.length hnil
   simpa using this
  rw [hi]
  refine ⟨e, w, ⟨x.fn, t, k', ds, .run, x.kind, r⟩, cs', ?_, Ext.refl _ _, hw, ⟨rfl, htm, hk, hds, .run, rfl, hrn⟩, hcs, hb⟩
  exact step_lone_go (by simp [stepG, stepG.exec])
 ·rename_i o rest' hcons
  have hi : i < ops.size := by
   have := congrArg List.length hcons
   simp at this; omega
  have ho : ops[i]? = some o := by
   have : (ops.toList.drop i)[0]? = some o := by rw [hcons]; rfl
   simpa using this
  have hrest : rest' = ops.toList.drop (i + 1) := by
   have := congrArg List.tail hcons
   simpa using this.symm
  have hrg : List.range' i (ops.size - i) = i :: List.range' (i + 1) (ops.size - (i + 1)) := by
   rw [show ops.size - i = (ops.size - (i + 1)) + 1 by omega, List.range'_succ]
  rw [hrg]
  have hom : o ∈ ops.toList := List.mem_of_getElem? (by simpa using ho : ops.toList[i]? = some o)
  obtain ⟨hdst, hopd⟩ := opsOk_mem hok o hom
  have hkk : ∀ {e2 : Env} {n2 : Nat}, Ext e n e2 n2 → RT e2 n2 x.nt (.ops ops.toList rest' :: k) (.inRegion ops (List.range' (i + 1) (ops.size - (i + 1))) :: k') := by
   intro e2 n2 hx
   rw [hrest]
   exact .ops ops (i + 1) k k' hok (hk.mono hx)
  have hst : RT e n x.nt (.ops ops.toList (o :: rest') :: k) (.inRegion ops (i :: List.range' (i + 1) (ops.size - (i + 1))) :: k') := by
   rw [← hcons, ← hrg]
   exact .ops ops i k k' hok hk
  cases hwa : wantedA ops.toList tm hp o with
  | none => exact ⟨rfl, hw, ⟨rfl, htm, hst, hds, .run, rfl, hrn⟩, hcs, hb⟩
  | some bw =>
  have hwd := wanted_rel htm hok o rfl hw.fk hwa
  cases bw with
  | true =>
    show Nx P B e n _ cs' CS w b (apply ((aopW o.op).f P tm n hp) P o ops.toList rest' k tm x cs n hp)
    have hevs : ∀ y ∈ o.op.operands.toList, RV e n (ev tm y) (evx t.toList y) := by
     intro y hy
     have := ev_rel htm (opdsOk_mem hopd y hy)
     have e1 : (⟨t, []⟩ : Act).eval = evx t.toList := by
      have := eval_evx t.toList
      simpa using this
     rwa [e1] at this
    have hs := aop_sound hP (tm := tm) (fr := t.toList) (o := o) hw hevs
    have e1 : evx t.toList = (⟨t, []⟩ : Act).eval := by
     have := eval_evx t.toList
     simpa using this.symm
    rw [e1] at hs
    -- a defer in a round is not gone through
    have hnd : ∀ (res : R), (∀ d, res ≠ .dfr d) → (aopW o.op).f P tm n hp = res → res ≠ .bad → (r = none ∨ ∀ c, o.op ≠ .defer c) := by
     intro res hnd heq hnb
     right
     intro c hc
     rw [hc] at heq
     have heq : aDefer c P tm n hp = res := heq
     unfold aDefer at heq
     split at heq
     ·split at heq
      ·exact hnd _ heq.symm
      ·exact hnb heq.symm
     ·exact hnb heq.symm
    cases hres : (aopW o.op).f P tm n hp with
    | val v =>
      rw [hres] at hs
      obtain ⟨v', h1, h2⟩ := hs
      exact ⟨e, w, _, cs', op_value ho hwd (hnd _ (by simp) hres (by simp)) (.inl h1), Ext.refl _ _, hw, ⟨rfl, htm.put hdst h2, hkk (Ext.refl _ _), hds, .run, rfl, hrn⟩, hcs, hb⟩
    | mem v hp2 =>
      rw [hres] at hs
      obtain ⟨v', w', h1, h2, h3⟩ := hs
      exact ⟨e, w', _, cs', op_value ho hwd (hnd _ (by simp) hres (by simp)) h1, Ext.refl _ _, h3, ⟨rfl, htm.put hdst h2, hkk (Ext.refl _ _), hds, .run, rfl, hrn⟩, hcs, hb⟩
    | new v hp2 ob =>
      rw [hres] at hs
      show Nx P B e n _ cs' CS w b (cnd (Nat.blt n 32767) _ _)
      rw [zaa]
      split
      ·rename_i hn
       obtain ⟨v', w', q, tt, h1, h2, h3⟩ := hs (blt_lt hn)
       have hx := e.ext n q tt
       exact ⟨e.add n q tt, w', _, cs', op_value ho hwd (hnd _ (by simp) hres (by simp)) (.inl h1), hx, h3, ⟨rfl, (htm.mono hx).put hdst h2, hkk hx, hds.mono hx, .run, rfl, hrn.mono hx⟩, hcs.mono hx, hb⟩
      ·trivial
    | enter g args =>
      rw [hres] at hs
      have hfin : ∀ v, (⟨x.fn, t, .inRegion ops (i :: List.range' (i + 1) (ops.size - (i + 1))) :: k', ds, .run, x.kind, r⟩ : Frame).finish v = ⟨x.fn, putT t o.dst v, .inRegion ops (List.range' (i + 1) (ops.size - (i + 1))) :: k', ds, .run, x.kind, r⟩ := by
       intro v
       cases hd : o.dst <;> simp [Frame.finish, ho, hd, putT]
      refine ⟨rfl, hw, ⟨rfl, htm, hst, hds, .run, rfl, hrn⟩, hcs, hb, fun e2 n2 v v' hx hv => ?_, fun hbody => ?_⟩
      ·rw [hfin]
       exact ⟨rfl, (htm.mono hx).put hdst hv, hkk hx, hds.mono hx, .run, rfl, hrn.mono hx⟩
      ·obtain ⟨args', h1, h2⟩ := hs hbody
       exact ⟨args', h2, op_enter (cs := cs' ++ CS) ho hwd (hnd _ (by simp) hres (by simp)) h1⟩
    | rnd l args =>
      rw [hres] at hs
      obtain ⟨args', h1, h2, h3⟩ := hs
      show Nx P B e n _ cs' CS w b (match roundF hp l args with | some fr => _ | none => _)
      cases he : roundF hp l args with
      | none => trivial
      | some fr2 =>
        obtain ⟨g, tmps, a, c, h4, h5, _, _⟩ := round_rel hw h3 he h2
        rw [h4] at h1
        exact top_nx (by simpa using op_round (cs := cs' ++ CS) ho hwd (hnd _ (by simp) hres (by simp)) h1) (Ext.refl _ _) hw h5 (.cons _ _ _ _ ⟨rfl, htm, hst, hds, .run, rfl, hrn⟩ hcs) hb
    | dfr d =>
      rw [hres] at hs
      obtain ⟨d', h1, h2⟩ := hs
      obtain ⟨fn, nt, dfs, kind, rnd⟩ := x
      cases rnd with
      | some l => trivial
      | none =>
        rcases hrn with ⟨_, rfl⟩ | ⟨l, hl, _⟩
        ·exact ⟨e, w, _, cs', op_defer ho hwd h1, Ext.refl _ _, hw, ⟨rfl, htm.put hdst (.plain _ rfl), hkk (Ext.refl _ _), .cons _ _ _ _ h2 hds, .run, rfl, .inl ⟨rfl, rfl⟩⟩, hcs, by rw [← hb]; cases cs <;> rfl⟩
        ·cases hl
    | rcv =>
      rw [hres] at hs
      have hs : _ = _ := hs
      obtain ⟨fn, nt, dfs, kind, rnd⟩ := x
      show Nx P B e n _ cs' CS w b (apRcv P o ops.toList rest' k tm ⟨fn, nt, dfs, kind, rnd⟩ cs n hp)
      unfold apRcv
      simp only
      split
      ·rename_i x' mode' todo' tm' cs2
       cases hcs with
       | cons _ c' _ l' hc hl =>
       rcases hrn with ⟨_, hrn⟩ | ⟨l, hl, _⟩
       ·subst hrn
        have hrec := op_recover (P := P) (cs := (c' :: l') ++ CS) (rest := List.range' (i + 1) (ops.size - (i + 1))) (k := k') (ds := ds) (f := fn) ho hwd hs
        obtain ⟨g1, g2, g3, g4, g5, g6, g7⟩ := hc
        obtain ⟨f1, t1, td1, ds1, md1, kd1, r1⟩ := c'
        (try simp only at g1 g2 g3 g4 g5 g6 g7)
        split
        ·rename_i v older
         cases g5 with
         | panicking _ l2 hch =>
         cases hch with
         | cons _ y _ l3 hv hr hg hl3 =>
         obtain ⟨yv, yr, yg⟩ := y
         simp only at hv hr hg
         subst hr hg
         simp only [recoverD, List.cons_append] at hrec
         exact ⟨e, w, _, _ :: l', hrec, Ext.refl _ _, hw, ⟨rfl, htm.put hdst hv, hkk (Ext.refl _ _), hds, .run, rfl, .inl ⟨rfl, rfl⟩⟩, .cons _ _ _ _ ⟨g1, g2, g3, g4, .panicking _ _ (.cons _ _ _ _ hv rfl rfl hl3), g6, g7⟩ hl, by rw [← hb]; rfl⟩
        ·rename_i hno
         have hnone : recoverD ((⟨f1, t1, td1, ds1, md1, kd1, r1⟩ : Frame) :: l' ++ CS) = none := by
          simp only [recoverD, List.cons_append]
          cases g5 with
          | run => rfl
          | returning => rfl
          | panicking l1 l2 hch =>
            cases hch with
            | nil => rfl
            | cons y1 y2 m1 m2 hv hr hg hl3 =>
              obtain ⟨v1, r1', q1⟩ := y1
              obtain ⟨v2, r2', q2⟩ := y2
              simp only at hr hg
              subst hr hg
              cases r1' <;> cases q1 <;> first | rfl | exact absurd rfl (hno _ _)
         rw [hnone] at hrec
         exact ⟨e, w, _, _ :: l', hrec, Ext.refl _ _, hw, ⟨rfl, htm.put hdst (.plain _ rfl), hkk (Ext.refl _ _), hds, .run, rfl, .inl ⟨rfl, rfl⟩⟩, .cons _ _ _ _ ⟨g1, g2, g3, g4, g5, g6, g7⟩ hl, hb⟩
       ·cases hl
      ·trivial
    | pan v =>
      rw [hres] at hs
      obtain ⟨v', h1, h2⟩ := hs
      exact ⟨e, w, _, cs', op_panic ho hwd (hnd _ (by simp) hres (by simp)) h1, Ext.refl _ _, hw, ⟨rfl, htm, hst, hds, .panicking _ _ (.cons _ _ _ _ h2 rfl rfl .nil), rfl, hrn⟩, hcs, hb⟩
    | need c => exact ⟨rfl, hw, ⟨rfl, htm, hst, hds, .run, rfl, hrn⟩, hcs, hb⟩
    | bad => trivial
  | false =>
    exact ⟨e, w, _, cs', step_skip' ho hwd, Ext.refl _ _, hw, ⟨rfl, htm.put hdst (.plain _ rfl), hkk (Ext.refl _ _), hds, .run, rfl, hrn⟩, hcs, hb⟩
end
end Go.Gz
namespace Go.Gz
open Go Go.Gx Go.RowKit
section
variable {P : Program} (hP : Small P) {B : Base} {e : Env} {n : Nat} {hp : Hp} {w : World} {CS : List Frame}
theorem exit_rel {nt : Nat} (id : Nat) : ∀ {k : List AI} {k' : List Item}, RT e n nt k k' → (∀ t, exitA id k = some t → ∃ t', exitTo id k' = some t' ∧ RT e n nt t t') ∧ (exitA id k = none → exitTo id k' = none)
 | _, _, .nil => ⟨fun t h => by simp [exitA] at h, fun _ => rfl⟩
 | _, _, .blk id' k k' h => by
   have ih := exit_rel id h
   constructor
   ·intro t ht
    simp only [exitA, zaa] at ht
    split at ht
    ·rename_i hb
     have := zad hb
     subst this
     cases ht
     exact ⟨k', by simp [exitTo], h⟩
    ·rename_i hb
     obtain ⟨t', h1, h2⟩ := ih.1 t ht
     have : ¬ id' = id := fun h => hb (by rw [h]; simp)
     exact ⟨t', by simp [exitTo, this, h1], h2⟩
   ·intro ht
    simp only [exitA, zaa] at ht
    split at ht
    ·cases ht
    ·rename_i hb
     have : ¬ id' = id := fun h => hb (by rw [h]; simp)
     simp [exitTo, this, ih.2 ht]
 | _, _, .code c k k' h => by have ih := exit_rel id h; exact ⟨fun t ht => ih.1 t (by simpa [exitA] using ht), fun ht => by simpa [exitTo] using ih.2 (by simpa [exitA] using ht)⟩
 | _, _, .lp c k k' h => by have ih := exit_rel id h; exact ⟨fun t ht => ih.1 t (by simpa [exitA] using ht), fun ht => by simpa [exitTo] using ih.2 (by simpa [exitA] using ht)⟩
 | _, _, .sc c k k' h => by have ih := exit_rel id h; exact ⟨fun t ht => ih.1 t (by simpa [exitA] using ht), fun ht => by simpa [exitTo] using ih.2 (by simpa [exitA] using ht)⟩
 | _, _, .ops o i k k' hok h => by have ih := exit_rel id h; exact ⟨fun t ht => ih.1 t (by simpa [exitA] using ht), fun ht => by simpa [exitTo] using ih.2 (by simpa [exitA] using ht)⟩
 | _, _, .rf l k k' hl h => by have ih := exit_rel id h; exact ⟨fun t ht => ih.1 t (by simpa [exitA] using ht), fun ht => by simpa [exitTo] using ih.2 (by simpa [exitA] using ht)⟩
 | _, _, .erf l k k' hl h => by have ih := exit_rel id h; exact ⟨fun t ht => ih.1 t (by simpa [exitA] using ht), fun ht => by simpa [exitTo] using ih.2 (by simpa [exitA] using ht)⟩
 | _, _, .br k k' h => by have ih := exit_rel id h; exact ⟨fun t ht => ih.1 t (by simpa [exitA] using ht), fun ht => by simpa [exitTo] using ih.2 (by simpa [exitA] using ht)⟩
theorem goto_rel {nt : Nat} (l : Nat) : ∀ {k : List AI} {k' : List Item}, RT e n nt k k' → (∀ t, gotoA l k = some t → ∃ t', gotoIn l k' = some t' ∧ RT e n nt t t') ∧ (gotoA l k = none → gotoIn l k' = none)
 | _, _, .nil => ⟨fun t h => by simp [gotoA] at h, fun _ => rfl⟩
 | _, _, .sc c k k' h => by
   have ih := goto_rel l h
   cases hf : findLabel c l with
   | none => exact ⟨fun t ht => by obtain ⟨t', h1, h2⟩ := ih.1 t (by simpa [gotoA, hf] using ht); exact ⟨t', by simp [gotoIn, hf, h1], h2⟩, fun ht => by simp [gotoIn, hf, ih.2 (by simpa [gotoA, hf] using ht)]⟩
   | some rest => exact ⟨fun t ht => by simp only [gotoA, hf, Option.some.injEq] at ht; subst ht; exact ⟨_, by simp only [gotoIn, hf], .code _ _ _ (.sc _ _ _ h)⟩, fun ht => by simp [gotoA, hf] at ht⟩
 | _, _, .code c k k' h => by have ih := goto_rel l h; exact ⟨fun t ht => ih.1 t (by simpa [gotoA] using ht), fun ht => by simpa [gotoIn] using ih.2 (by simpa [gotoA] using ht)⟩
 | _, _, .lp c k k' h => by have ih := goto_rel l h; exact ⟨fun t ht => ih.1 t (by simpa [gotoA] using ht), fun ht => by simpa [gotoIn] using ih.2 (by simpa [gotoA] using ht)⟩
 | _, _, .blk c k k' h => by have ih := goto_rel l h; exact ⟨fun t ht => ih.1 t (by simpa [gotoA] using ht), fun ht => by simpa [gotoIn] using ih.2 (by simpa [gotoA] using ht)⟩
 | _, _, .ops o i k k' hok h => by have ih := goto_rel l h; exact ⟨fun t ht => ih.1 t (by simpa [gotoA] using ht), fun ht => by simpa [gotoIn] using ih.2 (by simpa [gotoA] using ht)⟩
 | _, _, .rf q k k' hl h => by have ih := goto_rel l h; exact ⟨fun t ht => ih.1 t (by simpa [gotoA] using ht), fun ht => by simpa [gotoIn] using ih.2 (by simpa [gotoA] using ht)⟩
 | _, _, .erf q k k' hl h => by have ih := goto_rel l h; exact ⟨fun t ht => ih.1 t (by simpa [gotoA] using ht), fun ht => by simpa [gotoIn] using ih.2 (by simpa [gotoA] using ht)⟩
 | _, _, .br k k' h => by have ih := goto_rel l h; exact ⟨fun t ht => ih.1 t (by simpa [gotoA] using ht), fun ht => by simpa [gotoIn] using ih.2 (by simpa [gotoA] using ht)⟩
theorem settle_rel {m m' : FrameMode} (h : RMd e n m m') : RMd e n (settleM m) (settle m') := by
 cases h with
 | run => exact .run
 | returning => exact .returning
 | panicking l l' hc =>
   cases hc with
   | nil => exact .panicking _ _ .nil
   | cons x x' l l' hv hr hg hl =>
     obtain ⟨v, r, g⟩ := x
     obtain ⟨v', r', g'⟩ := x'
     simp only at hv hr hg
     subst hr hg
     cases r with
     | false => exact .panicking _ _ (.cons _ _ _ _ hv rfl rfl hl)
     | true =>
       have key : ∀ {l l' : List PanicEntry}, RCh e n l l' → RCh e n (l.dropWhile (!·.goexit)) (l'.dropWhile (!·.goexit)) := by
        intro l l' h
        induction l generalizing l' with
        | nil => cases h; exact .nil
        | cons y l ih =>
          cases h with
          | cons _ y' _ l2 hv hr hg hl =>
            simp only [List.dropWhile_cons, hg]
            split
            ·exact ih hl
            ·exact .cons _ _ _ _ hv hr hg hl
       have hk := key hl
       simp only [settleM, settle]
       generalize l.dropWhile (!·.goexit) = a at hk
       generalize l'.dropWhile (!·.goexit) = b at hk
       cases hk with
       | nil => exact .returning
       | cons y y' m m' h1 h2 h3 h4 => exact .panicking _ _ (.cons _ _ _ _ h1 h2 h3 h4)
theorem RCh.append : ∀ {l l' r r' : List PanicEntry}, RCh e n l l' → RCh e n r r' → RCh e n (l ++ r) (l' ++ r')
 | _, _, _, _, .nil, hr => hr
 | _, _, _, _, .cons a b l l' h1 h2 h3 hl, hr => .cons a b _ _ h1 h2 h3 (RCh.append hl hr)
theorem raise_rel {m m' : FrameMode} (h : RMd e n m m') {c c' : List PanicEntry} (hc : RCh e n c c') : RMd e n (raiseM m c) (raised m' c') := by
 cases h with
 | run => exact .panicking _ _ hc
 | returning => exact .panicking _ _ hc
 | panicking l l' h => exact .panicking _ _ (hc.append h)
theorem fin_rel {a a2 : AF} {f : Frame} (h : RF e n a f) {v v' : Value} (hv : RV e n v v') (hf : fin a v = some a2) : RF e n a2 (f.finish v') ∧ a2.x = a.x := by
 obtain ⟨x, mode, todo, tm⟩ := a
 obtain ⟨fn, t, td, ds, md, kd, r⟩ := f
 obtain ⟨g1, g2, g3, g4, g5, g6, g7⟩ := h
 unfold fin at hf
 simp only at hf g1 g2 g3 g4 g5 g6 g7
 cases g3 with
 | ops ops i k k' hok hk =>
   simp only at hf
   split at hf
   ·cases hf
   ·rename_i o rest hcons
    cases hf
    have hi : i < ops.size := by
     have := congrArg List.length hcons
     simp at this; omega
    have ho : ops[i]? = some o := by
     have : (ops.toList.drop i)[0]? = some o := by rw [hcons]; rfl
     simpa using this
    have hrest : rest = ops.toList.drop (i + 1) := by
     have := congrArg List.tail hcons
     simpa using this.symm
    have hrg : List.range' i (ops.size - i) = i :: List.range' (i + 1) (ops.size - (i + 1)) := by
     rw [show ops.size - i = (ops.size - (i + 1)) + 1 by omega, List.range'_succ]
    have hom : o ∈ ops.toList := List.mem_of_getElem? (by simpa using ho : ops.toList[i]? = some o)
    obtain ⟨hdst, hopd⟩ := opsOk_mem hok o hom
    rw [hrg]
    simp only [Frame.finish, ho, Option.bind_some]
    refine ⟨⟨g1, ?_, ?_, g4, g5, g6, g7⟩, by first | rfl | trivial⟩
    ·exact g2.put hdst hv
    ·rw [hrest]; exact .ops ops (i + 1) k k' hok hk
 | rf l k k' hl hk =>
   simp only at hf
   cases hf
   exact ⟨⟨g1, g2, .erf l k k' hl hk, g4, g5, g6, g7⟩, by first | rfl | trivial⟩
 | _ => simp at hf
theorem bot_eq {x y : X} (h : x.rnd = y.rnd) (h2 : x.fn = y.fn) (cs : List AF) : bot x cs = bot y cs := by
 cases cs <;> simp [bot, h, h2]
theorem doRet_nx {fr : Frame} {cs' : List Frame} {x : X} {cs : List AF} {b : Option Nat × FuncId} {e2 : Env} {n2 : Nat} {hp2 : Hp} {w2 : World} {v v' : Value} (hx : Ext e n e2 n2) (hw : WR P B e2 n2 hp2 w2) (hv : RV e2 n2 v v') (hcs : RFs e2 n2 cs cs') (hb : bot x cs = b)
  (h1 : x.kind = .normal → ∀ c l, cs' ++ CS = c :: l → step P (lone fr (cs' ++ CS) w) = .next (lone (c.finish v') l w2))
  (h2 : x.kind = .deferred → ∀ c l, cs' ++ CS = c :: l → step P (lone fr (cs' ++ CS) w) = .next (lone { c with mode := settle c.mode } l w2))
  (h3 : x.kind = .normal → cs = [] → b.1 = none → fr.fn = b.2 ∧ fr.leaving P w (.returned v') ∧ w2 = w) : Nx P B e n fr cs' CS w b (doRet v x cs n2 hp2) := by
 obtain ⟨fn, nt, dfs, kind, rnd⟩ := x
 unfold doRet
 simp only
 split
 ·cases hcs with
  | nil => exact ⟨e2, w2, v', hx, hw, hv, rfl, fun c l hl => h1 rfl c l hl, fun h => h3 rfl rfl h⟩
  | cons a f l l' ha hl =>
    simp only
    split
    ·rename_i a2 hf
     obtain ⟨g1, g2⟩ := fin_rel ha hv hf
     exact top_nx (h1 rfl f (l' ++ CS) rfl) hx hw g1 hl (by rw [← hb]; show bot a2.x l = bot a.x l; rw [g2])
    ·trivial
 ·cases hcs with
  | nil => trivial
  | cons a f l l' ha hl =>
    obtain ⟨x, mode, todo, tm⟩ := a
    obtain ⟨g1, g2, g3, g4, g5, g6, g7⟩ := ha
    exact ⟨e2, w2, _, l', h2 rfl f (l' ++ CS) rfl, hx, hw, ⟨g1, g2, g3, g4, settle_rel g5, g6, g7⟩, hl, by rw [← hb]; rfl⟩
 ·trivial
def resOfA (tmps : Array Value) : ResultVar → Sem Value
 | .tmp t => pure (tmps.getD t undef)
 | .cell a t => do loadVar t (← asAddr (tmps.getD a undef))
include hP
theorem resA_run (hw : WR P B e n hp w) {nt : Nat} {tm : Tm} {tmps : Array Value} (ht : RTm e n nt tm tmps) : ∀ (rs : List ResultVar) (l : List Value), resOk nt rs = true → resA P hp tm rs = some l →
  ∃ l', (rs.mapM (resOfA tmps)).run P w = .ok l' w ∧ RL e n l l'
 | [], l, _, h => by simp [resA] at h; subst h; exact ⟨[], by simp, .nil⟩
 | .tmp t :: r, l, hok, h => by
   simp only [resOk, zaa] at hok
   split at hok
   ·rename_i hlt
    simp only [resA, Option.map_eq_some_iff] at h
    obtain ⟨l2, h1, rfl⟩ := h
    obtain ⟨l', h2, h3⟩ := resA_run hw ht r l2 hok h1
    have hr := ht.rel t (blt_lt hlt)
    refine ⟨tmps.getD t undef :: l', ?_, .cons _ _ _ _ hr h3⟩
    simp [List.mapM_cons, resOfA, h2]
   ·cases hok
 | .cell a t :: r, l, hok, h => by
   simp only [resOk, zaa] at hok
   split at hok
   ·rename_i hlt
    simp only [resA] at h
    split at h
    ·rename_i v hv
     simp only [Option.map_eq_some_iff] at h
     obtain ⟨l2, h1, rfl⟩ := h
     obtain ⟨l', h2, h3⟩ := resA_run hw ht r l2 hok h1
     have hr := ht.rel a (blt_lt hlt)
     obtain ⟨ad, v', h4, h5, h6⟩ := loadx_run hP hw hr hv
     refine ⟨v' :: l', ?_, .cons _ _ _ _ h6 h3⟩
     have h4' : tmps[a]?.getD undef = .pointer (some ad) := by rw [← h4]; simp
     simp [List.mapM_cons, resOfA, h2, h4', asAddr, h5]
    ·cases h
   ·cases hok
theorem results_rel (hw : WR P B e n hp w) {nt : Nat} {tm : Tm} {tmps : Array Value} (ht : RTm e n nt tm tmps) {fn : Func} {l : List Value} (hok : resOk nt fn.results.toList = true) (h : resA P hp tm fn.results.toList = some l) :
  ∃ v', (results fn tmps).run P w = .ok v' w ∧ RV e n (tupx l) v' := by
 obtain ⟨l', h1, h2⟩ := resA_run hP hw ht _ _ hok h
 refine ⟨tupx l', ?_, ?_⟩
 ·have e : results fn tmps = (do
     let vs ← fn.results.mapM (resOfA tmps)
     pure (if h : vs.size = 1 then vs[0] else .tuple vs)) := by
    unfold results
    congr 1
  rw [e]
  simp only [Sem.run_bind, Array.mapM_eq_mapM_toList, Sem.run_map]
  rw [h1]
  simp only [Result.andThen_ok, Sem.run_pure, Result.ok.injEq, and_true]
  cases l' with
  | nil => rfl
  | cons x r => cases r <;> simp [tupx]
 ·cases h2 with
  | nil => exact .tuple _ _ .nil
  | cons v v' l l' hv hl =>
    cases hl with
    | nil => exact hv
    | cons u u' m m' hu hm => exact .tuple _ _ (.cons _ _ _ _ hv (.cons _ _ _ _ hu hm))
omit hP in
theorem leave_nx (hw : WR P B e n hp w) {x : X} {tm : Tm} {cs : List AF} {todo : List AI} {fr : Frame} {cs' : List Frame} (hf : RF e n ⟨x, .run, todo, tm⟩ fr) (hcs : RFs e n cs cs') {b : Option Nat × FuncId} (hb : bot x cs = b) (jump : Option Code)
  (hstep : ∀ cs2, (stepG P true { frame := fr, callers := cs2, status := .running, dying := none } w).bare = (match fr.roundOf with
   | none => if jump matches none | some .ret then GStep.go { frame := { fr with mode := .returning }, callers := cs2, status := .running, dying := none } w else .ended (.stuck "exit, goto: no such block or label" (fr.pos P)) w
   | some l =>
     match (Instr.endRound l jump).run P w with
     | .ok v w => (doReturn P true fr cs2 none v w).bare
     | .halt _ w => .ended (.stuck "range over a function: no such loop" (fr.pos P)) w)) :
  Nx P B e n fr cs' CS w b (leaveA jump todo tm x cs n hp) := by
 obtain ⟨fn, nt, dfs, kind, rnd⟩ := x
 obtain ⟨f, t, td, ds, md, kd, r⟩ := fr
 obtain ⟨g1, g2, g3, g4, g5, g6, g7⟩ := hf
 simp only at g1 g6
 subst g1 g6
 unfold leaveA
 simp only
 rcases g7 with ⟨h1, h2⟩ | ⟨l, h1, h2, hl⟩
 ·simp only at h1 h2
  subst h1 h2
  simp only
  have go : (jump = none ∨ jump = some .ret) → Nx P B e n ⟨f, t, td, ds, md, kd, none⟩ cs' CS w b (.go ⟨⟨f, nt, dfs, kd, none⟩, .returning, todo, tm, cs, n, hp⟩) := by
   intro hj
   refine ⟨e, w, ⟨f, t, td, ds, .returning, kd, none⟩, cs', ?_, Ext.refl _ _, hw, ⟨rfl, g2, g3, g4, .returning, rfl, .inl ⟨rfl, rfl⟩⟩, hcs, hb⟩
   refine step_lone_go ?_
   rw [hstep]
   rcases hj with rfl | rfl <;> rfl
  split
  ·exact go (.inl rfl)
  ·exact go (.inr rfl)
  ·trivial
 ·simp only at h1 h2
  subst h1 h2
  simp only
  split
  ·rename_i st pend fn2 nt2 tm2 ps a c d hg
   obtain ⟨tmps, ho, ht, hd⟩ := hw.loop hl hg
   have hget := getObj_run (P := P) ho (by simp)
   have hset := fun o' => setObj_run (P := P) (o' := o') ho (by simp)
   have hrun : (Instr.endRound (e.β l) jump).run P w = .ok (.bool jump.isNone) (setB w (e.β l) (.loop { state := if jump.isNone then .ready else .done, pending := jump, fn := fn2, tmps := tmps, params := ps.toArray, assign := a, body := c, defers := e.β d })) := by
    simp [Instr.endRound, Instr.getLoop, hget, hset]
   have hw2 := hw.set hl (by rw [hg]; simp) (o := .loop (cnd jump.isNone .ready .done) jump fn2 nt2 tm2 ps a c d) (o' := .loop { state := if jump.isNone then .ready else .done, pending := jump, fn := fn2, tmps := tmps, params := ps.toArray, assign := a, body := c, defers := e.β d }) (by
    have : (if jump.isNone = true then LoopState.ready else LoopState.done) = cnd jump.isNone LoopState.ready LoopState.done := by cases jump <;> rfl
    rw [this]
    exact .loop _ _ _ _ _ _ _ _ _ _ ht hd)
   refine doRet_nx (Ext.refl _ _) hw2 (.plain _ rfl) hcs hb ?_ ?_ ?_
   ·intro hk c2 l2 hcl
    rw [hcl]
    refine step_lone_go ?_
    rw [hstep]
    simp only [hrun]
    simp only at hk
    subst hk
    rfl
   ·intro hk c2 l2 hcl
    rw [hcl]
    refine step_lone_go ?_
    rw [hstep]
    simp only [hrun]
    simp only at hk
    subst hk
    simp only [doReturn]
    unfold settle
    split <;> (try split) <;> simp_all
   ·intro hk hc hb1
    subst hc
    rw [← hb] at hb1
    cases hb1
  ·trivial
end
end Go.Gz
namespace Go.Gz
open Go Go.Gx Go.RowKit
section
variable {P : Program} (hP : Small P) {B : Base} {e : Env} {n : Nat} {hp : Hp} {w : World} {CS : List Frame}
theorem in_nx (hw : WR P B e n hp w) {x : X} {tm : Tm} {cs : List AF} {k : List AI} {f : FuncId} {t : Array Value} {td td' : List Item} {ds : List Deferred} {kd : CallKind} {r : Option Nat} {cs' : List Frame} (h1 : f = x.fn) (h2 : RTm e n x.nt tm t) (h4 : RDs e n x.dfs ds) (h6 : kd = x.kind) (h7 : RR e n x.rnd r)
  (hcs : RFs e n cs cs') {b : Option Nat × FuncId} (hb : bot x cs = b) (hk : RT e n x.nt k td')
  (hs : ∀ cs2, (stepG P true { frame := ⟨f, t, td, ds, .run, kd, r⟩, callers := cs2, status := .running, dying := none } w).bare = .go { frame := ⟨f, t, td', ds, .run, kd, r⟩, callers := cs2, status := .running, dying := none } w) :
  Nx P B e n ⟨f, t, td, ds, .run, kd, r⟩ cs' CS w b (.go ⟨x, .run, k, tm, cs, n, hp⟩) :=
 ⟨e, w, ⟨f, t, td', ds, .run, kd, r⟩, cs', step_lone_go (hs _), Ext.refl _ _, hw, ⟨h1, h2, hk, h4, .run, h6, h7⟩, hcs, hb⟩
theorem head_nx (hw : WR P B e n hp w) {x : X} {tm : Tm} {cs : List AF} {a b0 : AI} {k : List AI} {f : FuncId} {t : Array Value} {td td' : List Item} {ds : List Deferred} {kd : CallKind} {r : Option Nat} {cs' : List Frame} (h1 : f = x.fn) (h2 : RTm e n x.nt tm t) (h4 : RDs e n x.dfs ds) (h6 : kd = x.kind) (h7 : RR e n x.rnd r)
  (hcs : RFs e n cs cs') {b : Option Nat × FuncId} (hb : bot x cs = b) (hk : RT e n x.nt (a :: b0 :: k) td')
  (hs : ∀ cs2, (stepG P true { frame := ⟨f, t, td, ds, .run, kd, r⟩, callers := cs2, status := .running, dying := none } w).bare = .go { frame := ⟨f, t, td', ds, .run, kd, r⟩, callers := cs2, status := .running, dying := none } w) :
  Nx P B e n ⟨f, t, td, ds, .run, kd, r⟩ cs' CS w b (stHead a b0 P k tm x cs n hp) := by
 unfold stHead
 cases cs with
 | nil => exact ⟨e, w, ⟨f, t, td', ds, .run, kd, r⟩, cs', step_lone_go (hs _), Ext.refl _ _, hw, ⟨h1, h2, hk, h4, .run, h6, h7⟩, hcs, hb⟩
 | cons c cs => exact ⟨e, w, ⟨f, t, td', ds, .run, kd, r⟩, cs', step_lone_go (hs _), Ext.refl _ _, hw, ⟨h1, h2, hk, h4, .run, h6, h7⟩, hcs, hb⟩
include hP
theorem callv_run {ρ : Operand → Value} {f2 : Operand} {g : FuncId} {a b : Array Value} {u : Value} (h : ρ f2 = .func (.func g) a b) (hu : ρ (.const u) = u) (hbody : (bodyOf P g).isSome = true) (w : World) :
  (do let d ← resolve ρ { callee := .value f2, args := #[.const u], argTypes := #[] } 0; invoke d.target d.args : Sem Next).run P w = .ok (.enter g (a.toList ++ (u :: b.toList)).toArray) w := by
 have hfn := fnOk_body hP hbody
 unfold fnOk at hfn
 split at hfn
 ·rename_i fn3 hfn3
  simp only [Bool.and_eq_true, bne_iff_ne, ne_eq] at hfn
  obtain ⟨c3, hc3⟩ := Option.isSome_iff_exists.1 hfn.2
  have e5 : (a.toList ++ (u :: b.toList)).toArray = a ++ #[u] ++ b := by apply Array.ext'; simp
  rw [e5]
  simp [resolve, Deferred.ofValue, h, invoke, callFunc, hfn3, hfn.1, hc3, hu]
 ·cases hfn
theorem code_nx (hw : WR P B e n hp w) {x : X} {tm : Tm} {cs : List AF} {c : Code} {k : List AI} {fr : Frame} {cs' : List Frame} (hf : RF e n ⟨x, .run, .code c :: k, tm⟩ fr) (hcs : RFs e n cs cs') {b : Option Nat × FuncId} (hb : bot x cs = b) :
  Nx P B e n fr cs' CS w b ((codeW c).f P k tm x cs n hp) := by
 have hf0 := hf
 obtain ⟨f, t, td, ds, md, kd, r⟩ := fr
 obtain ⟨g1, g2, g3, g4, g5, g6, g7⟩ := hf
 simp only at g1 g2 g3 g4 g5 g6 g7
 cases g5
 cases g3 with
 | code _ _ k' hk =>
 cases c with
 | ret =>
   refine leave_nx hw hf0 hcs hb (some .ret) fun cs2 => ?_
   simp only [stepG, stepG.exec]
   cases r with
   | none => rfl
   | some l => simp only [Sem.runT_eq, GStep.bare_after]; split <;> simp_all
 | skip => exact in_nx hw g1 g2 g4 g6 g7 hcs hb hk fun cs2 => by simp [stepG, stepG.exec]
 | label l => exact in_nx hw g1 g2 g4 g6 g7 hcs hb hk fun cs2 => by simp [stepG, stepG.exec]
 | seq a c => exact in_nx hw g1 g2 g4 g6 g7 hcs hb (.code _ _ _ (.code _ _ _ hk)) fun cs2 => by simp [stepG, stepG.exec]
 | block id c => exact in_nx hw g1 g2 g4 g6 g7 hcs hb (.code _ _ _ (.blk _ _ _ hk)) fun cs2 => by simp [stepG, stepG.exec]
 | loop c => exact head_nx hw g1 g2 g4 g6 g7 hcs hb (.code _ _ _ (.lp _ _ _ hk)) fun cs2 => by simp [stepG, stepG.exec]
 | scope c => exact in_nx hw g1 g2 g4 g6 g7 hcs hb (.code _ _ _ (.sc _ _ _ hk)) fun cs2 => by simp [stepG, stepG.exec]
 | cond c a d =>
   show Nx P B e n _ cs' CS w b (stCond c a d P k tm x cs n hp)
   obtain ⟨fn, nt, dfs, kind, rnd⟩ := x
   unfold stCond
   simp only [zaa]
   split
   ·rename_i hok
    split
    ·rename_i tt hev
     have := ev_rel g2 hok
     have hv := hw.dec hev this
     have hv' : (⟨f, t, .code (.cond c a d) :: k', ds, .run, kd, r⟩ : Frame).eval c = .bool tt := by
      rw [← hv]; cases c <;> rfl
     refine in_nx hw g1 g2 g4 g6 g7 hcs hb (td' := .code (if tt then a else d) :: k') (.code _ _ _ hk) fun cs2 => ?_
     simp [stepG, stepG.exec, hv']
    ·exact ⟨rfl, hw, hf0, hcs, hb⟩
   ·trivial
 | exit id =>
   show Nx P B e n _ cs' CS w b (stExit id P k tm x cs n hp)
   unfold stExit
   obtain ⟨e1, e2⟩ := exit_rel id hk
   split
   ·rename_i t2 ht
    obtain ⟨t', h1, h2⟩ := e1 t2 ht
    exact in_nx hw g1 g2 g4 g6 g7 hcs hb h2 fun cs2 => by simp [stepG, stepG.exec, h1]
   ·rename_i ht
    have h1 := e2 ht
    refine leave_nx hw hf0 hcs hb (some (.exit id)) fun cs2 => ?_
    simp only [stepG, stepG.exec, h1, Option.elim_none]
    cases r with
    | none => rfl
    | some l => simp only [Sem.runT_eq, GStep.bare_after]; split <;> simp_all
 | goto l =>
   show Nx P B e n _ cs' CS w b (stGoto l P k tm x cs n hp)
   unfold stGoto
   obtain ⟨e1, e2⟩ := goto_rel l hk
   split
   ·rename_i t2 ht
    obtain ⟨t', h1, h2⟩ := e1 t2 ht
    exact in_nx hw g1 g2 g4 g6 g7 hcs hb h2 fun cs2 => by simp [stepG, stepG.exec, h1]
   ·rename_i ht
    have h1 := e2 ht
    refine leave_nx hw hf0 hcs hb (some (.goto l)) fun cs2 => ?_
    simp only [stepG, stepG.exec, h1, Option.elim_none]
    cases r with
    | none => rfl
    | some l => simp only [Sem.runT_eq, GStep.bare_after]; split <;> simp_all
 | region id ops draw =>
   show Nx P B e n _ cs' CS w b (stRegion ops draw P k tm x cs n hp)
   obtain ⟨fn, nt, dfs, kind, rnd⟩ := x
   unfold stRegion
   simp only [zaa]
   split
   ·rename_i hok
    split
    ·rename_i hd
     subst hd
     exact ⟨rfl, rfl, hok, hw, hb, hcs, id, k', rfl, rfl, ⟨g1, g2, hk, g4, .run, g6, g7⟩⟩
    ·rename_i hd
     have hd : draw = false := by simpa using hd
     subst hd
     have hrt := RT.ops (e := e) (n := n) ops 0 k k' hok hk
     simp only [List.drop_zero, Nat.sub_zero] at hrt
     rw [← List.range_eq_range'] at hrt
     exact in_nx hw g1 g2 g4 g6 g7 hcs hb hrt fun cs2 => by simp [stepG, stepG.exec]
   ·trivial
 | rangeFunc f2 ps a d =>
   show Nx P B e n _ cs' CS w b (stRf f2 ps a d P k tm x cs n hp)
   obtain ⟨fn, nt, dfs, kind, rnd⟩ := x
   unfold stRf
   split
   ·rename_i fn2 nt2 dfs2 kind2 rnd2 g a1 b1 hx hev
    cases hx
    rw [zaa]
    split
    ·rename_i hok
     obtain ⟨hok, hn⟩ := zac hok
     have hn := blt_lt hn
     have := ev_rel g2 hok
     rw [hev] at this
     obtain ⟨a1', b1', hv, ha1, hb1⟩ := this.funcI
     have hev2 : ∀ (fr : Frame), fr.tmps = t → fr.eval f2 = .func (.func g) a1' b1' := by
      intro fr hfr
      rw [← hv]; cases f2 <;> simp [Frame.eval, Act.eval, hfr]
     split
     ·rcases g7 with ⟨_, h7⟩ | ⟨l, h7, _⟩
      ·subst h7
       split
       ·rename_i fr2 he
        -- two blocks
        have w1 := hw.alloc (t := 0) (by omega) (o := .dfr (some [])) (o' := .deferred (some [])) (.dfr _ _ .nil)
        have x1 := e.ext n w.heap.size 0
        have w2 := w1.alloc (t := 0) hn (o := .loop .ready none fn nt tm ps.toList a d n) (o' := .loop { state := .ready, pending := none, fn := fn, tmps := t, params := ps, assign := a, body := d, defers := w.heap.size }) (by
         have h := RO.loop (P := P) (e := (e.add n w.heap.size 0).add (n + 1) (w.heap.size + 1) 0) (n := n + 1 + 1) (j := n + 1) .ready none fn nt tm t ps.toList a d n ((g2.mono x1).mono ((e.add n w.heap.size 0).ext (n + 1) _ 0)) (by omega)
         have eb : ((e.add n w.heap.size 0).add (n + 1) (w.heap.size + 1) 0).β n = w.heap.size := by
          rw [((e.add n w.heap.size 0).ext (n + 1) _ 0).β n (by omega), Env.add_β]
         rw [eb] at h
         simpa using h)
        have x2 := (e.add n w.heap.size 0).ext (n + 1) ((w.heap.push (.deferred (some []))).size) 0
        have x12 := x1.trans x2
        have hargs : RL ((e.add n w.heap.size 0).add (n + 1) ((w.heap.push (.deferred (some []))).size) 0) (n + 1 + 1) (a1.toList ++ (Value.func (.yield (Nat.succ n)) #[] #[] :: b1.toList)) (a1'.toList ++ (Value.func (.yield (w.heap.size + 1)) #[] #[] :: b1'.toList)) := by
         refine (ha1.mono x12).append (.cons _ _ _ _ ?_ (hb1.mono x12))
         have := RV.yield (e := (e.add n w.heap.size 0).add (n + 1) ((w.heap.push (.deferred (some []))).size) 0) (n := n + 1 + 1) (n + 1) (by omega)
         rw [Env.add_β] at this
         simpa using this
        obtain ⟨h3, _, _, _, hbody, _⟩ := enter_rel hP he hargs
        have hgo := callv_run hP (ρ := (⟨f, t, .inRangeFunc (w.heap.size + 1) :: k', ⟨.collected w.heap.size, #[]⟩ :: ds, .run, kd, none⟩ : Frame).eval) (u := .func (.yield (w.heap.size + 1)) #[] #[]) (hev2 _ rfl) rfl hbody
         { w with heap := (w.heap.push (.deferred (some []))).push (.loop { state := .ready, pending := none, fn := f, tmps := t, params := ps, assign := a, body := d, defers := w.heap.size }) }
        refine top_nx (w2 := { w with heap := (w.heap.push (.deferred (some []))).push (.loop { state := .ready, pending := none, fn := f, tmps := t, params := ps, assign := a, body := d, defers := w.heap.size }) }) (cs2' := ⟨f, t, .inRangeFunc (w.heap.size + 1) :: k', ⟨.collected w.heap.size, #[]⟩ :: ds, .run, kd, none⟩ :: cs') ?_ x12 ?_ h3 (.cons _ _ _ _ ⟨g1, g2.mono x12, ?_, .cons _ _ _ _ ?_ (g4.mono x12), .run, g6, .inl ⟨rfl, rfl⟩⟩ (hcs.mono x12)) (by rw [← hb]; show bot (⟨fn, nt, ⟨.collected n, #[]⟩ :: dfs, kind, none⟩ : X) cs = _; exact bot_eq (x := ⟨fn, nt, ⟨.collected n, #[]⟩ :: dfs, kind, none⟩) (y := ⟨fn, nt, dfs, kind, none⟩) rfl rfl cs)
        ·refine step_lone_go ?_
         simp only [stepG, stepG.exec, Sem.runT_eq, Instr.enterLoop, Sem.run_bind, newObj, Sem.run, Sem.run_pure, Result.andThen_ok]
         simp only [GStep.bare_after]
         simp only [Array.size_push] at *
         simp [stepG.apply, hgo]
        ·have hfe : f = fn := g1
         subst hfe
         exact w2
        ·have := RT.rf (e := (e.add n w.heap.size 0).add (n + 1) ((w.heap.push (.deferred (some []))).size) 0) (n := n + 1 + 1) (nt := nt) (n + 1) k k' (by omega) (hk.mono x12)
         rw [Env.add_β] at this
         simpa using this
        ·have := RD.collected (e := (e.add n w.heap.size 0).add (n + 1) ((w.heap.push (.deferred (some []))).size) 0) (n := n + 1 + 1) n (by omega)
         rw [x2.β n (by omega), Env.add_β] at this
         exact this
       ·trivial
      ·cases h7
     ·rename_i l0
      rcases g7 with ⟨h7, _⟩ | ⟨l, h7, h8, hl⟩
      ·cases h7
      ·simp only [Option.some.injEq] at h7 h8
       subst h7 h8
       split
       ·rename_i st0 p0 fn0 nt0 tm0 ps0 a0 b0 d0 hg
        obtain ⟨tmps0, ho0, _, hd0⟩ := hw.loop hl hg
        have hget := getObj_run (P := P) ho0 (by simp)
        split
        ·rename_i fr2 he
         have x1 := e.ext n w.heap.size 0
         have w1 := hw.alloc (t := 0) (by omega) (o := .loop .ready none fn nt tm ps.toList a d d0) (o' := .loop { state := .ready, pending := none, fn := fn, tmps := t, params := ps, assign := a, body := d, defers := e.β d0 }) (by
          have h := RO.loop (P := P) (e := e.add n w.heap.size 0) (n := n + 1) (j := n) .ready none fn nt tm t ps.toList a d d0 (g2.mono x1) (by omega)
          rw [x1.β d0 hd0] at h
          simpa using h)
         have hargs : RL (e.add n w.heap.size 0) (n + 1) (a1.toList ++ (Value.func (.yield n) #[] #[] :: b1.toList)) (a1'.toList ++ (Value.func (.yield w.heap.size) #[] #[] :: b1'.toList)) := by
          refine (ha1.mono x1).append (.cons _ _ _ _ ?_ (hb1.mono x1))
          have := RV.yield (e := e.add n w.heap.size 0) (n := n + 1) n (by omega)
          rwa [Env.add_β] at this
         obtain ⟨h3, _, _, _, hbody, _⟩ := enter_rel hP he hargs
         have hgo := callv_run hP (ρ := (⟨f, t, .inRangeFunc w.heap.size :: k', ds, .run, kd, some (e.β l0)⟩ : Frame).eval) (u := .func (.yield w.heap.size) #[] #[]) (hev2 _ rfl) rfl hbody
          { w with heap := w.heap.push (.loop { state := .ready, pending := none, fn := f, tmps := t, params := ps, assign := a, body := d, defers := e.β d0 }) }
         refine top_nx (w2 := { w with heap := w.heap.push (.loop { state := .ready, pending := none, fn := f, tmps := t, params := ps, assign := a, body := d, defers := e.β d0 }) }) (cs2' := ⟨f, t, .inRangeFunc w.heap.size :: k', ds, .run, kd, some (e.β l0)⟩ :: cs') ?_ x1 ?_ h3 (.cons _ _ _ _ ⟨g1, g2.mono x1, ?_, g4.mono x1, .run, g6, .inr ⟨l0, rfl, by rw [x1.β l0 hl], by omega⟩⟩ (hcs.mono x1)) hb
         ·refine step_lone_go ?_
          simp only [stepG, stepG.exec, Sem.runT_eq, Instr.enterLoop, Sem.run_bind, Instr.getLoop, hget, newObj, Sem.run, Sem.run_pure, Result.andThen_ok]
          simp only [GStep.bare_after, stepG.apply, Sem.runT_eq, if_true, List.nil_append, hgo, GStep.bare_go, List.cons_append]
         ·have hfe : f = fn := g1
          subst hfe
          exact w1
         ·have := RT.rf (e := e.add n w.heap.size 0) (n := n + 1) (nt := nt) n k k' (by omega) (hk.mono x1)
          rw [Env.add_β] at this
          exact this
        ·trivial
       ·trivial
    ·trivial
   ·trivial
 | refuse w2 => trivial
end
end Go.Gz
namespace Go.Gz
open Go Go.Gx Go.RowKit
section
variable {P : Program} (hP : Small P) {B : Base} {e : Env} {n : Nat} {hp : Hp} {w : World} {CS : List Frame}
include hP
theorem run_nx (hw : WR P B e n hp w) {x : X} {tm : Tm} {cs : List AF} {todo : List AI} {fr : Frame} {cs' : List Frame} (hf : RF e n ⟨x, .run, todo, tm⟩ fr) (hcs : RFs e n cs cs') {b : Option Nat × FuncId} (hb : bot x cs = b) :
  Nx P B e n fr cs' CS w b (runA P todo tm x cs n hp) := by
 have hf0 := hf
 obtain ⟨f, t, td, ds, md, kd, r⟩ := fr
 obtain ⟨g1, g2, g3, g4, g5, g6, g7⟩ := hf
 simp only at g1 g2 g3 g4 g5 g6 g7
 cases g5
 cases g3 with
 | nil =>
   refine leave_nx hw hf0 hcs hb none fun cs2 => ?_
   simp only [stepG, stepG.exec]
   cases r with
   | none => rfl
   | some l => simp only [Sem.runT_eq, GStep.bare_after]; split <;> simp_all
 | code c k k' hk => exact code_nx hP hw hf0 hcs hb
 | blk id k k' hk => exact in_nx hw g1 g2 g4 g6 g7 hcs hb hk fun cs2 => by simp [stepG, stepG.exec]
 | sc c k k' hk => exact in_nx hw g1 g2 g4 g6 g7 hcs hb hk fun cs2 => by simp [stepG, stepG.exec]
 | lp c k k' hk => exact head_nx hw g1 g2 g4 g6 g7 hcs hb (.code _ _ _ (.lp _ _ _ hk)) fun cs2 => by simp [stepG, stepG.exec]
 | ops ops i k k' hok hk => exact ops_sound hP hw hf0 hcs hb
 | rf l k k' hl hk => trivial
 | erf l k k' hl hk =>
   show Nx P B e n _ cs' CS w b (stErf l P k tm x cs n hp)
   unfold stErf
   split
   ·rename_i st p fn2 nt2 tm2 ps a c d hg
    obtain ⟨tmps, ho, ht, hd⟩ := hw.loop hl hg
    have hget := getObj_run (P := P) ho (by simp)
    have hset := fun o' => setObj_run (P := P) (o' := o') ho (by simp)
    have go : st ≠ .busy → Nx P B e n ⟨f, t, .endRangeFunc (e.β l) :: k', ds, .run, kd, r⟩ cs' CS w b (.go ⟨x, .run, pendTo p k, tm, cs, n, hp.set l (.loop .exhausted p fn2 nt2 tm2 ps a c d)⟩) := by
     intro hst
     have hrun : (Instr.endLoop (e.β l)).run P w = .ok p (setB w (e.β l) (.loop { state := .exhausted, pending := p, fn := fn2, tmps := tmps, params := ps.toArray, assign := a, body := c, defers := e.β d })) := by
      simp [Instr.endLoop, Instr.getLoop, hget, hset, hst]
     refine ⟨e, _, ⟨f, t, (p.map Item.code).toList ++ k', ds, .run, kd, r⟩, cs', step_lone_go ?_, Ext.refl _ _, hw.set hl (by rw [hg]; simp) (.loop _ _ _ _ _ _ _ _ _ _ ht hd), ⟨g1, g2, ?_, g4, .run, g6, g7⟩, hcs, hb⟩
     ·simp only [stepG, stepG.exec, Sem.runT_eq, hrun, GStep.bare_after, GStep.bare_go]
     ·cases p with
      | none => exact hk
      | some c2 => exact .code _ _ _ hk
    cases st with
    | busy => trivial
    | ready => exact go (by simp)
    | done => exact go (by simp)
    | exhausted => exact go (by simp)
   ·trivial
 | br k k' hk =>
   show Nx P B e n _ cs' CS w b (stBr P k tm x cs n hp)
   obtain ⟨fn, nt, dfs, kind, rnd⟩ := x
   unfold stBr
   simp only
   rcases g7 with ⟨h1, h2⟩ | ⟨l, h1, h2, hl⟩
   ·simp only at h1; subst h1; trivial
   ·simp only at h1 h2
    subst h1 h2
    simp only
    split
    ·rename_i p fn2 nt2 tm2 ps a c d hg
     obtain ⟨tmps, ho, ht, hd⟩ := hw.loop hl hg
     have hget := getObj_run (P := P) ho (by simp)
     have hset := fun o' => setObj_run (P := P) (o' := o') ho (by simp)
     have hrun : (Instr.beginRound (e.β l)).run P w = .ok () (setB w (e.β l) (.loop { state := .busy, pending := p, fn := fn2, tmps := tmps, params := ps.toArray, assign := a, body := c, defers := e.β d })) := by
      simp [Instr.beginRound, Instr.getLoop, hget, hset]
     have hrun2 : ((some (e.β l)).elim (stuck "beginRound: no round") Instr.beginRound >>= fun _ => (pure .skip : Sem Next)).run P w = .ok .skip (setB w (e.β l) (.loop { state := .busy, pending := p, fn := fn2, tmps := tmps, params := ps.toArray, assign := a, body := c, defers := e.β d })) := by
      simp [hrun]
     refine ⟨e, _, ⟨f, t, k', ds, .run, kd, some (e.β l)⟩, cs', step_lone_go ?_, Ext.refl _ _, hw.set hl (by rw [hg]; simp) (.loop _ _ _ _ _ _ _ _ _ _ ht hd), ⟨g1, g2, hk, g4, .run, g6, .inr ⟨l, rfl, rfl, hl⟩⟩, hcs, hb⟩
     simp only [stepG, stepG.exec, stepG.apply, Sem.runT_eq, if_true, hrun2, GStep.bare_after, GStep.bare_go, Frame.finish]
    ·trivial
theorem resultsOf_some {f : FuncId} {rs : List ResultVar} (h : resultsOf P f = some rs) : ∃ fn, P.funcs[f]? = some fn ∧ rs = fn.results.toList := by
 unfold resultsOf at h
 rw [zaa] at h
 split at h
 ·rename_i hb
  split at h
  ·rename_i fn hf
   cases h
   exact ⟨fn, ftab_get hP (blt_lt hb) hf, rfl⟩
  ·cases h
 ·cases h
theorem unwind_nx (hw : WR P B e n hp w) {x : X} {mode : FrameMode} {tm : Tm} {cs : List AF} {todo : List AI} {fr : Frame} {cs' : List Frame} (hm : mode ≠ .run) (hf : RF e n ⟨x, mode, todo, tm⟩ fr) (hcs : RFs e n cs cs') {b : Option Nat × FuncId} (hb : bot x cs = b) :
  Nx P B e n fr cs' CS w b (unwindA P mode todo tm x cs n hp) := by
 obtain ⟨fn, nt, dfs, kind, rnd⟩ := x
 obtain ⟨f, t, td, ds, md, kd, r⟩ := fr
 obtain ⟨g1, g2, g3, g4, g5, g6, g7⟩ := hf
 simp only at g1 g2 g3 g4 g5 g6 g7
 subst g1 g6
 have hmd : md ≠ .run := by rintro rfl; cases g5; exact hm rfl
 have hst : ∀ (ds : List Deferred) (cs2 : List Frame), stepG P true { frame := ⟨f, t, td, ds, md, kd, r⟩, callers := cs2, status := .running, dying := none } w = unwind P true ⟨f, t, td, ds, md, kd, r⟩ cs2 none w := by
  intro ds cs2
  simp only [stepG]
 unfold unwindA
 simp only
 cases g4 with
 | cons d d' dl dl' hd hdl =>
   cases hd with
   | collected bb hbb =>
     simp only
     split
     ·rename_i l hg
      obtain ⟨o, ho, hr⟩ := hw.obj bb hbb (by rw [hg]; simp)
      rw [hg] at hr
      cases hr with
      | dfr _ l' hl =>
      have hget := getObj_run (P := P) ho (by simp)
      have hset := fun o' => setObj_run (P := P) (o' := o') ho (by simp)
      have hrun : (Instr.takeDeferred (e.β bb)).run P w = .ok l' (setB w (e.β bb) (.deferred none)) := by
       simp [Instr.takeDeferred, hget, hset]
      refine ⟨e, _, ⟨f, t, td, l' ++ dl', md, kd, r⟩, cs', step_lone_go ?_, Ext.refl _ _, hw.set hbb (by rw [hg]; simp) .dfrN, ⟨rfl, g2, g3, hl.append hdl, g5, rfl, g7⟩, hcs, by rw [← hb]; exact bot_eq (x := ⟨f, nt, l ++ dl, kd, rnd⟩) (y := ⟨f, nt, ⟨.collected bb, #[]⟩ :: dl, kd, rnd⟩) rfl rfl cs⟩
      rw [hst]
      simp only [unwind, Sem.runT_eq, hrun, GStep.bare_after, GStep.bare_go]
     ·trivial
   | fn g c c' a a' hc ha =>
     simp only
     split
     ·rename_i fr2 he
      have hargs : RL e n (a.toList ++ c.toList) (a'.toList ++ c'.toList) := ha.append hc
      obtain ⟨h3, _, _, _, hbody, _⟩ := enter_rel hP he hargs
      have hinv : (invoke (.fn (.func g) c') a').run P w = .ok (.enter g (a'.toList ++ c'.toList).toArray) w := by
       have hfn := fnOk_body hP hbody
       unfold fnOk at hfn
       split at hfn
       ·rename_i fn3 hfn3
        simp only [Bool.and_eq_true, bne_iff_ne, ne_eq] at hfn
        obtain ⟨c3, hc3⟩ := Option.isSome_iff_exists.1 hfn.2
        have e5 : (a'.toList ++ c'.toList).toArray = a' ++ c' := by apply Array.ext'; simp
        rw [e5]
        simp [invoke, callFunc, hfn3, hfn.1, hc3]
       ·cases hfn
      refine top_nx (w2 := w) (cs2' := ⟨f, t, td, dl', md, kd, r⟩ :: cs') (step_lone_go ?_) (Ext.refl _ _) hw h3 (.cons _ _ _ _ ⟨rfl, g2, g3, hdl, g5, rfl, g7⟩ hcs) (by rw [← hb]; exact bot_eq (x := ⟨f, nt, dl, kd, rnd⟩) (y := ⟨f, nt, ⟨.fn (.func g) c, a⟩ :: dl, kd, rnd⟩) rfl rfl cs)
      rw [hst]
      cases md with
      | run => exact absurd rfl hmd
      | returning => simp [unwind, callDeferred, hinv]
      | panicking ch => simp [unwind, callDeferred, hinv]
     ·trivial
 | nil =>
   simp only
   cases g5 with
   | run => exact absurd rfl hm
   | returning =>
     simp only
     split
     ·rename_i rs hrs
      rw [zaa]
      split
      rotate_left
      ·trivial
      rename_i hok
      split
      ·rename_i l hl
       obtain ⟨fn, hfn, rfl⟩ := resultsOf_some hP hrs
       obtain ⟨v', h1, h2⟩ := results_rel hP hw g2 hok hl
       refine doRet_nx (Ext.refl _ _) hw h2 hcs hb ?_ ?_ ?_
       ·intro hk c l2 hcl
        simp only at hk
        subst hk
        rw [hcl]
        refine step_lone_go ?_
        rw [hst]
        simp [unwind, hfn, h1, doReturn]
       ·intro hk c l2 hcl
        simp only at hk
        subst hk
        rw [hcl]
        refine step_lone_go ?_
        rw [hst]
        simp only [unwind, hfn, Sem.runT_eq, h1, GStep.bare_after, doReturn]
        unfold settle
        split <;> (try split) <;> simp_all
       ·intro hk hc hb1
        simp only at hk
        subst hk hc
        rw [← hb] at hb1 ⊢
        exact ⟨rfl, ⟨rfl, rfl, rfl, fn, hfn, h1⟩, rfl⟩
      ·trivial
     ·trivial
   | panicking ch ch' hch =>
     simp only
     cases hcs with
     | nil => trivial
     | cons a f2 l l' ha hl =>
       obtain ⟨x2, mode2, todo2, tm2⟩ := a
       obtain ⟨f3, t3, td3, ds3, md3, kd3, r3⟩ := f2
       obtain ⟨j1, j2, j3, j4, j5, j6, j7⟩ := ha
       simp only at j1 j2 j3 j4 j5 j6 j7
       simp only
       split
       rotate_left
       ·trivial
       rename_i rs hrs
       obtain ⟨fn, hfn, _⟩ := resultsOf_some hP hrs
       refine ⟨e, w, ⟨f3, t3, td3, ds3, raised md3 ch', kd3, r3⟩, l', ?_, Ext.refl _ _, hw, ⟨j1, j2, j3, j4, raise_rel j5 hch, j6, j7⟩, hl, by rw [← hb]; rfl⟩
       have : ({ (⟨f3, t3, td3, ds3, md3, kd3, r3⟩ : Frame) with mode := raised md3 ch' } : Frame) = (⟨f3, t3, td3, ds3, md3, kd3, r3⟩ : Frame).raise ch' := (Frame.raise_mode _ _).symm
       show step P (lone _ (_ :: l' ++ CS) w) = .next (lone ({ (⟨f3, t3, td3, ds3, md3, kd3, r3⟩ : Frame) with mode := raised md3 ch' } : Frame) (l' ++ CS) w)
       rw [this]
       refine step_lone_go ?_
       rw [hst]
       simp [unwind, Frame.catches, hfn]
theorem step_sound {s : S} {fr : Frame} {cs' : List Frame} {b : Option Nat × FuncId} (hw : WR P B e s.n s.hp w) (hf : RF e s.n ⟨s.x, s.mode, s.todo, s.tm⟩ fr) (hcs : RFs e s.n s.cs cs') (hb : bot s.x s.cs = b) :
  Nx P B e s.n fr cs' CS w b (astep P s) := by
 obtain ⟨x, mode, todo, tm, cs, n, hp⟩ := s
 unfold astep
 simp only
 cases mode with
 | run => exact run_nx hP hw hf hcs hb
 | returning => exact unwind_nx hP hw (by simp) hf hcs hb
 | panicking c => exact unwind_nx hP hw (by simp) hf hcs hb
end
end Go.Gz
