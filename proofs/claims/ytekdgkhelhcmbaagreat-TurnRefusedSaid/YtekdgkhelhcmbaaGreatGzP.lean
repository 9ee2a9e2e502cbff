/- The evaluator that the kernel runs: one step of the machine, part 2. -/
import Derived.Test.YtekdgkhelhcmbaaGreatGzO
namespace Go.Gz
open Go Go.Gx Go.RowKit

section
variable {P : Program} (hP : Small P) {B : Base} {e : Env} {n : Nat} {hp : Hp} {w : World} {CS : List Frame}

theorem ofList_rel {nt : Nat} (hnt : nt ≤ 512) : ∀ (l l' : List Value) (k : Nat) (t : Tm) (a : Array Value), RL e n l l' → k + l.length ≤ nt → a.size = nt → (∀ i, i < nt → RV e n (slot t i) (a.getD i undef)) →
    ∀ i, i < nt → RV e n (slot (Tm.ofList t k l) i) ((if k ≤ i ∧ i < k + l.length then l'[i - k]? else some (a.getD i undef)).getD undef)
  | [], _, k, t, a, .nil, _, _, h, i, hi => by simp [Tm.ofList]; rw [if_neg (by omega)]; simpa using h i hi
  | v :: l, _, k, t, a, .cons _ v' _ l' hv hl, hk, hs, h, i, hi => by
    simp only [List.length_cons] at hk ⊢
    have := ofList_rel hnt l l' (k + 1) (t.set k v) (a.setIfInBounds k v') hl (by omega) (by simpa using hs) (by
      intro j hj
      by_cases hjk : k = j
      · subst hjk
        rw [slot_set_same _ _ (by omega)]
        simpa [hs, hj] using hv
      · rw [slot_set_ne _ _ _ (by omega) (by omega) hjk]
        simpa [Array.getElem?_setIfInBounds_ne hjk] using h j hj) i hi
    rw [Tm.ofList]
    by_cases h1 : k + 1 ≤ i ∧ i < k + 1 + l.length
    · rw [if_pos h1] at this
      rw [if_pos (by omega), show i - k = (i - (k + 1)) + 1 by omega, List.getElem?_cons_succ]
      exact this
    · rw [if_neg h1] at this
      by_cases h2 : i = k
      · subst h2
        rw [if_pos (by omega)]
        simp only [Nat.sub_self, List.getElem?_cons_zero, Option.getD_some]
        simpa [hs, hi] using this
      · rw [if_neg (by omega)]
        simpa [Array.getElem?_setIfInBounds_ne (Ne.symm h2)] using this

include hP
theorem bodyOf_some {f : FuncId} {c : Code} {nt : Nat} (h : bodyOf P f = some (c, nt)) : ∃ fn, P.funcs[f]? = some fn ∧ fn.body = some c ∧ fn.ntmps = nt ∧ nt ≤ 512 ∧ resOk nt fn.results.toList = true ∧ (ftab P).get f = some fn ∧ f < 4096 := by
  unfold bodyOf at h
  rw [cnd_ite] at h
  split at h
  · rename_i hb
    split at h
    · rename_i fn hf
      split at h
      · rename_i c' hc
        rw [cnd_ite] at h
        split at h
        · rename_i hk
          obtain ⟨h1, h2⟩ := and_split hk
          cases h
          exact ⟨fn, ftab_get hP (blt_lt hb) hf, hc, rfl, ble_le h1, h2, hf, blt_lt hb⟩
        · cases h
      · cases h
    · cases h
  · cases h

/-- A function is entered. -/
theorem enter_rel {f : FuncId} {args args' : List Value} {kind : CallKind} {fr : AF} (h : enterF P f args kind = some fr) (hr : RL e n args args') :
    RF e n fr (Frame.enter P f args'.toArray kind) ∧ fr.mode = .run ∧ fr.x.fn = f ∧ fr.x.rnd = none ∧ (bodyOf P f).isSome = true ∧ fr.x.kind = kind := by
  unfold enterF at h
  split at h
  · rename_i c nt hb
    rw [cnd_ite] at h
    split at h
    · rename_i hle
      have hle := ble_le hle
      cases h
      obtain ⟨fn, hf, hbody, hnt, h512, _, _, _⟩ := bodyOf_some hP hb
      have hlen := hr.length
      have e1 : Frame.enter P f args'.toArray kind = ⟨f, args'.toArray ++ Array.replicate (nt - args'.length) undef, [.code c], [], .run, kind, none⟩ := by
        simp [Frame.enter, hf, hbody, hnt]
      rw [e1]
      refine ⟨⟨rfl, ⟨by simp; omega, h512, fun i hi => ?_⟩, .code c _ _ .nil, .nil, .run, rfl, .inl ⟨rfl, rfl⟩⟩, rfl, rfl, rfl, by rw [hb]; rfl, rfl⟩
      have := ofList_rel h512 args args' 0 .none (Array.replicate nt undef) hr (by omega) (by simp) (fun j hj => by rw [slot_none]; simpa [hj] using RV.plain undef rfl) i hi
      simp only [Nat.zero_le, true_and, Nat.zero_add, Nat.sub_zero] at this
      show RV e n (slot (Tm.ofList .none 0 args) i) _
      have e2 : (args'.toArray ++ Array.replicate (nt - args'.length) undef).getD i undef = ((if i < args.length then args'[i]? else some ((Array.replicate nt undef).getD i undef)).getD undef) := by
        by_cases hia : i < args.length
        · rw [if_pos hia]
          have : i < args'.toArray.size := by simp; omega
          simp [Array.getElem?_append, hlen ▸ hia]
        · rw [if_neg hia]
          have : ¬ i < args'.length := by omega
          simp [Array.getElem?_append, this, hi, Array.getElem?_replicate]
          split <;> rfl
      rw [e2]; exact this
    · cases h
  · cases h
omit hP

theorem WR.loop (hw : WR P B e n hp w) {b : Nat} (hb : b < n) {st : LoopState} {pend : Option Code} {fn : FuncId} {nt : Nat} {tm : Tm} {ps : List Tmp} {a c : Code} {d : Nat} (h : hp.get b = .loop st pend fn nt tm ps a c d) :
    ∃ tmps, w.heap[e.β b]? = some (.loop { state := st, pending := pend, fn := fn, tmps := tmps, params := ps.toArray, assign := a, body := c, defers := e.β d }) ∧ RTm e n nt tm tmps ∧ d < n := by
  obtain ⟨o, ho, hr⟩ := hw.obj b hb (by rw [h]; simp)
  rw [h] at hr
  cases hr with
  | loop _ _ _ _ _ tmps _ _ _ _ ht hd => exact ⟨tmps, ho, ht, hd⟩

theorem putArgs_rel {nt : Nat} : ∀ (ps : List Tmp) (l l' : List Value) (tm tm2 : Tm) (tmps : Array Value), RL e n l l' → RTm e n nt tm tmps → putArgs nt tm ps l = some tm2 →
    ps.length = l'.length ∧ RTm e n nt tm2 ((ps.zip l').foldl (fun t (p : Tmp × Value) => t.setIfInBounds p.1 p.2) tmps)
  | [], [], _, tm, tm2, tmps, .nil, ht, h => by simp [putArgs] at h; subst h; exact ⟨rfl, by simpa using ht⟩
  | p :: ps, v :: l, _, tm, tm2, tmps, .cons _ v' _ l' hv hl, ht, h => by
    simp only [putArgs, cnd_ite] at h
    split at h
    · rename_i hp
      have := ht.put (d := some p) (v := v) (v' := v') hp hv
      obtain ⟨h1, h2⟩ := putArgs_rel ps l l' _ tm2 _ hl this h
      exact ⟨by simp [h1], by simpa [putT] using h2⟩
    · cases h
  | [], _ :: _, _, _, _, _, _, _, h => by simp [putArgs] at h
  | _ :: _, [], _, _, _, _, _, _, h => by simp [putArgs] at h

/-- A round begins. -/
theorem round_rel (hw : WR P B e n hp w) {l : Nat} (hl : l < n) {args args' : List Value} {fr : AF} (h : roundF hp l args = some fr) (hr : RL e n args args') :
    ∃ g tmps a b, (Instr.yield (e.β l) args'.toArray).run P w = .ok (.round (e.β l) g tmps a b) w ∧ RF e n fr (Frame.round (e.β l) g tmps a b .normal) ∧ fr.mode = .run ∧ fr.x.kind = .normal := by
  unfold roundF at h
  split at h
  · rename_i st pend fn nt tm ps a b d hg
    simp only [Option.map_eq_some_iff] at h
    obtain ⟨tm2, h1, rfl⟩ := h
    obtain ⟨tmps, ho, ht, hd⟩ := hw.loop hl hg
    obtain ⟨h2, h3⟩ := putArgs_rel ps args args' tm tm2 tmps hr ht h1
    have hget := getObj_run (P := P) ho (by simp)
    refine ⟨fn, _, a, b, ?_, ⟨rfl, h3, .code a _ _ (.br _ _ (.code b _ _ .nil)), .nil, .run, rfl, .inr ⟨l, rfl, rfl, hl⟩⟩, rfl, rfl⟩
    simp [Instr.yield, Instr.getLoop, hget, h2]
  · cases h

theorem RFs.app (_h : True) : True := trivial

/-- What is on top. -/
theorem top_nx {fr : Frame} {cs : List Frame} {b : Option Nat × FuncId} {fr2 : AF} {cs2 : List AF} {n2 : Nat} {hp2 : Hp} {e2 : Env} {w2 : World} {f2 : Frame} {cs2' : List Frame}
    (h1 : step P (lone fr (cs ++ CS) w) = .next (lone f2 (cs2' ++ CS) w2)) (hx : Ext e n e2 n2) (h2 : WR P B e2 n2 hp2 w2) (h3 : RF e2 n2 fr2 f2) (h4 : RFs e2 n2 cs2 cs2') (h5 : bot fr2.x cs2 = b) : Nx P B e n fr cs CS w b (top fr2 cs2 n2 hp2) := by
  obtain ⟨x, mode, todo, tm⟩ := fr2
  exact ⟨e2, w2, f2, cs2', h1, hx, h2, h3, h4, h5⟩

include hP
theorem ops_sound (hw : WR P B e n hp w) {x : X} {tm : Tm} {cs : List AF} {all rest : List Oper} {k : List AI} {fr : Frame} {cs' : List Frame} (hf : RF e n ⟨x, .run, .ops all rest :: k, tm⟩ fr) (hcs : RFs e n cs cs') {b : Option Nat × FuncId} (hb : bot x cs = b) :
    Nx P B e n fr cs' CS w b (stOps all rest P k tm x cs n hp) := by
  obtain ⟨f, t, td, ds, md, kd, r⟩ := fr
  obtain ⟨hfn, htm, htd, hds, hmd, hkd, hrn⟩ := hf
  simp only at hfn htm htd hds hmd hkd hrn
  cases hmd
  cases htd with
  | ops ops i _ k' hok hk =>
  subst hfn hkd
  unfold stOps
  split
  · rename_i hnil
    have hi : ops.size - i = 0 := by
      have := congrArg List.length hnil
      simpa using this
    rw [hi]
    refine ⟨e, w, ⟨x.fn, t, k', ds, .run, x.kind, r⟩, cs', ?_, Ext.refl _ _, hw, ⟨rfl, htm, hk, hds, .run, rfl, hrn⟩, hcs, hb⟩
    exact step_lone_go (by simp [stepG, stepG.exec])
  · rename_i o rest' hcons
    have hi : i < ops.size := by
      have := congrArg List.length hcons
      simp at this; omega
    have ho : ops[i]? = some o := by
      have : (ops.toList.drop i)[0]? = some o := by rw [hcons]; rfl
      simpa using this
    have hrest : rest' = ops.toList.drop (i + 1) := by
      have := congrArg List.tail hcons
      simpa using this.symm
    have hrg : List.range' i (ops.size - i) = i :: List.range' (i + 1) (ops.size - (i + 1)) := by
      rw [show ops.size - i = (ops.size - (i + 1)) + 1 by omega, List.range'_succ]
    rw [hrg]
    have hom : o ∈ ops.toList := List.mem_of_getElem? (by simpa using ho : ops.toList[i]? = some o)
    obtain ⟨hdst, hopd⟩ := opsOk_mem hok o hom
    have hkk : ∀ {e2 : Env} {n2 : Nat}, Ext e n e2 n2 → RT e2 n2 x.nt (.ops ops.toList rest' :: k) (.inRegion ops (List.range' (i + 1) (ops.size - (i + 1))) :: k') := by
      intro e2 n2 hx
      rw [hrest]
      exact .ops ops (i + 1) k k' hok (hk.mono hx)
    have hst : RT e n x.nt (.ops ops.toList (o :: rest') :: k) (.inRegion ops (i :: List.range' (i + 1) (ops.size - (i + 1))) :: k') := by
      rw [← hcons, ← hrg]
      exact .ops ops i k k' hok hk
    cases hwa : wantedA ops.toList tm hp o with
    | none => exact ⟨rfl, hw, ⟨rfl, htm, hst, hds, .run, rfl, hrn⟩, hcs, hb⟩
    | some bw =>
    have hwd := wanted_rel htm hok o rfl hw.fk hwa
    cases bw with
    | true =>
      show Nx P B e n _ cs' CS w b (apply ((aopW o.op).f P tm n hp) P o ops.toList rest' k tm x cs n hp)
      have hevs : ∀ y ∈ o.op.operands.toList, RV e n (ev tm y) (evx t.toList y) := by
        intro y hy
        have := ev_rel htm (opdsOk_mem hopd y hy)
        have e1 : (⟨t, []⟩ : Act).eval = evx t.toList := by
          have := eval_evx t.toList
          simpa using this
        rwa [e1] at this
      have hs := aop_sound hP (tm := tm) (fr := t.toList) (o := o) hw hevs
      have e1 : evx t.toList = (⟨t, []⟩ : Act).eval := by
        have := eval_evx t.toList
        simpa using this.symm
      rw [e1] at hs
      -- a defer in a round is not gone through
      have hnd : ∀ (res : R), (∀ d, res ≠ .dfr d) → (aopW o.op).f P tm n hp = res → res ≠ .bad → (r = none ∨ ∀ c, o.op ≠ .defer c) := by
        intro res hnd heq hnb
        right
        intro c hc
        rw [hc] at heq
        have heq : aDefer c P tm n hp = res := heq
        unfold aDefer at heq
        split at heq
        · split at heq
          · exact hnd _ heq.symm
          · exact hnb heq.symm
        · exact hnb heq.symm
      cases hres : (aopW o.op).f P tm n hp with
      | val v =>
        rw [hres] at hs
        obtain ⟨v', h1, h2⟩ := hs
        exact ⟨e, w, _, cs', op_value ho hwd (hnd _ (by simp) hres (by simp)) (.inl h1), Ext.refl _ _, hw, ⟨rfl, htm.put hdst h2, hkk (Ext.refl _ _), hds, .run, rfl, hrn⟩, hcs, hb⟩
      | mem v hp2 =>
        rw [hres] at hs
        obtain ⟨v', w', h1, h2, h3⟩ := hs
        exact ⟨e, w', _, cs', op_value ho hwd (hnd _ (by simp) hres (by simp)) h1, Ext.refl _ _, h3, ⟨rfl, htm.put hdst h2, hkk (Ext.refl _ _), hds, .run, rfl, hrn⟩, hcs, hb⟩
      | new v hp2 ob =>
        rw [hres] at hs
        show Nx P B e n _ cs' CS w b (cnd (Nat.blt n 32767) _ _)
        rw [cnd_ite]
        split
        · rename_i hn
          obtain ⟨v', w', q, tt, h1, h2, h3⟩ := hs (blt_lt hn)
          have hx := e.ext n q tt
          exact ⟨e.add n q tt, w', _, cs', op_value ho hwd (hnd _ (by simp) hres (by simp)) (.inl h1), hx, h3, ⟨rfl, (htm.mono hx).put hdst h2, hkk hx, hds.mono hx, .run, rfl, hrn.mono hx⟩, hcs.mono hx, hb⟩
        · trivial
      | enter g args =>
        rw [hres] at hs
        have hfin : ∀ v, (⟨x.fn, t, .inRegion ops (i :: List.range' (i + 1) (ops.size - (i + 1))) :: k', ds, .run, x.kind, r⟩ : Frame).finish v = ⟨x.fn, putT t o.dst v, .inRegion ops (List.range' (i + 1) (ops.size - (i + 1))) :: k', ds, .run, x.kind, r⟩ := by
          intro v
          cases hd : o.dst <;> simp [Frame.finish, ho, hd, putT]
        refine ⟨rfl, hw, ⟨rfl, htm, hst, hds, .run, rfl, hrn⟩, hcs, hb, fun e2 n2 v v' hx hv => ?_, fun hbody => ?_⟩
        · rw [hfin]
          exact ⟨rfl, (htm.mono hx).put hdst hv, hkk hx, hds.mono hx, .run, rfl, hrn.mono hx⟩
        · obtain ⟨args', h1, h2⟩ := hs hbody
          exact ⟨args', h2, op_enter (cs := cs' ++ CS) ho hwd (hnd _ (by simp) hres (by simp)) h1⟩
      | rnd l args =>
        rw [hres] at hs
        obtain ⟨args', h1, h2, h3⟩ := hs
        show Nx P B e n _ cs' CS w b (match roundF hp l args with | some fr => _ | none => _)
        cases he : roundF hp l args with
        | none => trivial
        | some fr2 =>
          obtain ⟨g, tmps, a, c, h4, h5, _, _⟩ := round_rel hw h3 he h2
          rw [h4] at h1
          exact top_nx (by simpa using op_round (cs := cs' ++ CS) ho hwd (hnd _ (by simp) hres (by simp)) h1) (Ext.refl _ _) hw h5 (.cons _ _ _ _ ⟨rfl, htm, hst, hds, .run, rfl, hrn⟩ hcs) hb
      | dfr d =>
        rw [hres] at hs
        obtain ⟨d', h1, h2⟩ := hs
        obtain ⟨fn, nt, dfs, kind, rnd⟩ := x
        cases rnd with
        | some l => trivial
        | none =>
          rcases hrn with ⟨_, rfl⟩ | ⟨l, hl, _⟩
          · exact ⟨e, w, _, cs', op_defer ho hwd h1, Ext.refl _ _, hw, ⟨rfl, htm.put hdst (.plain _ rfl), hkk (Ext.refl _ _), .cons _ _ _ _ h2 hds, .run, rfl, .inl ⟨rfl, rfl⟩⟩, hcs, by rw [← hb]; cases cs <;> rfl⟩
          · cases hl
      | rcv =>
        rw [hres] at hs
        have hs : _ = _ := hs
        obtain ⟨fn, nt, dfs, kind, rnd⟩ := x
        show Nx P B e n _ cs' CS w b (apRcv P o ops.toList rest' k tm ⟨fn, nt, dfs, kind, rnd⟩ cs n hp)
        unfold apRcv
        simp only
        split
        · rename_i x' mode' todo' tm' cs2
          cases hcs with
          | cons _ c' _ l' hc hl =>
          rcases hrn with ⟨_, hrn⟩ | ⟨l, hl, _⟩
          · subst hrn
            have hrec := op_recover (P := P) (cs := (c' :: l') ++ CS) (rest := List.range' (i + 1) (ops.size - (i + 1))) (k := k') (ds := ds) (f := fn) ho hwd hs
            obtain ⟨g1, g2, g3, g4, g5, g6, g7⟩ := hc
            obtain ⟨f1, t1, td1, ds1, md1, kd1, r1⟩ := c'
            (try simp only at g1 g2 g3 g4 g5 g6 g7)
            split
            · rename_i v older
              cases g5 with
              | panicking _ l2 hch =>
              cases hch with
              | cons _ y _ l3 hv hr hg hl3 =>
              obtain ⟨yv, yr, yg⟩ := y
              simp only at hv hr hg
              subst hr hg
              simp only [recoverD, List.cons_append] at hrec
              exact ⟨e, w, _, _ :: l', hrec, Ext.refl _ _, hw, ⟨rfl, htm.put hdst hv, hkk (Ext.refl _ _), hds, .run, rfl, .inl ⟨rfl, rfl⟩⟩, .cons _ _ _ _ ⟨g1, g2, g3, g4, .panicking _ _ (.cons _ _ _ _ hv rfl rfl hl3), g6, g7⟩ hl, by rw [← hb]; rfl⟩
            · rename_i hno
              have hnone : recoverD ((⟨f1, t1, td1, ds1, md1, kd1, r1⟩ : Frame) :: l' ++ CS) = none := by
                simp only [recoverD, List.cons_append]
                cases g5 with
                | run => rfl
                | returning => rfl
                | panicking l1 l2 hch =>
                  cases hch with
                  | nil => rfl
                  | cons y1 y2 m1 m2 hv hr hg hl3 =>
                    obtain ⟨v1, r1', q1⟩ := y1
                    obtain ⟨v2, r2', q2⟩ := y2
                    simp only at hr hg
                    subst hr hg
                    cases r1' <;> cases q1 <;> first | rfl | exact absurd rfl (hno _ _)
              rw [hnone] at hrec
              exact ⟨e, w, _, _ :: l', hrec, Ext.refl _ _, hw, ⟨rfl, htm.put hdst (.plain _ rfl), hkk (Ext.refl _ _), hds, .run, rfl, .inl ⟨rfl, rfl⟩⟩, .cons _ _ _ _ ⟨g1, g2, g3, g4, g5, g6, g7⟩ hl, hb⟩
          · cases hl
        · trivial
      | pan v =>
        rw [hres] at hs
        obtain ⟨v', h1, h2⟩ := hs
        exact ⟨e, w, _, cs', op_panic ho hwd (hnd _ (by simp) hres (by simp)) h1, Ext.refl _ _, hw, ⟨rfl, htm, hst, hds, .panicking _ _ (.cons _ _ _ _ h2 rfl rfl .nil), rfl, hrn⟩, hcs, hb⟩
      | need c => exact ⟨rfl, hw, ⟨rfl, htm, hst, hds, .run, rfl, hrn⟩, hcs, hb⟩
      | bad => trivial
    | false =>
      exact ⟨e, w, _, cs', step_skip' ho hwd, Ext.refl _ _, hw, ⟨rfl, htm.put hdst (.plain _ rfl), hkk (Ext.refl _ _), hds, .run, rfl, hrn⟩, hcs, hb⟩
end

end Go.Gz
