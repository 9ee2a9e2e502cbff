/- The evaluator that the kernel runs: regions that draw, part 4: what holds in the middle of a region, in any order. -/
import Derived.Test.YtekdgkhelhcmbaaGreatGzV
namespace Go.Gz
open Go Go.Gx Go.RowKit

theorem opdHas_mem {t : Nat} : ∀ {l : List Operand}, .tmp t ∈ l → opdHas t l = true
  | [], h => by simp at h
  | y :: l, h => by
    rcases List.mem_cons.1 h with rfl | h2
    · unfold opdHas
      rw [cnd_ite, if_pos (Nat.beq_refl _)]
    · cases y with
      | tmp u =>
        unfold opdHas
        rw [cnd_ite]
        split
        · rfl
        · exact opdHas_mem h2
      | _ => show opdHas t l = true; exact opdHas_mem h2

theorem putx_ne {tm : Tm} {o : Option Tmp} {v : Value} {d : Nat} (hd : d < 512) (ho : ∀ k, o = some k → k < 512) (h : o ≠ some d) : slot (putx tm o v) d = slot tm d := by
  cases o with
  | none => rfl
  | some k => exact slot_set_ne _ _ _ (ho k rfl) hd (by rintro rfl; exact h rfl) _

section
variable {P : Program} {sm : Sm} {rec : S → Ans} {kb : AObj} {ops : Array Oper} {all l : List DO} (hpl : Plan ops all) (hor : Order ops all l) {st : Nat → St} {vs : Nat → Value} (hst : ∀ (q : Nat) (y : DO), l[q]? = some y → StepOk P sm rec kb ops.toList y (st q) (vs q) (st (q + 1)))
  {nt : Nat} (hok : opsOk nt ops.toList = true) (h512 : nt ≤ 512) (hn0 : (st 0).n ≤ 32767) (hs0 : (st 0).snaps = [⟨0, (st 0).n, (st 0).hp⟩]) (ha0 : (st 0).als = []) (hk0 : (st 0).hp.get 32767 = kb)

include hor in
theorem pair_dst {x a : DO} (hx : x ∈ l) (ha : a ∈ l) (hi : x.i ≠ a.i) {d : Nat} (hd : a.o.dst = some d) : x.o.dst ≠ some d := by
  intro h
  have hp := hor.pairs x hx a ha
  unfold pairOk at hp
  rw [hd] at hp
  simp only [h, cnd_ite] at hp
  have h1 : dstIs d (some d) = true := Nat.beq_refl _
  rw [h1] at hp
  split at hp
  · rename_i hb; exact hi (beq_eq hb)
  · split at hp
    · split at hp <;> cases hp
    · cases hp
include hpl hor in
theorem pair_look {q q' : Nat} {x a : DO} (hx : l[q]? = some x) (ha : l[q']? = some a) {d : Nat} (hd : a.o.dst = some d) (hl : looksT ops.toList x.o d = true) : x.i ≠ a.i ∧ x.m.testBit a.i = true := by
  have hp := hor.pairs x (List.mem_of_getElem? hx) a (List.mem_of_getElem? ha)
  unfold pairOk at hp
  rw [hd] at hp
  simp only [cnd_ite, hl] at hp
  split at hp
  · cases hp
  · rename_i hb
    refine ⟨fun h => hb (by rw [h]; exact Nat.beq_refl _), ?_⟩
    simp only [if_true] at hp
    split at hp
    · rename_i h2
      rw [(hor.at_ hpl ha).2.1] at h2
      exact land_bit.1 h2
    · cases hp

include hpl hor hok in
theorem dst_lt {q : Nat} {x : DO} (hx : l[q]? = some x) {d : Nat} (hd : x.o.dst = some d) : d < nt := by
  have := (hor.at_ hpl hx).1
  have hm : x.o ∈ ops.toList := List.mem_of_getElem? (by simpa using this : ops.toList[x.i]? = some x.o)
  have := (opsOk_mem hok x.o hm).1
  rw [hd] at this
  exact blt_lt this
include hpl hor hok in
theorem opds_ok {q : Nat} {x : DO} (hx : l[q]? = some x) : opdsOk nt x.o.op.operands.toList = true := by
  have := (hor.at_ hpl hx).1
  have hm : x.o ∈ ops.toList := List.mem_of_getElem? (by simpa using this : ops.toList[x.i]? = some x.o)
  exact (opsOk_mem hok x.o hm).2

include hpl hor hst hok h512 in
theorem slot_done {q : Nat} {x : DO} {d : Nat} (hx : l[q]? = some x) (hd : x.o.dst = some d) : ∀ (q' : Nat), q < q' → q' ≤ l.length → slot (st q').tm d = vs q
  | 0, h, _ => by omega
  | k + 1, h, hk => by
    have hdn := dst_lt hpl hor hok hx hd
    by_cases hkq : k = q
    · subst hkq
      rw [(hst k x hx).tm, hd]
      exact slot_set_same _ _ (by omega) _
    · have hkl : k < l.length := by omega
      have hy := List.getElem?_eq_getElem hkl
      generalize l[k] = y at hy
      rw [(hst k y hy).tm, putx_ne (by omega) (fun j hj => Nat.lt_of_lt_of_le (dst_lt hpl hor hok hy hj) h512)]
      · exact slot_done hx hd k (by omega) (by omega)
      · exact pair_dst hor (List.mem_of_getElem? hy) (List.mem_of_getElem? hx) (fun h => hkq (hor.inj hpl hy hx h).1) hd
include hpl hor hst hok h512 in
theorem slot_rest {d : Nat} (hd : d < nt) (hno : ∀ x ∈ l, x.o.dst ≠ some d) : ∀ (q : Nat), q ≤ l.length → slot (st q).tm d = slot (st 0).tm d
  | 0, _ => rfl
  | k + 1, hk => by
    have hkl : k < l.length := by omega
    have hy := List.getElem?_eq_getElem hkl
    generalize l[k] = y at hy
    rw [(hst k y hy).tm, putx_ne (by omega) (fun j hj => Nat.lt_of_lt_of_le (dst_lt hpl hor hok hy hj) h512)]
    · exact slot_rest hd hno k (by omega)
    · exact hno y (List.mem_of_getElem? hy)

/-- In the middle of a region: Q of the run's operations are done, and others of L. -/
structure Inv (P : Program) (B : Base) (e0 : Env) (nt : Nat) (all l : List DO) (st : Nat → St) (vs : Nat → Value) (Q : Nat) (L : Nat → Prop) (e : Env) (t : Array Value) (w : World) : Prop where
  hQ : Q ≤ l.length
  phase : Phase l Q
  lo : ∀ (q : Nat) (x : DO), l[q]? = some x → q < Q → L x.i
  hi : ∀ (q : Nat) (x : DO), l[q]? = some x → Q ≤ q → L x.i → heavy x.o.op = false
  down : ∀ (k : Nat) (x : DO), all[k]? = some x → L k → ∀ j, x.m.testBit j = true → L j
  wr : WR P B e (st Q).n (st Q).hp w
  size : t.size = nt
  slots : ∀ (q : Nat) (x : DO) (d : Nat), l[q]? = some x → L x.i → x.o.dst = some d → RV e (st (q + 1)).n (vs q) (t.getD d undef)
  rest : ∀ d, d < nt → (∀ x ∈ l, x.o.dst ≠ some d) → RV e (st 0).n (slot (st 0).tm d) (t.getD d undef)
  blk : ∀ (q : Nat) (x : DO), l[q]? = some x → L x.i → Q ≤ q → NewAt st l q → ∃ ob o', (st (q + 1)).hp = (st q).hp.set (st q).n ob ∧ w.heap[e.β (st q).n]? = some o' ∧ RO P e (st (q + 1)).n (st q).n ob o' ∧ B.w.heap.size ≤ e.β (st q).n ∧ (∀ j, j < (st Q).n → e.β j ≠ e.β (st q).n) ∧ e.m.K (e.β (st q).n) = none
  apart : ∀ (q q' : Nat) (x x' : DO), l[q]? = some x → L x.i → Q ≤ q → NewAt st l q → l[q']? = some x' → L x'.i → Q ≤ q' → NewAt st l q' → q ≠ q' → e.β (st q).n ≠ e.β (st q').n
  ext : Ext e0 (st 0).n e (st 0).n

variable {B : Base} {e0 e : Env} {Q : Nat} {L : Nat → Prop} {t : Array Value} {w : World}

/-- A block that nothing done hangs on may lie elsewhere. -/
def Known (l : List DO) (st : Nat → St) (Q : Nat) (L : Nat → Prop) (j : Nat) : Prop := j < (st Q).n ∨ ∃ (q : Nat) (y : DO), l[q]? = some y ∧ L y.i ∧ NewAt st l q ∧ (st q).n = j

include hpl hor hst hs0 ha0 in
theorem num_known (hI : Inv P B e0 nt all l st vs Q L e t w) {q : Nat} {x : DO} (hx : l[q]? = some x) (hL : L x.i) (hq : Q ≤ q) {f : Hp → Bool} {np : Nat} (hs : snapGo f x.m (st q).snaps = some np) :
    np ≤ (st Q).n ∧ (∀ j, numOk np x.m (st q).als j = true → Known l st Q L j) ∧ (∀ j, numOk np x.m (st (q + 1)).als j = true → Known l st Q L j) := by
  have hql : q < l.length := (List.getElem?_eq_some_iff.1 hx).1
  have hall := (hor.at_ hpl hx).2.2
  have hnp : np ≤ (st Q).n := by
    refine ((snap_spec hpl hor hst hs0 f x.m np q (by omega) hs).2 Q hq hI.phase fun q' y hy hy' hh hb => ?_).2
    have hLy := hI.down _ x hall hL _ hb
    rcases Nat.lt_or_ge q' Q with h | h
    · exact h
    · have := hI.hi q' y hy h hLy
      rw [hh] at this; cases this
  have go : ∀ k, k ≤ l.length → ∀ j, numOk np x.m (st k).als j = true → Known l st Q L j := by
    intro k hk j hj
    unfold numOk at hj
    rw [cnd_ite] at hj
    split at hj
    · rename_i hlt
      exact .inl (Nat.lt_of_lt_of_le (blt_lt hlt) hnp)
    · obtain ⟨q', y, _, hy, hnew, hn, hb⟩ := als_spec hpl hor hst ha0 x.m j k hk hj
      exact .inr ⟨q', y, hy, hI.down _ x hall hL _ hb, hnew, hn⟩
  exact ⟨hnp, go q (by omega), go (q + 1) (by omega)⟩

include hpl hor hst hs0 ha0 in
/-- What is done stays what it is where blocks that it does not know lie elsewhere. -/
theorem val_re (hI : Inv P B e0 nt all l st vs Q L e t w) {e' : Env} (hem : e'.m = e.m) (he : ∀ j, Known l st Q L j → e'.β j = e.β j ∧ e'.tot j = e.tot j) {q : Nat} {x : DO} (hx : l[q]? = some x) (hL : L x.i) {v' : Value} (h : RV e (st (q + 1)).n (vs q) v') :
    RV e' (st (q + 1)).n (vs q) v' := by
  have hql : q < l.length := (List.getElem?_eq_some_iff.1 hx).1
  rcases Nat.lt_or_ge q Q with hq | hq
  · have hm : (st (q + 1)).n ≤ (st Q).n := n_mono hst (by omega) hI.hQ
    exact h.mono ⟨Nat.le_refl _, fun j hj => (he j (.inl (by omega))).1, fun j hj => (he j (.inl (by omega))).2, hem⟩
  · have hlight := hI.hi q x hx hq hL
    have nk : ∀ {f : Hp → Bool} {np : Nat}, snapGo f x.m (st q).snaps = some np → _ := fun hs => num_known hpl hor hst hs0 ha0 hI hx hL hq hs
    have hs := hst q x hx
    rcases hs.how with ⟨_, hv, _⟩ | ⟨_, hh, _⟩ | ⟨_, _, _, hl, h3, _, h5⟩ | ⟨_, _, _, hp0, ob, _, hl, _, h3, _, h5⟩
    · rw [hv] at h ⊢
      rw [h.plainI rfl]; exact .plain _ rfl
    · rw [hlight] at hh; cases hh
    · have hnum : ∃ np, np ≤ (st Q).n ∧ (∀ j, numOk np x.m (st q).als j = true → Known l st Q L j) ∧ nums (numOk np x.m (st q).als) 50 (vs q) = true := by
        unfold lightOk at hl
        split at hl
        · split at hl
          · rename_i np hs
            obtain ⟨h1, h2, _⟩ := nk hs
            rw [cnd_ite] at hl
            split at hl
            · exact ⟨np, h1, h2, hl⟩
            · cases hl
          · cases hl
        · split at hl
          · rename_i np hs
            obtain ⟨h1, h2, _⟩ := nk hs
            rw [cnd_ite] at hl
            split at hl
            · rename_i h6; exact ⟨np, h1, h2, h6⟩
            · cases hl
          · cases hl
      obtain ⟨np, _, h2, h6⟩ := hnum
      exact nums_re hem (fun j hj hjn => ⟨(he j (h2 j hj)).1, (he j (h2 j hj)).2, hjn⟩) 50 _ _ h6 h
    · have hnum : ∃ np, np ≤ (st Q).n ∧ (∀ j, numOk np x.m (st (q + 1)).als j = true → Known l st Q L j) ∧ nums (numOk np x.m (st (q + 1)).als) 50 (vs q) = true := by
        unfold lightOk at hl
        rw [← h5] at hl
        split at hl
        · split at hl
          · rename_i np hs
            obtain ⟨h1, _, h2⟩ := nk hs
            rw [cnd_ite] at hl
            split at hl
            · exact ⟨np, h1, h2, hl⟩
            · cases hl
          · cases hl
        · split at hl
          · rename_i np hs
            obtain ⟨h1, _, h2⟩ := nk hs
            rw [cnd_ite] at hl
            split at hl
            · rename_i h6; exact ⟨np, h1, h2, h6⟩
            · cases hl
          · cases hl
      obtain ⟨np, _, h2, h6⟩ := hnum
      exact nums_re hem (fun j hj hjn => ⟨(he j (h2 j hj)).1, (he j (h2 j hj)).2, hjn⟩) 50 _ _ h6 h

include hpl hor hst hs0 ha0 in
theorem obj_re (hI : Inv P B e0 nt all l st vs Q L e t w) {e' : Env} (hem : e'.m = e.m) (he : ∀ j, Known l st Q L j → e'.β j = e.β j ∧ e'.tot j = e.tot j) {q : Nat} {x : DO} (hx : l[q]? = some x) (hL : L x.i) (hq : Q ≤ q) (hnew : NewAt st l q) {ob : AObj} {o' : Obj}
    (hhp : (st (q + 1)).hp = (st q).hp.set (st q).n ob) (h : RO P e (st (q + 1)).n (st q).n ob o') : RO P e' (st (q + 1)).n (st q).n ob o' := by
  have hql : q < l.length := (List.getElem?_eq_some_iff.1 hx).1
  have hlight := hI.hi q x hx hq hL
  have nk : ∀ {f : Hp → Bool} {np : Nat}, snapGo f x.m (st q).snaps = some np → _ := fun hs => num_known hpl hor hst hs0 ha0 hI hx hL hq hs
  have hs := hst q x hx
  obtain ⟨_, hx', _, hn1⟩ := hnew
  rcases hs.how with ⟨_, _, h3, _⟩ | ⟨_, hh, _⟩ | ⟨_, _, _, _, h3, _⟩ | ⟨_, _, hno, hp0, ob2, _, hl, hlt, h3, h4, h5⟩
  · omega
  · rw [hlight] at hh; cases hh
  · omega
  · have hob : ob = ob2 := by
      have := congrArg (·.get (st q).n) (hhp.symm.trans h4)
      simp only [hp_set_same _ _ (Nat.lt_succ_of_lt hlt)] at this
      exact this
    subst hob
    have hrd : readsOp x.o.op = false := by
      revert hno; cases x.o.op <;> intro hno <;> first | rfl | cases hno
    unfold lightOk at hl
    rw [← h5, hrd] at hl
    simp only at hl
    split at hl
    · rename_i np hs
      obtain ⟨_, _, h2⟩ := nk hs
      rw [cnd_ite] at hl
      split at hl
      · cases ob with
        | cells l1 ty g =>
          simp only [cnd_ite] at hl
          cases g with
          | true => cases hl
          | false =>
            cases h with
            | cells _ l' _ hr =>
            exact .cells _ _ _ (numsL_re (nums_re hem (fun j hj hjn => ⟨(he j (h2 j hj)).1, (he j (h2 j hj)).2, hjn⟩) 50) hl hr)
        | map es c =>
          obtain ⟨h6, _⟩ := and_split hl
          cases h with
          | map _ l' _ hr =>
          cases es with
          | nil => cases hr; exact .map _ _ _ .nil
          | cons => cases h6
        | _ => cases hl
      · cases hl
    · cases hl

include hpl hor hst hok h512 in
/-- What a slot holds that is looked at. -/
theorem look (hI : Inv P B e0 nt all l st vs Q L e t w) {q : Nat} {x : DO} (hx : l[q]? = some x) (hm : ∀ j, x.m.testBit j = true → j = x.i ∨ L j) {d : Nat} (hd : d < nt) (hl : looksT ops.toList x.o d = true) :
    RV e (st q).n (slot (st q).tm d) (t.getD d undef) := by
  have hql : q < l.length := (List.getElem?_eq_some_iff.1 hx).1
  by_cases h : ∃ a ∈ l, a.o.dst = some d
  · obtain ⟨a, ha, had⟩ := h
    obtain ⟨q', ha⟩ := List.mem_iff_getElem?.1 ha
    obtain ⟨h1, h2⟩ := pair_look hpl hor hx ha had hl
    have hLa : L a.i := by
      rcases hm _ h2 with h | h
      · exact absurd h.symm h1
      · exact h
    have hq' : q' < q := by
      rcases hor.any q x hx _ h2 with h | ⟨q2, hq2, y, hy, hyi⟩
      · exact absurd h.symm h1
      · rw [(hor.inj hpl ha hy hyi.symm).1]; exact hq2
    rw [slot_done hpl hor hst hok h512 ha had q hq' (by omega)]
    exact (hI.slots q' a d ha hLa had).mono ⟨n_mono hst hq' (by omega), fun _ _ => rfl, fun _ _ => rfl, rfl⟩
  · have h : ∀ x ∈ l, x.o.dst ≠ some d := fun a ha had => h ⟨a, ha, had⟩
    rw [slot_rest hpl hor hst hok h512 hd h q (by omega)]
    exact (hI.rest d hd h).mono ⟨n_mono hst (Nat.zero_le _) (by omega), fun _ _ => rfl, fun _ _ => rfl, rfl⟩

include hpl hor hst hok h512 in
theorem look_opds (hI : Inv P B e0 nt all l st vs Q L e t w) {q : Nat} {x : DO} (hx : l[q]? = some x) (hm : ∀ j, x.m.testBit j = true → j = x.i ∨ L j) : ∀ y ∈ x.o.op.operands.toList, RV e (st q).n (ev (st q).tm y) (evx t.toList y) := by
  intro y hy
  have hyo := opdsOk_mem (opds_ok hpl hor hok hx) y hy
  have e1 : evx t.toList = (⟨t, []⟩ : Act).eval := by
    have := eval_evx t.toList
    simpa using this.symm
  rw [e1]
  cases y with
  | tmp u =>
    have hu : u < nt := blt_lt hyo
    have := look hpl hor hst hok h512 hI hx hm hu (by
      unfold looksT
      rw [cnd_ite, if_pos (opdHas_mem hy)])
    simpa [ev, Act.eval] using this
  | const v => simpa [ev, Act.eval] using RV.plain v hyo
  | global g => simp [opdOk] at hyo
  | func f => simpa [ev, Act.eval] using RV.func f #[] #[] #[] #[] .nil .nil

include hpl hor hst hok h512 in
theorem look_wanted (hI : Inv P B e0 nt all l st vs Q L e t w) {q : Nat} {x : DO} (hx : l[q]? = some x) (hm : ∀ j, x.m.testBit j = true → j = x.i ∨ L j) (hfk : ∀ c b, decH (st q).hp c = some b → den e.m c = some (.bool b)) {b : Bool} (hwa : wantedA ops.toList (st q).tm (st q).hp x.o = some b) : Region.wanted x.o (yielded ops t) = b := by
  have hlk := fun d hd hl => look hpl hor hst hok h512 hI hx hm (d := d) hd hl
  have hsz := hI.size
  unfold Region.wanted
  unfold wantedA at hwa
  cases hg : x.o.guard with
  | none => rw [hg] at hwa; cases hwa; rfl
  | some jw =>
    obtain ⟨j, want⟩ := jw
    rw [hg] at hwa
    simp only [yielded]
    have e1 : ops.toList[j]? = ops[j]? := by simp
    simp only [e1] at hwa
    cases hj : ops[j]? with
    | none => rw [hj] at hwa; cases hwa; rfl
    | some y =>
      rw [hj] at hwa
      simp only [Option.bind_some] at hwa ⊢
      cases hd : y.dst with
      | none => rw [hd] at hwa; cases hwa; rfl
      | some d =>
        rw [hd] at hwa
        simp only at hwa
        have hmy : y ∈ ops.toList := List.mem_of_getElem? (e1.trans hj)
        have := (opsOk_mem hok y hmy).1
        rw [hd] at this
        have hdn := blt_lt this
        have hlt : d < t.size := by rw [hsz]; exact hdn
        have hr := hlk d hdn (by
          unfold looksT
          rw [cnd_ite]
          split
          · rfl
          · rw [hg]
            unfold guardHas
            simp only [e1, hj, hd]
            exact Nat.beq_refl _)
        simp only [Option.bind_some]
        rw [Array.getElem?_eq_getElem hlt]
        have e2 : t.getD d undef = t[d] := by simp [Array.getD, hlt]
        rw [e2] at hr
        have := wanted_slot rfl hfk hr hwa
        revert this
        clear hr e2
        generalize t[d] = u
        intro this
        cases u <;> exact this
end
end Go.Gz
