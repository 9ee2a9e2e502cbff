/- The evaluator that the kernel runs: regions that draw, part 5: the steps. -/
import Derived.Test.YtekdgkhelhcmbaaGreatGzW
namespace Go.Gz
open Go Go.Gx Go.RowKit

theorem Env.add_self (e : Env) (n : Nat) : e.add n (e.β n) (e.tot n) = e := by
  obtain ⟨b, t, m⟩ := e
  unfold Env.add
  congr 1
  · funext j; by_cases h : j = n <;> simp [h]
  · funext j; by_cases h : j = n <;> simp [h]

/-- Another block, that nobody knows. -/
theorem WR.push {P : Program} {B : Base} {e : Env} {n : Nat} {hp : Hp} {w : World} (h : WR P B e n hp w) (o : Obj) : WR P B e n hp { w with heap := w.heap.push o } := by
  have hg : ∀ {r : Nat} {q : Obj}, w.heap[r]? = some q → (w.heap.push o)[r]? = some q := by
    intro r q hq
    have hr := (Array.getElem?_eq_some_iff.1 hq).1
    rw [Array.getElem?_push_lt hr]; rw [← hq, Array.getElem?_eq_getElem hr]
  refine ⟨h.os, h.tape, h.output, ?_, h.n0, h.nmax, h.agree, h.fresh, ?_, ?_, h.inj, ?_, h.fk, fun r o hr => hg (h.kp r o hr), h.kn⟩
  · have := h.size
    show _ ≤ (w.heap.push o).size
    simp; omega
  · intro r hr hno
    have hs := h.size
    have hr2 : r < w.heap.size := by omega
    show (w.heap.push o)[r]? = _
    rw [Array.getElem?_push_lt hr2, ← h.old r hr hno, Array.getElem?_eq_getElem hr2]
  · intro j hj hl
    obtain ⟨q, h1, h2⟩ := h.obj j hj hl
    exact ⟨q, hg h1, h2⟩
  · intro hl j hj
    have := h.lt' hl j hj
    show _ < (w.heap.push o).size
    simp; omega

section
variable {P : Program} {sm : Sm} {rec : S → Ans} {kb : AObj} {ops : Array Oper} {all l : List DO} (hpl : Plan ops all) (hor : Order ops all l) {st : Nat → St} {vs : Nat → Value} (hst : ∀ (q : Nat) (y : DO), l[q]? = some y → StepOk P sm rec kb ops.toList y (st q) (vs q) (st (q + 1)))
  {nt : Nat} (hok : opsOk nt ops.toList = true) (h512 : nt ≤ 512) (hn0 : (st 0).n ≤ 32767) (hs0 : (st 0).snaps = [⟨0, (st 0).n, (st 0).hp⟩]) (ha0 : (st 0).als = []) (hk0 : (st 0).hp.get 32767 = kb)
  {B : Base} {e0 e : Env} {Q : Nat} {L : Nat → Prop} {t : Array Value} {w : World}

include hst in
/-- What is done of it up to here: as the run had it. -/
theorem merge (hI : Inv P B e0 nt all l st vs Q L e t w) : ∀ (q : Nat), Q ≤ q → q ≤ l.length → (∀ (q' : Nat) (x : DO), l[q']? = some x → q' < q → L x.i) →
    WR P B e (st q).n (st q).hp w ∧ ∀ (q' : Nat) (x : DO), l[q']? = some x → L x.i → q ≤ q' → NewAt st l q' → ∀ j, j < (st q).n → e.β j ≠ e.β (st q').n := by
  intro q
  induction q with
  | zero =>
    intro h1 _ _
    have : Q = 0 := by omega
    subst this
    exact ⟨hI.wr, fun q' x hx hL hq hn j hj => (hI.blk q' x hx hL hq hn).choose_spec.choose_spec.2.2.2.2.1 j hj⟩
  | succ k ih =>
    intro h1 h2 h3
    by_cases hQ : Q = k + 1
    · subst hQ
      exact ⟨hI.wr, fun q' x hx hL hq hn j hj => (hI.blk q' x hx hL hq hn).choose_spec.choose_spec.2.2.2.2.1 j hj⟩
    · obtain ⟨ih1, ih2⟩ := ih (by omega) (by omega) fun q' x hx hq => h3 q' x hx (by omega)
      have hkl : k < l.length := by omega
      have hx := List.getElem?_eq_getElem hkl
      generalize l[k] = x at hx
      have hL := h3 k x hx (by omega)
      have hlight := hI.hi k x hx (by omega) hL
      have hs := hst k x hx
      have same : (st (k + 1)).n = (st k).n → (st (k + 1)).hp = (st k).hp → WR P B e (st (k + 1)).n (st (k + 1)).hp w ∧ ∀ (q' : Nat) (x : DO), l[q']? = some x → L x.i → k + 1 ≤ q' → NewAt st l q' → ∀ j, j < (st (k + 1)).n → e.β j ≠ e.β (st q').n := by
        intro g1 g2
        rw [g1, g2]
        exact ⟨ih1, fun q' y hy hLy hq hn j hj => ih2 q' y hy hLy (by omega) hn j hj⟩
      rcases hs.how with ⟨_, _, g1, g2, _⟩ | ⟨_, hh, _⟩ | ⟨_, _, _, _, g1, g2, _⟩ | ⟨_, _, _, hp0, ob, _, _, g0, g1, g2, _⟩
      · exact same g1 g2
      · rw [hlight] at hh; cases hh
      · exact same g1 g2
      · have hnew : NewAt st l k := ⟨x, hx, hlight, g1⟩
        obtain ⟨ob2, o', b1, b2, b3, b4, _, b6⟩ := hI.blk k x hx hL (by omega) hnew
        have hob : ob = ob2 := by
          have := congrArg (·.get (st k).n) (g2.symm.trans b1)
          simp only [hp_set_same _ _ (Nat.lt_succ_of_lt g0)] at this
          exact this
        subst hob
        constructor
        · have := ih1.add (o := ob) (o' := o') (r := e.β (st k).n) (t := e.tot (st k).n) (w2 := w) g0 rfl rfl rfl (Nat.le_refl _) b2 (fun _ _ _ => rfl) (fun j hj _ => ih2 k x hx hL (Nat.le_refl _) hnew j hj) (.inl b4) (fun _ _ _ => rfl) b6 ih1.kp (by rw [Env.add_self, ← g1]; exact b3)
          rw [Env.add_self] at this
          rw [g1, g2]; exact this
        · intro q' y hy hLy hq hn j hj
          rcases Nat.lt_or_ge j (st k).n with hj2 | hj2
          · exact ih2 q' y hy hLy (by omega) hn j hj2
          · have : j = (st k).n := by omega
            rw [this]
            exact hI.apart k q' x y hx hL (by omega) hnew hy hLy (by omega) hn (by omega)

variable {fn : FuncId} {k : List Item} {ds : List Deferred} {kd : CallKind} {r : Option Nat} {cs : List Frame} {rest : List Nat}

/-- What is put. -/
theorem putT_ne {t : Array Value} {o : Option Tmp} {v : Value} {d : Nat} (h : o ≠ some d) : (putT t o v).getD d undef = t.getD d undef := by
  cases o with
  | none => rfl
  | some j =>
    have : j ≠ d := by rintro rfl; exact h rfl
    simp [putT, Array.getElem?_setIfInBounds_ne this]
theorem putT_same {t : Array Value} {v : Value} {d : Nat} (h : d < t.size) : (putT t (some d) v).getD d undef = v := by
  simp [putT, h]
theorem putT_size {t : Array Value} {o : Option Tmp} {v : Value} : (putT t o v).size = t.size := by
  cases o <;> simp [putT]

include hpl hor hok in
theorem slots_put (hI : Inv P B e0 nt all l st vs Q L e t w) {q : Nat} {x : DO} (hx : l[q]? = some x) (hLn : ¬ L x.i) {e' : Env} {v' : Value} (hv : RV e' (st (q + 1)).n (vs q) v')
    (hre : ∀ (q' : Nat) (y : DO) (u : Value), l[q']? = some y → L y.i → RV e (st (q' + 1)).n (vs q') u → RV e' (st (q' + 1)).n (vs q') u) :
    ∀ (q' : Nat) (y : DO) (d : Nat), l[q']? = some y → (L y.i ∨ y.i = x.i) → y.o.dst = some d → RV e' (st (q' + 1)).n (vs q') ((putT t x.o.dst v').getD d undef) := by
  intro q' y d hy hL hd
  rcases hL with hL | hL
  · have hne : y.i ≠ x.i := fun h => hLn (h ▸ hL)
    rw [putT_ne]
    · exact hre q' y _ hy hL (hI.slots q' y d hy hL hd)
    · exact pair_dst hor (List.mem_of_getElem? hx) (List.mem_of_getElem? hy) (Ne.symm hne) hd
  · obtain ⟨h1, h2⟩ := hor.inj hpl hy hx hL
    subst h1 h2
    rw [hd, putT_same (by rw [hI.size]; exact dst_lt hpl hor hok hx hd)]
    exact hv

theorem rest_put (hI : Inv P B e0 nt all l st vs Q L e t w) {q : Nat} {x : DO} (hx : l[q]? = some x) {e' : Env} {v' : Value} (hem : e'.m = e.m) (hex : ∀ j, j < (st 0).n → e'.β j = e.β j ∧ e'.tot j = e.tot j) :
    ∀ d, d < nt → (∀ x ∈ l, x.o.dst ≠ some d) → RV e' (st 0).n (slot (st 0).tm d) ((putT t x.o.dst v').getD d undef) := by
  intro d hd hno
  rw [putT_ne (hno x (List.mem_of_getElem? hx))]
  exact (hI.rest d hd hno).mono ⟨Nat.le_refl _, fun j hj => (hex j hj).1, fun j hj => (hex j hj).2, hem⟩

include hpl hor in
theorem down_put (hI : Inv P B e0 nt all l st vs Q L e t w) {q : Nat} {x : DO} (hx : l[q]? = some x) (hm : ∀ j, x.m.testBit j = true → j = x.i ∨ L j) :
    ∀ (k : Nat) (y : DO), all[k]? = some y → (L k ∨ k = x.i) → ∀ j, y.m.testBit j = true → (L j ∨ j = x.i) := by
  intro k y hy hk j hj
  rcases hk with hk | rfl
  · exact .inl (hI.down k y hy hk j hj)
  · have := (hor.at_ hpl hx).2.2
    rw [hy] at this; cases this
    exact (hm j hj).symm

variable (hP : Small P)
include hpl hor hst hok h512 hn0 hs0 ha0 hk0 hP
/-- What writes nothing, at any time. -/
theorem light_step (hl : B.lt = true) (hI : Inv P B e0 nt all l st vs Q L e t w) {q : Nat} {x : DO} (hx : l[q]? = some x) (hLn : ¬ L x.i) (hm : ∀ j, x.m.testBit j = true → j = x.i ∨ L j) (hh : heavy x.o.op = false) :
    ∃ e' w' t', step P (lone ⟨fn, t, .inRegion ops (x.i :: rest) :: k, ds, .run, kd, r⟩ cs w) = .next (lone ⟨fn, t', .inRegion ops rest :: k, ds, .run, kd, r⟩ cs w') ∧
      Inv P B e0 nt all l st vs Q (fun j => L j ∨ j = x.i) e' t' w' := by
  have hat := hor.at_ hpl hx
  have hql : q < l.length := (List.getElem?_eq_some_iff.1 hx).1
  have hQq : Q ≤ q := by
    rcases Nat.lt_or_ge q Q with h | h
    · exact absurd (hI.lo q x hx h) hLn
    · exact h
  have hfk : ∀ c b, decH (st q).hp c = some b → den e.m c = some (.bool b) := fun c b hc => hI.wr.fk c b (by rwa [dec_kb ((kb_at hst hn0 hk0 (q := q) (by omega)).trans (kb_at hst hn0 hk0 (q := Q) (by omega)).symm)] at hc)
  have hopd := look_opds hpl hor hst hok h512 hI hx hm
  have e1 : evx t.toList = (⟨t, []⟩ : Act).eval := by
    have := eval_evx t.toList
    simpa using this.symm
  have hs := hst q x hx
  have hnd : r = none ∨ ∀ c, x.o.op ≠ .defer c := .inr fun c hc => by rw [hc] at hh; cases hh
  -- nothing new
  have still : ∀ v', RV e (st (q + 1)).n (vs q) v' → (st (q + 1)).n = (st q).n →
      Inv P B e0 nt all l st vs Q (fun j => L j ∨ j = x.i) e (putT t x.o.dst v') w := by
    intro v' hv hn
    have notnew : ¬ NewAt st l q := fun ⟨_, _, _, h⟩ => by omega
    have back : ∀ (q' : Nat) (y : DO), l[q']? = some y → (L y.i ∨ y.i = x.i) → NewAt st l q' → L y.i := by
      intro q' y hy hL hnw
      rcases hL with hL | hL
      · exact hL
      · rw [(hor.inj hpl hy hx hL).1] at hnw; exact absurd hnw notnew
    refine ⟨hI.hQ, hI.phase, fun q' y hy hq => .inl (hI.lo q' y hy hq), ?_, down_put hpl hor hI hx hm, hI.wr, by rw [putT_size]; exact hI.size, slots_put hpl hor hok hI hx hLn hv (fun _ _ _ _ _ h => h), rest_put hI hx rfl (fun _ _ => ⟨rfl, rfl⟩), ?_, ?_, hI.ext⟩
    · intro q' y hy hq hL
      rcases hL with hL | hL
      · exact hI.hi q' y hy hq hL
      · rw [(hor.inj hpl hy hx hL).2]; exact hh
    · intro q' y hy hL hq hnw
      exact hI.blk q' y hy (back q' y hy hL hnw) hq hnw
    · intro q1 q2 y1 y2 h1 h2 h3 h4 h5 h6 h7 h8 h9
      exact hI.apart q1 q2 y1 y2 h1 (back _ _ h1 h2 h4) h3 h4 h5 (back _ _ h5 h6 h8) h7 h8 h9
  rcases hs.how with ⟨hw, hv, g1, g2, _⟩ | ⟨_, hh2, _⟩ | ⟨hw, _, hv, hlo, g1, g2, _⟩ | ⟨hw, _, hnw, hp0, ob, hv, hlo, g0, g1, g2, _⟩
  · have hwt := look_wanted hpl hor hst hok h512 hI hx hm hfk hw
    exact ⟨e, w, _, step_skip' hat.1 hwt, still undef (by rw [hv]; exact .plain _ rfl) g1⟩
  · rw [hh] at hh2; cases hh2
  · have hwt := look_wanted hpl hor hst hok h512 hI hx hm hfk hw
    have fin : ∃ v', (execOp (evx t.toList) x.o).run P w = .ok (.value v') w ∧ RV e (st (q + 1)).n (vs q) v' := by
      cases hrd : readsOp x.o.op with
      | false =>
        obtain ⟨v', h1, h2⟩ := pure_sound hP (n_max hst hn0 (q := q) (by omega)) hfk hI.wr.kp hh hrd hv hopd (w := w)
        exact ⟨v', h1, by rw [g1]; exact h2⟩
      | true =>
        unfold lightOk at hlo
        rw [hrd] at hlo
        simp only at hlo
        split at hlo
        · rename_i np hs2
          rw [cnd_ite] at hlo
          split at hlo
          · rename_i hnums
            have hsp := (snap_spec hpl hor hst hs0 _ x.m np q (by omega) hs2).2 Q hQq hI.phase fun q' y hy hq' hhy hb => by
              have hLy : L y.i := by
                rcases hm _ hb with h | h
                · rw [(hor.inj hpl hy hx h).2] at hhy; rw [hh] at hhy; cases hhy
                · exact h
              rcases Nat.lt_or_ge q' Q with h | h
              · exact h
              · have := hI.hi q' y hy h hLy
                rw [hhy] at this; cases this
            obtain ⟨hsv, hnp⟩ := hsp
            have hsv := sameVal_eq hsv
            have hopd2 : ∀ y ∈ x.o.op.operands.toList, RV e (st Q).n (ev (st q).tm y) (evx t.toList y) := by
              intro y hy
              have hmem : ev (st q).tm y ∈ evs (st q).tm x.o.op.operands.toList := by
                have : ∀ (l : List Operand), y ∈ l → ev (st q).tm y ∈ evs (st q).tm l := by
                  intro l
                  induction l with
                  | nil => intro h; simp at h
                  | cons z l ih =>
                    intro h
                    rcases List.mem_cons.1 h with rfl | h
                    · exact List.mem_cons_self
                    · exact List.mem_cons_of_mem _ (ih h)
                exact this _ hy
              exact nums_re rfl (fun j hj _ => ⟨rfl, rfl, Nat.lt_of_lt_of_le (blt_lt hj) hnp⟩) 50 _ _ (allB_all hnums _ hmem) (hopd y hy)
            have := aop_sound hP (tm := (st q).tm) (fr := t.toList) (o := x.o) hI.wr hopd2
            have hrn : ∀ n1 n2 hp1, (aopW x.o.op).f P (st q).tm n1 hp1 = .val (vs q) → (aopW x.o.op).f P (st q).tm n2 hp1 = .val (vs q) := by
              intro n1 n2 hp1 h
              revert hrd h
              cases x.o.op with
              | call c =>
                obtain ⟨callee, xs, ts⟩ := c
                cases callee with
                | builtin b => cases b <;> intro hrd h <;> first | (cases hrd; done) | exact h
                | _ => intro hrd; cases hrd
              | _ => intro hrd h <;> first | (cases hrd; done) | exact h
            rw [hrn _ _ _ hsv] at this
            obtain ⟨v', h1, h2⟩ := this
            exact ⟨v', h1, h2.mono ⟨n_mono hst (by omega) (by omega), fun _ _ => rfl, fun _ _ => rfl, rfl⟩⟩
          · cases hlo
        · cases hlo
    obtain ⟨v', h1, h2⟩ := fin
    rw [e1] at h1
    exact ⟨e, w, _, op_value hat.1 hwt hnd (.inl h1), still v' h2 g1⟩
  · have hwt := look_wanted hpl hor hst hok h512 hI hx hm hfk hw
    have := new_sound hP (tm := (st q).tm) (hp := (st q).hp) (fr := t.toList) (o := x.o) (e := e) (n := (st q).n) (w := w) hnw hopd
    rw [hv] at this
    obtain ⟨v', o', h1, h2, h3⟩ := this
    rw [e1] at h1
    have hnew : NewAt st l q := ⟨x, hx, hh, g1⟩
    -- the block has another name than those known
    have hkn : ∀ j, Known l st Q L j → j ≠ (st q).n := by
      rintro j (hj | ⟨q', y, hy, hL, hn, rfl⟩) he
      · have := n_mono hst hQq (by omega)
        omega
      · have := new_inj hst hn hnew he
        rw [this, hx] at hy; cases hy
        exact hLn hL
    have hsame : ∀ j, j ≠ (st q).n → (e.add (st q).n w.heap.size 0).β j = e.β j ∧ (e.add (st q).n w.heap.size 0).tot j = e.tot j := by
      intro j hj; simp [Env.add, hj]
    have hre : ∀ j, Known l st Q L j → (e.add (st q).n w.heap.size 0).β j = e.β j ∧ (e.add (st q).n w.heap.size 0).tot j = e.tot j := fun j hj => hsame j (hkn j hj)
    have hget : ∀ {r : Nat} {q : Obj}, w.heap[r]? = some q → (w.heap.push o')[r]? = some q := by
      intro r q hq
      have hr := (Array.getElem?_eq_some_iff.1 hq).1
      rw [Array.getElem?_push_lt hr]; rw [← hq, Array.getElem?_eq_getElem hr]
    have hlow : (st Q).n ≤ (st q).n := n_mono hst hQq (by omega)
    refine ⟨e.add (st q).n w.heap.size 0, { w with heap := w.heap.push o' }, _, op_value hat.1 hwt hnd (.inl h1), ?_⟩
    refine ⟨hI.hQ, hI.phase, fun q' y hy hq => .inl (hI.lo q' y hy hq), ?_, down_put hpl hor hI hx hm, ?_, by rw [putT_size]; exact hI.size, slots_put hpl hor hok hI hx hLn (by rw [g1]; exact h2) (fun q' y u hy hL h => val_re hpl hor hst hs0 ha0 hI (e' := e.add (st q).n w.heap.size 0) rfl hre hy hL h), rest_put hI hx (e' := e.add (st q).n w.heap.size 0) rfl (fun j hj => hsame j (by have := n_mono hst (Nat.zero_le q) (by omega); omega)), ?_, ?_, ?_⟩
    · intro q' y hy hq hL
      rcases hL with hL | hL
      · exact hI.hi q' y hy hq hL
      · rw [(hor.inj hpl hy hx hL).2]; exact hh
    · exact (hI.wr.env (fun j hj => hsame j (by omega)) rfl).push o'
    · intro q' y hy hL hq hn
      rcases hL with hL | hL
      · obtain ⟨ob2, o2, b1, b2, b3, b4, b5, b6⟩ := hI.blk q' y hy hL hq hn
        have hne : (st q').n ≠ (st q).n := fun he => hkn _ (.inr ⟨q', y, hy, hL, hn, rfl⟩) he
        rw [(hsame _ hne).1]
        refine ⟨ob2, o2, b1, hget b2, obj_re hpl hor hst hs0 ha0 hI (e' := e.add (st q).n w.heap.size 0) rfl hre hy hL hq hn b1 b3, b4, fun j hj => ?_, b6⟩
        rw [(hsame j (by omega)).1]; exact b5 j hj
      · obtain ⟨h6, h7⟩ := hor.inj hpl hy hx hL
        subst h6 h7
        refine ⟨ob, o', g2, ?_, by rw [g1]; exact h3, ?_, fun j hj => ?_, by rw [Env.add_β]; exact hI.wr.noK (Nat.le_refl _)⟩
        · rw [Env.add_β]
          show (w.heap.push o')[w.heap.size]? = _
          simp
        · rw [Env.add_β]; exact hI.wr.size
        · rw [Env.add_β, (hsame j (by omega)).1]
          have := hI.wr.lt' hl j hj
          omega
    · have key : ∀ (q1 : Nat) (y1 : DO), l[q1]? = some y1 → L y1.i → Q ≤ q1 → NewAt st l q1 → e.β (st q1).n ≠ w.heap.size ∧ (st q1).n ≠ (st q).n := by
        intro q1 y1 hy1 hL1 hq1 hn1
        obtain ⟨ob2, o2, b1, b2, _⟩ := hI.blk q1 y1 hy1 hL1 hq1 hn1
        have := (Array.getElem?_eq_some_iff.1 b2).1
        exact ⟨by omega, fun he => hkn _ (.inr ⟨q1, y1, hy1, hL1, hn1, rfl⟩) he⟩
      intro q1 q2 y1 y2 h1 h2 h3 h4 h5 h6 h7 h8 h9
      rcases h2 with h2 | h2
      · obtain ⟨k1, k2⟩ := key q1 y1 h1 h2 h3 h4
        rw [(hsame _ k2).1]
        rcases h6 with h6 | h6
        · obtain ⟨k3, k4⟩ := key q2 y2 h5 h6 h7 h8
          rw [(hsame _ k4).1]
          exact hI.apart q1 q2 y1 y2 h1 h2 h3 h4 h5 h6 h7 h8 h9
        · rw [(hor.inj hpl h5 hx h6).1, Env.add_β]
          exact k1
      · have e6 := (hor.inj hpl h1 hx h2).1
        rcases h6 with h6 | h6
        · obtain ⟨k3, k4⟩ := key q2 y2 h5 h6 h7 h8
          rw [(hsame _ k4).1, e6, Env.add_β]
          exact k3.symm
        · exact absurd (e6.trans (hor.inj hpl h5 hx h6).1.symm) h9
    · exact hI.ext.trans ⟨Nat.le_refl _, fun j hj => (hsame j (by have := n_mono hst (Nat.zero_le q) (by omega); omega)).1, fun j hj => (hsame j (by have := n_mono hst (Nat.zero_le q) (by omega); omega)).2, rfl⟩
end
end Go.Gz
