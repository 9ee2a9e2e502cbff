/- The symbolic evaluator that contracts stand on: soundness, rules. -/
import Derived.Test.YteglommbdpaokaaGreatGxC
import Derived.Deep.Quiet
import Derived.StillTail
set_option linter.unusedSimpArgs false
set_option linter.unusedVariables false
namespace Go.Gx
open Go.RowKit
theorem Agree.refl (n : Nat) (β : Nat → Nat) : Agree n β β := fun _ _ => rfl
theorem Agree.trans {n m : Nat} {a b c : Nat → Nat} (h : Agree n a b) (k : Agree m b c) (hn : n ≤ m) : Agree n a c := fun i hi => (k i (by omega)).trans (h i hi)
theorem extend {β : Nat → Nat} (hβ : Inj β) (n b : Nat) (hb : ∀ i, i < n → β i ≠ b) : ∃ β', Inj β' ∧ Agree n β β' ∧ β' n = b := by
 have hmax : ∃ M, ∀ i, i ≤ n → β i ≤ M := by
  clear hb
  induction n with
  | zero => exact ⟨β 0, fun i hi => by rw [show i = 0 by omega]; exact Nat.le_refl _⟩
  | succ n ih =>
    obtain ⟨M, hM⟩ := ih
    refine ⟨max M (β (n + 1)), fun i hi => ?_⟩
    by_cases h : i = n + 1
    ·subst h; omega
    ·have := hM i (by omega); omega
 obtain ⟨M, hM⟩ := hmax
 refine ⟨fun i => if i < n then β i else if i = n then b else M + b + 1 + i, ?_, fun i hi => by simp [hi], by simp⟩
 intro i j hij
 simp only at hij
 by_cases hi : i < n <;> by_cases hj : j < n <;> simp only [hi, hj, if_true, if_false] at hij
 ·exact hβ _ _ hij
 ·split at hij
  ·exact absurd hij (hb i hi)
  ·have := hM i (by omega); omega
 ·split at hij
  ·exact absurd hij.symm (hb j hj)
  ·have := hM j (by omega); omega
 ·split at hij <;> split at hij <;> omega
def Then (C : Cx) (n : Nat) (β0 : Nat → Nat) (fr : List Value) (d : Option Tmp) (K : Value → List HE → (Nat → Nat) → Prop) (a : Act) (w : World) : Prop :=
 ∃ v hp' β1, a = ⟨(put fr d v).toArray, []⟩ ∧ HOk C.w0 β1 hp' w ∧ Inj β1 ∧ Agree n β0 β1 ∧ ∀ β, Inj β → Agree hp'.length β1 β → K v hp' β
theorem inx_not {P : Program} {n : Int} {k : TK} {x : Value} : (∀ g args, inxK P n k x ≠ .call g args) ∧ ∀ φ v hp, inxK P n k x ≠ .mem φ v hp := by
 constructor <;> intros <;> intro h <;> (cases k <;> simp only [inxK] at h) <;> first | (cases h; done) | (unfold inxA at h; repeat' (first | (cases h; done) | split at h)) | (unfold inxS at h; repeat' (first | (cases h; done) | split at h))
theorem bin_not {P : Program} {op : BinOp} {t : TypeId} {a b : Value} : (∀ f args, bin P op t a b ≠ .call f args) ∧ ∀ φ v hp, bin P op t a b ≠ .mem φ v hp := by
 constructor <;> intros <;> unfold bin <;> split <;> (try split) <;> simp
theorem opx_call_inv {P : Program} {β : Nat → Nat} {op : Op} {fr : List Value} {hp : List HE} {g : FuncId} {args : List Value} (h : opx P β op fr hp = .call g args) :
  ∃ f xs ts a b, op = .call { callee := .value f, args := xs, argTypes := ts } ∧ evx fr f = .func (.func g) a b ∧ args = a.toList ++ xs.toList.map (evx fr) ++ b.toList := by
 cases op with
 | call c =>
   obtain ⟨callee, xs, ts⟩ := c
   cases callee with
   | value f =>
     simp only [opx] at h
     split at h <;> simp at h
     rename_i g' a b hf
     obtain ⟨rfl, rfl⟩ := h
     exact ⟨f, xs, ts, a, b, rfl, hf, by simp⟩
   | invoke r m => simp [opx] at h
   | builtin b =>
     cases b <;> simp only [opx] at h <;> try (cases h; done)
     split at h <;> try (cases h; done)
     all_goals (split at h <;> cases h)
 | binOp op t x y t' => simp only [opx] at h; exact absurd h (bin_not.1 _ _)
 | index t x i => simp only [opx] at h; repeat' (first | (cases h; done) | exact absurd h (inx_not.1 _ _) | split at h)
 | load t a => simp only [opx] at h; repeat' (first | (cases h; done) | split at h)
 | store t a x => simp only [opx] at h; repeat' (first | (cases h; done) | split at h)
 | _ => simp only [opx] at h; repeat' (first | (cases h; done) | split at h)
theorem opx_mem_inv {P : Program} {β : Nat → Nat} {op : Op} {fr : List Value} {hp hp' : List HE} {φ : Prop} {v : Value} (hm : makes op = false) (h : opx P β op fr hp = .mem φ v hp') :
  ∃ t a x b off k l ty ti, op = .store t a x ∧ evx fr a = .pointer (some ⟨b, off, none⟩) ∧ lk β b hp = some (.c k l ty) ∧ tiof P t = some ti ∧
    φ = ((k = 1 ∨ k = 2) ∧ (evx fr x).cells.size = ti.sz ∧ (evx fr x).cells.toList.all one = true ∧ off + ti.sz ≤ l.length) ∧ v = undef ∧
    hp' = hp.set (ix β b) (.c k (splice l off (evx fr x).cells.toList) ty) := by
 cases op with
 | call c =>
   obtain ⟨callee, xs, ts⟩ := c
   cases callee with
   | value f => simp only [opx] at h; split at h <;> cases h
   | invoke r m => simp [opx] at h
   | builtin b =>
     cases b <;> simp only [opx] at h <;> try (cases h; done)
     split at h <;> try (cases h; done)
     all_goals (split at h <;> cases h)
 | binOp op t x y t' => simp only [opx] at h; exact absurd h (bin_not.2 _ _ _)
 | store t a x =>
   simp only [opx] at h
   split at h <;> try (cases h; done)
   rename_i b off ha
   split at h <;> try (cases h; done)
   rename_i k l ty hl
   split at h <;> try (cases h; done)
   rename_i ti hti
   cases h
   exact ⟨t, a, x, b, off, k, l, ty, ti, rfl, ha, hl, hti, rfl, rfl, rfl⟩
 | index t x i => simp only [opx] at h; repeat' (first | (cases h; done) | exact absurd h (inx_not.2 _ _ _) | split at h)
 | alloc t => cases hm
 | box t x => cases hm
 | buildSlice t n ps => cases hm
 | _ => simp only [opx] at h; repeat' (first | (cases h; done) | split at h)
theorem op_sound {C : Cx} {β0 : Nat → Nat} {fr : List Value} {hp : List HE} {o : Oper} {K : Value → List HE → (Nat → Nat) → Prop} {w : World} {Q : Exit → Act → World → Prop}
  (hβ : Inj β0) (hw : HOk C.w0 β0 hp w) (hQ : ∀ ch a w, a.defers = [] → C.R (.panicked ch) w → Q (.panic ch) a w)
  (H : ∀ β, Inj β → Agree hp.length β0 β → Asks C β fr hp o K (opx C.P β o.op fr hp)) :
  o.wp C.P ⟨fr.toArray, []⟩ w (Then C hp.length β0 fr o.dst K) Q := by
 have hlt : ∀ i, i < hp.length → β0 i ≠ w.heap.size := by
  intro i hi
  have := hw.obj i _ (List.getElem?_eq_getElem hi)
  have := (Array.getElem?_eq_some_iff.1 this).1
  omega
 have hleaf : OpX C β0 hp fr o K → o.wp C.P ⟨fr.toArray, []⟩ w (Then C hp.length β0 fr o.dst K) Q := by
  intro h
  unfold Oper.wp
  rw [eval_evx]
  rcases h w hw with ⟨v, w', hr, hp', β', h1, h2, h3, h4⟩ | ⟨v, w', hr, hR⟩
  ·rcases hr with hr | ⟨hr, rfl⟩ <;> rw [hr] <;> simp only [Oper.upon] <;> rw [put_put] <;> exact ⟨_, hp', β', rfl, h1, h2, h3, h4⟩
  ·rw [hr]; exact hQ _ _ _ rfl hR
 have h0 := H β0 hβ (Agree.refl _ _)
 -- a new block
 have hnew : ∀ (e : HE), e.kind = 2 → ∀ (v : Nat → Value) (φ : Prop), (∀ β, Inj β → Agree hp.length β0 β → φ ∧ K (v (β hp.length)) (hp ++ [e]) β) →
   (execOp (evx fr) o).run C.P w = .ok (.value (v w.heap.size)) { w with heap := w.heap.push e.obj } → o.wp C.P ⟨fr.toArray, []⟩ w (Then C hp.length β0 fr o.dst K) Q := by
  intro e hk v φ hK hr
  obtain ⟨β1, h1, h2, h3⟩ := extend hβ hp.length w.heap.size hlt
  unfold Oper.wp
  rw [eval_evx, hr]
  simp only [Oper.upon]
  rw [put_put]
  refine ⟨_, hp ++ [e], β1, rfl, hw.alloc h2 h3 e hk, h1, h2, fun β hβ' ha => ?_⟩
  have hn : β hp.length = w.heap.size := by rw [ha _ (by simp), h3]
  have := (hK β hβ' (h2.trans ha (by simp))).2
  rw [hn] at this
  exact this
 by_cases hm : makes o.op = true
 ·obtain ⟨d, op, ty, pos, aft, g⟩ := o
  simp only at hm H
  cases op <;> simp [makes] at hm
  ·rename_i t
   simp only [opx] at H
   cases hti : tiof C.P t with
   | none =>
     simp only [opx, hti, Asks] at h0
     exact hleaf h0
   | some ti =>
     simp only [hti, Asks] at H
     exact hnew (.c 2 ti.zero t) rfl (fun b => .pointer (some ⟨b, 0, none⟩)) True H (opx_alloc rfl hti w)
  ·rename_i t x
   simp only [opx, Asks] at H
   exact hnew (.c 2 (evx fr x).cells.toList t) rfl (fun b => .pointer (some ⟨b, 0, none⟩)) True H (opx_box rfl w)
  ·rename_i t n ps
   simp only [opx] at H h0
   cases hti : tiof C.P t with
   | none => simp only [hti, Asks] at h0; exact hleaf h0
   | some ti =>
     obtain ⟨sz, ag, z, kd⟩ := ti
     cases kd <;> try (simp only [hti, Asks] at h0; exact hleaf h0)
     rename_i e et
     cases hps : ps.toList with
     | nil => simp only [hti, hps, Asks] at h0; exact hleaf h0
     | cons q r =>
       obtain ⟨m, x⟩ := q
       cases r with
       | cons q' r' => simp only [hti, hps, Asks] at h0; exact hleaf h0
       | nil =>
         simp only [hti, hps] at H h0
         by_cases hnm : n = 1 ∧ m = 0
         ·obtain ⟨rfl, rfl⟩ := hnm
          simp only [and_self, if_true, Asks] at H h0
          obtain ⟨⟨he, he2, hs, hte⟩, _⟩ := h0
          exact hnew (.c 2 (evx fr x).cells.toList et) rfl (fun b => .slice (some ⟨b, 0, none⟩) 1 1) _ H (opx_buildSlice rfl hps hti he he2 hs hte w)
         ·rw [if_neg hnm] at h0
          exact hleaf h0
 ·have hm' : makes o.op = false := by simpa using hm
  have hag : ∀ β, Inj β → Agree hp.length β0 β → opx C.P β o.op fr hp = opx C.P β0 o.op fr hp := fun β h1 h2 => opx_agree hβ h1 h2 o.op fr hm'
  have hval : ∀ (v : Value) (φ : Prop), (opx C.P β0 o.op fr hp = .val v ∨ (opx C.P β0 o.op fr hp = .need φ v ∧ φ)) → (∀ β, Inj β → Agree hp.length β0 β → K v hp β) →
    o.wp C.P ⟨fr.toArray, []⟩ w (Then C hp.length β0 fr o.dst K) Q := by
   intro v φ h hK
   unfold Oper.wp
   rw [eval_evx, opx_pure hw h]
   simp only [Oper.upon]
   rw [put_put]
   exact ⟨v, hp, β0, rfl, hw, hβ, Agree.refl _ _, hK⟩
  cases hr : opx C.P β0 o.op fr hp with
  | val v => exact hval v True (.inl hr) fun β h1 h2 => by have := H β h1 h2; rw [hag β h1 h2, hr] at this; exact this
  | need φ v =>
    rw [hr] at h0
    exact hval v φ (.inr ⟨hr, h0.1⟩) fun β h1 h2 => by have := H β h1 h2; rw [hag β h1 h2, hr] at this; exact this.2
  | leaf => rw [hr] at h0; exact hleaf h0
  | call f args =>
    rw [hr] at h0
    obtain ⟨hok, hc⟩ := h0
    have hrun : (execOp (evx fr) o).run C.P w = .ok (.enter f args.toArray) w := by
     obtain ⟨f', xs, ts, a, b, ho, hf, rfl⟩ := opx_call_inv hr
     exact opx_call ho hf hok w
    unfold Oper.wp
    rw [eval_evx, hrun]
    simp only [Oper.upon]
    refine (hc w hw).mono fun e w' he => ?_
    cases e with
    | returned v =>
      obtain ⟨hp', β', h1, h2, h3, h4⟩ := he
      simp only
      rw [put_put]
      exact ⟨v, hp', β', rfl, h1, h2, h3, h4⟩
    | panicked ch => exact hQ _ _ _ rfl he
    | outgrown => exact he.elim
  | mem φ v hp' =>
    obtain ⟨t, a, x, b, off, k, l, ty, ti, ho, ha, hl, hti, rfl, rfl, rfl⟩ := opx_mem_inv hm' hr
    rw [hr] at h0
    have hb := hw.blockAt hl
    unfold Oper.wp
    rw [eval_evx, opx_store ho ha hb hti h0.1]
    simp only [Oper.upon]
    rw [put_put]
    obtain ⟨i, rfl, hi⟩ := lk_some hl
    rw [zaj hβ] at *
    refine ⟨_, _, β0, rfl, hw.store hβ hi h0.1.1, hβ, Agree.refl _ _, fun β h1 h2 => ?_⟩
    rw [List.length_set] at h2
    have := H β h1 h2
    rw [hag β h1 h2, hr] at this
    exact this.2
end Go.Gx
namespace Go.Gx
open Go.RowKit
section
variable {C : Cx}
def base (f : FuncId) : Frame := { (default : Frame) with fn := f, kind := .normal }
theorem goes_step {todo todo' : List Item} {a a' : Act} {w w' : World}
  (hs : ∀ cs, step C.P (lone ((base C.f).at a todo) cs w) = .next (lone ((base C.f).at a' todo') cs w')) (h : Goes C todo' a' w') : Goes C todo a w := by
 intro cs
 obtain ⟨e, w'', fr, hR, hc, h1, h2⟩ := h cs
 exact ⟨e, w'', fr, hR, Comes.of_steps (.one (hs cs)) hc, h1, h2⟩
def Qof (C : Cx) (todo : List Item) : Exit → Act → World → Prop
 | .normal, a, w => Goes C todo a w
 | .panic ch, a, w => a.defers = [] ∧ C.R (.panicked ch) w
 | _, _, _ => False
theorem goes_wp (hf : C.P.funcs[C.f]? = some C.fn) {c : Code} {todo : List Item} {a : Act} {w : World} (h : c.wp C.P (Qof C todo) a w) : Goes C (.code c :: todo) a w := by
 intro cs
 obtain ⟨e, a', w', hq, harr⟩ := h (base C.f) todo cs
 cases e with
 | normal =>
   obtain ⟨e, w'', fr, hR, hc, h1, h2⟩ := hq cs
   exact ⟨e, w'', fr, hR, Comes.of_steps harr hc, h1, h2⟩
 | panic ch =>
   obtain ⟨hd, hR⟩ := hq
   obtain ⟨t, hs⟩ := harr
   exact ⟨.panicked ch, w', _, hR, hs, rfl, rfl, hd, C.fn, hf⟩
 | exit id => exact hq.elim
 | goto l => exact hq.elim
 | ret => exact hq.elim
 | outgrown => exact hq.elim
def resOf (fr : List Value) : ResultVar → Sem Value
 | .tmp t => pure (fr.toArray.getD t undef)
 | .cell a t => do loadVar t (← asAddr (fr.toArray.getD a undef))
theorem resx_run {P : Program} {w0 w : World} {β : Nat → Nat} {hp : List HE} (hw : HOk w0 β hp w) (fr : List Value) : ∀ (rs : List ResultVar) (l : List Value), resx P β rs fr hp = some l →
  (rs.mapM (resOf fr)).run P w = .ok l w
 | [], l, h => by simp [resx] at h; subst h; rfl
 | .tmp t :: r, l, h => by
   simp only [resx, Option.map_eq_some_iff] at h
   obtain ⟨l', h1, rfl⟩ := h
   have := resx_run hw fr r l' h1
   simp [List.mapM_cons, resOf, this]
 | .cell a t :: r, l, h => by
   simp only [resx] at h
   split at h <;> try (cases h; done)
   rename_i b off ha
   split at h <;> try (cases h; done)
   rename_i k cs ty hl
   split at h <;> try (cases h; done)
   rename_i ti hti
   have hb := hw.blockAt hl
   have ha' : fr[a]?.getD undef = .pointer (some ⟨b, off, none⟩) := by simpa using ha
   split at h
   ·rename_i hag
    split at h <;> try (cases h; done)
    rename_i hle
    simp only [Option.map_eq_some_iff] at h
    obtain ⟨l', h1, rfl⟩ := h
    have := resx_run hw fr r l' h1
    simp [List.mapM_cons, resOf, ha', asAddr, run_load_agg hb off hti hag hle, this]
   ·rename_i hag
    split at h <;> try (cases h; done)
    rename_i u hu
    simp only [Option.map_eq_some_iff] at h
    obtain ⟨l', h1, rfl⟩ := h
    have := resx_run hw fr r l' h1
    simp [List.mapM_cons, resOf, ha', asAddr, run_load_one hb off hti hag hu, this]
theorem results_run {P : Program} {w0 w : World} {β : Nat → Nat} {hp : List HE} (hw : HOk w0 β hp w) {fn : Func} {fr l : List Value} (h : resx P β fn.results.toList fr hp = some l) :
  (results fn fr.toArray).run P w = .ok (tupx l) w := by
 have h1 := resx_run hw fr _ _ h
 have e : results fn fr.toArray = (do
   let vs ← fn.results.mapM (resOf fr)
   pure (if h : vs.size = 1 then vs[0] else .tuple vs)) := by
  unfold results
  congr 1
 rw [e]
 simp only [Sem.run_bind, Array.mapM_eq_mapM_toList, Sem.run_map]
 rw [h1]
 simp only [Result.andThen_ok, Sem.run_pure, Result.ok.injEq, and_true]
 cases l with
 | nil => rfl
 | cons x r => cases r <;> simp [tupx]
theorem goes_ret (hf : C.P.funcs[C.f]? = some C.fn) {β : Nat → Nat} {hp : List HE} {fr : List Value} {w : World} {todo : List Item} (hw : HOk C.w0 β hp w)
  (h : RetX C β hp (resx C.P β C.fn.results.toList fr hp))
  (hs : ∀ cs, step C.P (lone ((base C.f).at ⟨fr.toArray, []⟩ todo) cs w) = .next (lone { (base C.f).at ⟨fr.toArray, []⟩ todo with mode := .returning } cs w)) :
  Goes C todo ⟨fr.toArray, []⟩ w := by
 unfold RetX at h
 split at h
 ·rename_i l hl
  intro cs
  exact ⟨.returned (tupx l), w, _, h w hw, .one (hs cs), rfl, rfl, rfl, rfl, C.fn, hf, results_run hw hl⟩
 ·exact h.elim
theorem wanted_none {o : Oper} (h : o.guard = none) (y : Nat → Option Bool) : Region.wanted o y = true := by simp [Region.wanted, h]
theorem run_sound (hf : C.P.funcs[C.f]? = some C.fn) : ∀ (k : Nat) (all rest : List Oper) (todo : List Item) (fr : List Value) (hp : List HE) (β0 : Nat → Nat),
  (∀ β, Inj β → Agree hp.length β0 β → run C β k all rest todo fr hp) → Inj β0 → ∀ w, HOk C.w0 β0 hp w → wpList C.P all.toArray (Qof C todo) rest ⟨fr.toArray, []⟩ w := by
 intro k
 induction k with
 | zero => intro all rest todo fr hp β0 H hβ w hw; exact (H β0 hβ (Agree.refl _ _)).elim
 | succ k ih =>
   intro all rest todo fr hp β0 H hβ w hw
   have h0 := H β0 hβ (Agree.refl _ _)
   cases rest with
   | cons o rest =>
     cases hg : o.guard with
     | none =>
       have H' : ∀ β, Inj β → Agree hp.length β0 β → Asks C β fr hp o (fun v hp' β' => run C β' k all rest todo (put fr o.dst v) hp') (opx C.P β o.op fr hp) := by
        intro β h1 h2
        have := H β h1 h2
        rw [run] at this
        simp only [hg] at this
        revert this
        cases opx C.P β o.op fr hp <;> exact id
       have hs := op_sound (Q := Qof C todo) hβ hw (fun ch a w h1 h2 => ⟨h1, h2⟩) H'
       unfold wpList
       rw [if_pos (wanted_none hg _)]
       refine .inl (Oper.wp_mono (fun a w' ht => ?_) hs)
       obtain ⟨v, hp', β1, rfl, h1, h2, h3, h4⟩ := ht
       exact ih all rest todo _ hp' β1 h4 h2 w' h1
     | some jw =>
       obtain ⟨j, want⟩ := jw
       cases hs : slotOf all j with
       | none => rw [run] at h0; simp only [hg, hs] at h0
       | some t =>
         have hy : yielded all.toArray fr.toArray j = match fr[t]? with | some (.bool b) => some b | _ => none := by
          have : (all.toArray[j]?).bind (·.dst) = some t := by simpa [slotOf] using hs
          unfold yielded
          rw [this]
          simp only [Option.bind_some, List.getElem?_toArray]
          cases fr[t]? with
          | none => rfl
          | some x => cases x <;> rfl
         have hskip : Region.wanted o (yielded all.toArray fr.toArray) = false → (∀ β, Inj β → Agree hp.length β0 β → run C β k all rest todo (put fr o.dst undef) hp) →
           wpList C.P all.toArray (Qof C todo) (o :: rest) ⟨fr.toArray, []⟩ w := by
          intro hw' hr
          unfold wpList
          simp only
          rw [if_neg (by rw [hw']; exact Bool.false_ne_true), put_put]
          exact ih all rest todo _ hp β0 hr hβ w hw
         have hdo : Region.wanted o (yielded all.toArray fr.toArray) = true → (∀ β, Inj β → Agree hp.length β0 β → run C β k all (⟨o.dst, o.op, o.type, o.pos, o.after, none⟩ :: rest) todo fr hp) →
           wpList C.P all.toArray (Qof C todo) (o :: rest) ⟨fr.toArray, []⟩ w := by
          intro hw' hr
          have := ih all _ todo _ hp β0 hr hβ w hw
          unfold wpList at this ⊢
          simp only
          rw [if_pos hw']
          rw [if_pos (wanted_none rfl _)] at this
          exact this
         have hwant : Region.wanted o (yielded all.toArray fr.toArray) = ((match fr[t]? with | some (.bool b) => some b | _ => none) == some want) := by
          simp only [Region.wanted, hg, hy]
         cases hv : fr.getD t undef with
         | bool b =>
           have hft : fr[t]? = some (.bool b) := by
            rw [List.getD_eq_getElem?_getD] at hv
            cases hq : fr[t]? with
            | none => rw [hq] at hv; simp [undef] at hv
            | some x => rw [hq] at hv; simpa using hv
           have hset : fr.set t (.bool b) = fr := by
            obtain ⟨hlt, he⟩ := List.getElem?_eq_some_iff.1 hft
            rw [← he, List.set_getElem_self]
           rw [hft] at hwant
           simp only at hwant
           have HH : ∀ β, Inj β → Agree hp.length β0 β → gd b
             (if want = true then run C β k all (⟨o.dst, o.op, o.type, o.pos, o.after, none⟩ :: rest) todo (fr.set t (.bool true)) hp else run C β k all rest todo (put (fr.set t (.bool true)) o.dst undef) hp)
             (if want = true then run C β k all rest todo (put (fr.set t (.bool false)) o.dst undef) hp else run C β k all (⟨o.dst, o.op, o.type, o.pos, o.after, none⟩ :: rest) todo (fr.set t (.bool false)) hp) := by
            intro β h1 h2
            have := H β h1 h2
            rw [run] at this
            simp only [hg, hs, hv] at this
            exact this
           cases b <;> cases want <;> simp only [hset] at HH hwant
           ·exact hdo (by rw [hwant]; rfl) fun β h1 h2 => by have := (HH β h1 h2).2 rfl; simpa using this
           ·exact hskip (by rw [hwant]; rfl) fun β h1 h2 => by have := (HH β h1 h2).2 rfl; simpa using this
           ·exact hskip (by rw [hwant]; rfl) fun β h1 h2 => by have := (HH β h1 h2).1 rfl; simpa using this
           ·exact hdo (by rw [hwant]; rfl) fun β h1 h2 => by have := (HH β h1 h2).1 rfl; simpa using this
         | _ =>
           refine hskip ?_ fun β h1 h2 => ?_
           ·rw [hwant]
            rw [List.getD_eq_getElem?_getD] at hv
            cases hq : fr[t]? with
            | none => rfl
            | some x => rw [hq] at hv; simp only [Option.getD_some] at hv; subst hv; rfl
           ·have := H β h1 h2
            rw [run] at this
            simp only [hg, hs, hv] at this
            exact this
   | nil =>
     show Goes C todo ⟨fr.toArray, []⟩ w
     have hgo : ∀ {todo' : List Item} {fr' : List Value}, (∀ β, Inj β → Agree hp.length β0 β → run C β k [] [] todo' fr' hp) → Goes C todo' ⟨fr'.toArray, []⟩ w := fun h => ih [] [] _ _ hp β0 h hβ w hw
     cases todo with
     | nil =>
       rw [run] at h0
       exact goes_ret hf hw h0 (fun cs => step_end)
     | cons i todo =>
       have HH : ∀ β, Inj β → Agree hp.length β0 β → match stepI i todo fr with
        | .go t => run C β k [] [] t fr hp
        | .br b t1 f1 t2 f2 => gd b (run C β k [] [] t1 f1 hp) (run C β k [] [] t2 f2 hp)
        | .reg ops t => run C β k ops ops t fr hp
        | .ret => RetX C β hp (resx C.P β C.fn.results.toList fr hp)
        | .leaf => GoX C β hp fr (i :: todo)
        | .bad => False := fun β h1 h2 => by have := H β h1 h2; rw [run] at this; exact this
       have h0 := HH β0 hβ (Agree.refl _ _)
       have hret : stepI i todo fr = .ret → RetX C β0 hp (resx C.P β0 C.fn.results.toList fr hp) := fun h => by simp only [h] at h0; exact h0
       have hleaf : stepI i todo fr = .leaf → Goes C (i :: todo) ⟨fr.toArray, []⟩ w := fun h => by simp only [h] at h0; exact h0 w hw
       have hgo1 : ∀ t, stepI i todo fr = .go t → Goes C t ⟨fr.toArray, []⟩ w := fun t h => hgo fun β h1 h2 => by have := HH β h1 h2; simp only [h] at this; exact this
       have hbr1 : ∀ b t1 f1 t2 f2, stepI i todo fr = .br b t1 f1 t2 f2 → Goes C (if b then t1 else t2) ⟨(if b then f1 else f2).toArray, []⟩ w := fun b t1 f1 t2 f2 h => by
        cases b
        ·exact hgo fun β h1 h2 => by have := HH β h1 h2; simp only [h] at this; exact this.2 rfl
        ·exact hgo fun β h1 h2 => by have := HH β h1 h2; simp only [h] at this; exact this.1 rfl
       have hbad : stepI i todo fr = .bad → False := fun h => by simp only [h] at h0
       cases i with
       | code c =>
         cases c with
         | ret => exact goes_ret hf hw (hret rfl) (fun cs => step_ret)
         | skip => exact goes_step (fun cs => step_skip) (hgo1 _ rfl)
         | label l => exact goes_step (fun cs => step_label) (hgo1 _ rfl)
         | seq x y => exact goes_step (fun cs => step_seq) (hgo1 _ rfl)
         | block id x => exact goes_step (fun cs => step_block) (hgo1 _ rfl)
         | scope x => exact goes_step (fun cs => step_scope) (hgo1 _ rfl)
         | exit id =>
           cases he : exitTo id todo with
           | none => exact (hbad (by simp only [stepI, he])).elim
           | some t => exact goes_step (fun cs => step_exit he) (hgo1 t (by simp only [stepI, he]))
         | goto l =>
           cases he : gotoIn l todo with
           | none => exact (hbad (by simp only [stepI, he])).elim
           | some t => exact goes_step (fun cs => step_goto he) (hgo1 t (by simp only [stepI, he]))
         | region id ops draw =>
           cases draw with
           | true => exact hleaf rfl
           | false =>
             refine goes_wp hf (wp_region_list ?_)
             have := ih ops.toList ops.toList todo fr hp β0 (fun β h1 h2 => by have := HH β h1 h2; exact this) hβ w hw
             simpa using this
         | cond c x y =>
           cases hv : evx fr c with
           | bool b =>
             have hev : (⟨fr.toArray, []⟩ : Act).eval c = .bool b := by rw [eval_evx]; exact hv
             refine goes_step (fun cs => step_cond hev) ?_
             cases c with
             | tmp t =>
               have hset : fr.set t (.bool b) = fr := by
                simp only [evx] at hv
                rw [List.getD_eq_getElem?_getD] at hv
                cases hq : fr[t]? with
                | none => rw [hq] at hv; simp [undef] at hv
                | some x =>
                  rw [hq] at hv
                  simp only [Option.getD_some] at hv
                  subst hv
                  obtain ⟨hlt, he⟩ := List.getElem?_eq_some_iff.1 hq
                  rw [← he, List.set_getElem_self]
               have := hbr1 b (.code x :: todo) (fr.set t (.bool true)) (.code y :: todo) (fr.set t (.bool false)) (by simp only [stepI, hv])
               cases b
               ·simp only [Bool.false_eq_true, if_false] at this ⊢; rw [hset] at this; exact this
               ·simp only [if_true] at this ⊢; rw [hset] at this; exact this
             | _ =>
               have := hbr1 b (.code x :: todo) fr (.code y :: todo) fr (by simp only [stepI, hv])
               cases b
               ·simp only [Bool.false_eq_true, if_false] at this ⊢; exact this
               ·simp only [if_true] at this ⊢; exact this
           | _ => exact (hbad (by simp only [stepI, hv])).elim
         | _ => exact hleaf rfl
       | inBlock id => exact goes_step (fun cs => step_inBlock) (hgo1 _ rfl)
       | inScope c => exact goes_step (fun cs => step_inScope) (hgo1 _ rfl)
       | _ => exact hleaf rfl
end
end Go.Gx
namespace Go.Gx
open Go.RowKit
structure Known (w : World) (bs : List Nat) (hp : List HE) : Prop where
 len : bs.length = hp.length
 nodup : bs.Nodup
 obj : ∀ (i b : Nat) (e : HE), bs[i]? = some b → hp[i]? = some e → w.heap[b]? = some e.obj
 old : ∀ e, e ∈ hp → e.kind ≠ 2
theorem Known.nil (w : World) : Known w [] [] := ⟨rfl, List.nodup_nil, by simp, by simp⟩
theorem Known.cons {w : World} {bs : List Nat} {hp : List HE} {b : Nat} {e : HE} (hb : w.heap[b]? = some e.obj) (hk : e.kind ≠ 2) (hn : b ∉ bs) (h : Known w bs hp) : Known w (b :: bs) (e :: hp) := by
 refine ⟨by simp [h.len], List.nodup_cons.2 ⟨hn, h.nodup⟩, ?_, ?_⟩
 ·intro i c x h1 h2
  cases i with
  | zero => simp at h1 h2; subst h1; subst h2; exact hb
  | succ i => simp at h1 h2; exact h.obj i c x h1 h2
 ·intro x hx
  rcases List.mem_cons.1 hx with rfl | hx
  ·exact hk
  ·exact h.old x hx
theorem Known.ok {w : World} {bs : List Nat} {hp : List HE} (h : Known w bs hp) {β : Nat → Nat} (hb : ∀ i b, bs[i]? = some b → β i = b) : HOk w β hp w := by
 have key : ∀ i e, hp[i]? = some e → ∃ b, bs[i]? = some b ∧ β i = b := by
  intro i e he
  have hi : i < hp.length := (List.getElem?_eq_some_iff.1 he).1
  have hi' : i < bs.length := by rw [h.len]; exact hi
  exact ⟨bs[i], List.getElem?_eq_getElem hi', hb i _ (List.getElem?_eq_getElem hi')⟩
 refine ⟨rfl, rfl, rfl, Nat.le_refl _, ?_, ?_, fun _ _ _ => rfl⟩
 ·intro i e he
  obtain ⟨b, h1, h2⟩ := key i e he
  rw [h2]; exact h.obj i b e h1 he
 ·intro i e he hk
  exact absurd hk (h.old e (List.mem_of_getElem? he))
theorem number (bs : List Nat) (h : bs.Nodup) : ∃ β, Inj β ∧ ∀ i b, bs[i]? = some b → β i = b := by
 have hmax : ∃ M, ∀ b, b ∈ bs → b ≤ M := by
  clear h
  induction bs with
  | nil => exact ⟨0, by simp⟩
  | cons b bs ih =>
    obtain ⟨M, hM⟩ := ih
    refine ⟨max M b, fun c hc => ?_⟩
    rcases List.mem_cons.1 hc with rfl | hc
    ·omega
    ·have := hM c hc; omega
 obtain ⟨M, hM⟩ := hmax
 refine ⟨fun i => (bs[i]?).getD (M + 1 + i), ?_, fun i b hb => by simp [hb]⟩
 intro i j hij
 simp only at hij
 cases hi : bs[i]? with
 | none =>
   cases hj : bs[j]? with
   | none => rw [hi, hj] at hij; simp at hij; exact hij
   | some c => rw [hi, hj] at hij; simp at hij; have := hM c (List.mem_of_getElem? hj); omega
 | some b =>
   cases hj : bs[j]? with
   | none => rw [hi, hj] at hij; simp at hij; have := hM b (List.mem_of_getElem? hi); omega
   | some c =>
     rw [hi, hj] at hij
     simp at hij
     subst hij
     obtain ⟨h1, e1⟩ := List.getElem?_eq_some_iff.1 hi
     obtain ⟨h2, e2⟩ := List.getElem?_eq_some_iff.1 hj
     exact (List.getElem_inj h).1 (e1.trans e2.symm)
theorem zal {P : Program} {f : FuncId} {fn : Func} {c : Code} (K : Nat) (hf : P.funcs[f]? = some fn) (hb : fn.body = some c) (args : List Value) (w : World) (R : Ending → World → Prop)
  (bs : List Nat) (hp : List HE) (hk : Known w bs hp)
  (H : ∀ β, Inj β → (∀ i b, bs[i]? = some b → β i = b) → run ⟨P, f, fn, w, R⟩ β K [] [] [.code c] (args ++ List.replicate (fn.ntmps - args.length) undef) hp) :
  Calls P f args.toArray w R := by
 obtain ⟨β0, h1, h2⟩ := number bs hk.nodup
 have hs := run_sound (C := ⟨P, f, fn, w, R⟩) hf K [] [] [.code c] _ hp β0 (fun β hi ha => H β hi fun i b hb' => by
  have hlt : i < hp.length := by rw [← hk.len]; exact (List.getElem?_eq_some_iff.1 hb').1
  rw [ha i hlt]; exact h2 i b hb') h1 w (hk.ok h2)
 have hg : Goes ⟨P, f, fn, w, R⟩ [.code c] ⟨(args ++ List.replicate (fn.ntmps - args.length) undef).toArray, []⟩ w := hs
 intro cs
 obtain ⟨e, w', fr, hR, hc, h3, h4⟩ := hg cs
 refine ⟨e, w', fr, hR, ?_, h3, h4⟩
 have henter : Frame.enter P f args.toArray .normal = ({ (default : Frame) with fn := f, kind := .normal } : Frame).at ⟨(args ++ List.replicate (fn.ntmps - args.length) undef).toArray, []⟩ [.code c] := by
  simp [Frame.enter, Frame.at, hf, hb]
 rw [henter]
 exact hc
def Gives (P : Program) (f : FuncId) (args : List Value) (w : World) (v : Value) : Prop :=
 Calls P f args.toArray w fun e w' => e = .returned v ∧ Below w.heap.size w w'
theorem HOk.below {w0 w w' : World} {β : Nat → Nat} {hp : List HE} (h : HOk w0 β hp w) (hb : Below w.heap.size w w') : HOk w0 β hp w' := by
 refine ⟨hb.os.trans h.os, hb.tape.trans h.tape, hb.output.trans h.output, Nat.le_trans h.size hb.size, ?_, h.fresh, ?_⟩
 ·intro i e he
  have := h.obj i e he
  rw [hb.block _ (Array.getElem?_eq_some_iff.1 this).1]; exact this
 ·intro r hr hno
  rw [hb.block r (Nat.lt_of_lt_of_le hr h.size)]; exact h.old r hr hno
theorem zah {C : Cx} {β : Nat → Nat} (hβ : Inj β) {hp : List HE} {f : FuncId} {args : List Value} {K : Value → List HE → (Nat → Nat) → Prop} {v : Value}
  (h : ∀ w, HOk C.w0 β hp w → Gives C.P f args w v) (hk : ∀ β', Inj β' → (∀ i, i < hp.length → β i = β' i) → K v hp β') : CallX C β hp f args K := by
 intro w hw
 refine (h w hw).mono fun e w' ⟨he, hb⟩ => ?_
 subst he
 exact ⟨hp, β, hw.below hb, hβ, Agree.refl _ _, fun β' h1 h2 => hk β' h1 fun i hi => (h2 i hi).symm⟩
theorem HOk.same {w0 w : World} {β : Nat → Nat} {hp : List HE} (h : HOk w0 β hp w) (hk : hp.all (fun e => e.kind != 1) = true) : Below w0.heap.size w0 w :=
 ⟨h.os, h.tape, h.output, h.size, fun r hr => h.old r hr fun i e he h1 => by
  have := List.all_eq_true.1 hk e (List.mem_of_getElem? he)
  simp [h1] at this⟩
structure Keeps (M : List Nat) (w w' : World) : Prop where
 os : w'.os = w.os
 tape : w'.tape = w.tape
 output : w'.output = w.output
 size : w.heap.size ≤ w'.heap.size
 block : ∀ r, r < w.heap.size → r ∉ M → w'.heap[r]? = w.heap[r]?
theorem Keeps.below {w w' : World} (h : Keeps [] w w') : Below w.heap.size w w' := ⟨h.os, h.tape, h.output, h.size, fun r hr => h.block r hr (by simp)⟩
theorem back_run {C : Cx} (hf : C.P.funcs[C.f]? = some C.fn) {β : Nat → Nat} (hβ : Inj β) {hp : List HE} {fr : List Value} {body : Code} {todo : List Item} (k : Nat)
  (h : ∀ β', Inj β' → (∀ i, i < hp.length → β i = β' i) → run C β' k [] [] (.code body :: .inLoop body :: todo) fr hp) : GoX C β hp fr (.inLoop body :: todo) := fun w hw =>
 goes_step (fun _ => step_inLoop) (run_sound hf k [] [] _ fr hp β (fun β' h1 h2 => h β' h1 fun i hi => (h2 i hi).symm) hβ w hw)
theorem loop_run {C : Cx} (hf : C.P.funcs[C.f]? = some C.fn) {β : Nat → Nat} (hβ : Inj β) {hp : List HE} {fr : List Value} {body : Code} {todo : List Item} (k : Nat)
  (h : ∀ β', Inj β' → (∀ i, i < hp.length → β i = β' i) → run C β' k [] [] (.code body :: .inLoop body :: todo) fr hp) : GoX C β hp fr (.code (.loop body) :: todo) := fun w hw =>
 goes_step (fun _ => step_loop) (run_sound hf k [] [] _ fr hp β (fun β' h1 h2 => h β' h1 fun i hi => (h2 i hi).symm) hβ w hw)
theorem loop_rel {C : Cx} (hf : C.P.funcs[C.f]? = some C.fn) {body : Code} {todo : List Item} (k : Nat) (I : Nat → (Nat → Nat) → List Value → List HE → Prop)
  (round : ∀ m, (∀ m' β fr hp, m' < m → Inj β → I m' β fr hp → GoX C β hp fr (.inLoop body :: todo)) → ∀ β fr hp, Inj β → I m β fr hp →
   ∀ β', Inj β' → (∀ i, i < hp.length → β i = β' i) → run C β' k [] [] (.code body :: .inLoop body :: todo) fr hp)
  {β : Nat → Nat} (hβ : Inj β) {hp : List HE} {fr : List Value} (m : Nat) (h : I m β fr hp) : GoX C β hp fr (.code (.loop body) :: todo) := by
 have key : ∀ n m β fr hp, m < n → Inj β → I m β fr hp → GoX C β hp fr (.inLoop body :: todo) := by
  intro n
  induction n with
  | zero => intro m β fr hp hm; omega
  | succ n ih =>
    intro m β fr hp hm hβ h
    exact back_run hf hβ k (round m (fun m' β fr hp hm' => ih m' β fr hp (by omega)) β fr hp hβ h)
 exact loop_run hf hβ k (round m (fun m' β fr hp _ => key (m' + 1) m' β fr hp (by omega)) β fr hp hβ h)
end Go.Gx
namespace Go.Gx
open Go.RowKit
variable {C : Cx} {P : Program} {β : Nat → Nat} {k : Nat} {all rest : List Oper} {todo : List Item} {fr : List Value} {hp : List HE}
def resK (C : Cx) (β : Nat → Nat) (k : Nat) (all rest : List Oper) (todo : List Item) (fr : List Value) (hp : List HE) (o : Oper) : Res → Prop
 | .val v => run C β k all rest todo (put fr o.dst v) hp
 | .need φ v => φ ∧ run C β k all rest todo (put fr o.dst v) hp
 | .mem φ v hp' => φ ∧ run C β k all rest todo (put fr o.dst v) hp'
 | .call f args => fnOk C.P f = true ∧ CallX C β hp f args (fun v hp' β' => run C β' (hold k) all rest todo (put fr o.dst v) hp')
 | .leaf => OpX C β hp fr o (fun v hp' β' => run C β' (hold k) all rest todo (put fr o.dst v) hp')
theorem resK_val {o : Oper} (v : Value) : resK C β k all rest todo fr hp o (.val v) = run C β k all rest todo (put fr o.dst v) hp := rfl
theorem resK_need {o : Oper} (φ : Prop) (v : Value) : resK C β k all rest todo fr hp o (.need φ v) = (φ ∧ run C β k all rest todo (put fr o.dst v) hp) := rfl
theorem resK_mem {o : Oper} (φ : Prop) (v : Value) (hp' : List HE) : resK C β k all rest todo fr hp o (.mem φ v hp') = (φ ∧ run C β k all rest todo (put fr o.dst v) hp') := rfl
theorem resK_call {o : Oper} (f : FuncId) (args : List Value) : resK C β k all rest todo fr hp o (.call f args) =
 (fnOk C.P f = true ∧ CallX C β hp f args (fun v hp' β' => run C β' (hold k) all rest todo (put fr o.dst v) hp')) := rfl
theorem resK_leaf {o : Oper} : resK C β k all rest todo fr hp o .leaf = OpX C β hp fr o (fun v hp' β' => run C β' (hold k) all rest todo (put fr o.dst v) hp') := rfl
theorem run_op (d : Option Tmp) (op : Op) (t : TypeId) (p : String) (a : Array Edge) : run C β (k + 1) all (⟨d, op, t, p, a, none⟩ :: rest) todo fr hp =
  resK C β k all rest todo fr hp ⟨d, op, t, p, a, none⟩ (opx C.P β op fr hp) := by
 rw [run]
 simp only
 cases opx C.P β op fr hp <;> rfl
def guardK (C : Cx) (β : Nat → Nat) (k : Nat) (all rest : List Oper) (todo : List Item) (fr : List Value) (hp : List HE) (d : Option Tmp) (o : Oper) (want : Bool) : Option Tmp → Prop
 | none => False
 | some t => match fr.getD t undef with
   | .bool b => gd b
    (if want = true then run C β k all (o :: rest) todo (fr.set t (.bool true)) hp else run C β k all rest todo (put (fr.set t (.bool true)) d undef) hp)
    (if want = true then run C β k all rest todo (put (fr.set t (.bool false)) d undef) hp else run C β k all (o :: rest) todo (fr.set t (.bool false)) hp)
   | _ => run C β k all rest todo (put fr d undef) hp
theorem run_guard (d : Option Tmp) (op : Op) (t : TypeId) (p : String) (a : Array Edge) (j : Nat) (want : Bool) : run C β (k + 1) all (⟨d, op, t, p, a, some (j, want)⟩ :: rest) todo fr hp =
  guardK C β k all rest todo fr hp d ⟨d, op, t, p, a, none⟩ want (slotOf all j) := by
 rw [run]; rfl
def guardV (C : Cx) (β : Nat → Nat) (k : Nat) (all rest : List Oper) (todo : List Item) (fr : List Value) (hp : List HE) (d : Option Tmp) (o : Oper) (want : Bool) (t : Tmp) : Value → Prop
 | .bool b => gd b
  (if want = true then run C β k all (o :: rest) todo (fr.set t (.bool true)) hp else run C β k all rest todo (put (fr.set t (.bool true)) d undef) hp)
  (if want = true then run C β k all rest todo (put (fr.set t (.bool false)) d undef) hp else run C β k all (o :: rest) todo (fr.set t (.bool false)) hp)
 | _ => run C β k all rest todo (put fr d undef) hp
theorem guardK_some {d : Option Tmp} {o : Oper} {want : Bool} (t : Tmp) : guardK C β k all rest todo fr hp d o want (some t) = guardV C β k all rest todo fr hp d o want t (fr.getD t undef) := rfl
theorem guardV_t {d : Option Tmp} {o : Oper} {t : Tmp} (b : Bool) : guardV C β k all rest todo fr hp d o true t (.bool b) =
 gd b (run C β k all (o :: rest) todo (fr.set t (.bool true)) hp) (run C β k all rest todo (put (fr.set t (.bool false)) d undef) hp) := rfl
theorem guardV_f {d : Option Tmp} {o : Oper} {t : Tmp} (b : Bool) : guardV C β k all rest todo fr hp d o false t (.bool b) =
 gd b (run C β k all rest todo (put (fr.set t (.bool true)) d undef) hp) (run C β k all (o :: rest) todo (fr.set t (.bool false)) hp) := rfl
theorem guardV_u {d : Option Tmp} {o : Oper} {want : Bool} {t : Tmp} : guardV C β k all rest todo fr hp d o want t undef = run C β k all rest todo (put fr d undef) hp := rfl
theorem zae (A B : Prop) : gd true A B = A := by simp [gd]
theorem zab (A B : Prop) : gd false A B = B := by simp [gd]
theorem run_end : run C β (k + 1) all [] [] fr hp = RetX C β hp (resx C.P β C.fn.results.toList fr hp) := by rw [run]
theorem run_ret : run C β (k + 1) all [] (.code .ret :: todo) fr hp = RetX C β hp (resx C.P β C.fn.results.toList fr hp) := by rw [run]; rfl
theorem run_skip : run C β (k + 1) all [] (.code .skip :: todo) fr hp = run C β k [] [] todo fr hp := by rw [run]; rfl
theorem run_label (l : Nat) : run C β (k + 1) all [] (.code (.label l) :: todo) fr hp = run C β k [] [] todo fr hp := by rw [run]; rfl
theorem run_inBlock (l : Nat) : run C β (k + 1) all [] (.inBlock l :: todo) fr hp = run C β k [] [] todo fr hp := by rw [run]; rfl
theorem run_inScope (c : Code) : run C β (k + 1) all [] (.inScope c :: todo) fr hp = run C β k [] [] todo fr hp := by rw [run]; rfl
theorem run_seq (a b : Code) : run C β (k + 1) all [] (.code (.seq a b) :: todo) fr hp = run C β k [] [] (.code a :: .code b :: todo) fr hp := by rw [run]; rfl
theorem run_block (i : Nat) (c : Code) : run C β (k + 1) all [] (.code (.block i c) :: todo) fr hp = run C β k [] [] (.code c :: .inBlock i :: todo) fr hp := by rw [run]; rfl
theorem run_scope (c : Code) : run C β (k + 1) all [] (.code (.scope c) :: todo) fr hp = run C β k [] [] (.code c :: .inScope c :: todo) fr hp := by rw [run]; rfl
theorem run_region (i : Nat) (l : List Oper) : run C β (k + 1) all [] (.code (.region i l.toArray false) :: todo) fr hp = run C β k l l todo fr hp := by rw [run]; rfl
theorem run_draw (i : Nat) (ops : Array Oper) : run C β (k + 1) all [] (.code (.region i ops true) :: todo) fr hp = GoX C β hp fr (.code (.region i ops true) :: todo) := by rw [run]; rfl
theorem run_loop (c : Code) : run C β (k + 1) all [] (.code (.loop c) :: todo) fr hp = GoX C β hp fr (.code (.loop c) :: todo) := by rw [run]; rfl
theorem run_inLoop (c : Code) : run C β (k + 1) all [] (.inLoop c :: todo) fr hp = GoX C β hp fr (.inLoop c :: todo) := by rw [run]; rfl
theorem run_range (f : Operand) (ps : Array Tmp) (a b : Code) : run C β (k + 1) all [] (.code (.rangeFunc f ps a b) :: todo) fr hp = GoX C β hp fr (.code (.rangeFunc f ps a b) :: todo) := by rw [run]; rfl
def goK (C : Cx) (β : Nat → Nat) (k : Nat) (fr : List Value) (hp : List HE) : Option (List Item) → Prop
 | some t => run C β k [] [] t fr hp
 | none => False
theorem goK_some (t : List Item) : goK C β k fr hp (some t) = run C β k [] [] t fr hp := rfl
theorem run_exit (i : Nat) : run C β (k + 1) all [] (.code (.exit i) :: todo) fr hp = goK C β k fr hp (exitTo i todo) := by
 rw [run]; simp only [stepI]; cases exitTo i todo <;> rfl
theorem run_goto (i : Nat) : run C β (k + 1) all [] (.code (.goto i) :: todo) fr hp = goK C β k fr hp (gotoIn i todo) := by
 rw [run]; simp only [stepI]; cases gotoIn i todo <;> rfl
theorem exitTo_in (i j : Nat) : exitTo i (.inBlock j :: todo) = if j = i then some todo else exitTo i todo := by
 simp only [exitTo]; by_cases h : j = i <;> simp [h]
theorem exitTo_code (i : Nat) (c : Code) : exitTo i (.code c :: todo) = exitTo i todo := rfl
theorem exitTo_loop (i : Nat) (c : Code) : exitTo i (.inLoop c :: todo) = exitTo i todo := rfl
theorem exitTo_scope (i : Nat) (c : Code) : exitTo i (.inScope c :: todo) = exitTo i todo := rfl
def condK (C : Cx) (β : Nat → Nat) (k : Nat) (fr : List Value) (hp : List HE) (t : Tmp) (x y : Code) (todo : List Item) : Value → Prop
 | .bool b => gd b (run C β k [] [] (.code x :: todo) (fr.set t (.bool true)) hp) (run C β k [] [] (.code y :: todo) (fr.set t (.bool false)) hp)
 | _ => False
theorem condK_bool {t : Tmp} {x y : Code} (b : Bool) : condK C β k fr hp t x y todo (.bool b) =
 gd b (run C β k [] [] (.code x :: todo) (fr.set t (.bool true)) hp) (run C β k [] [] (.code y :: todo) (fr.set t (.bool false)) hp) := rfl
theorem run_cond (t : Tmp) (x y : Code) : run C β (k + 1) all [] (.code (.cond (.tmp t) x y) :: todo) fr hp = condK C β k fr hp t x y todo (fr.getD t undef) := by
 rw [run]; simp only [stepI, evx]; cases fr.getD t undef <;> rfl
theorem evx_tmp (t : Tmp) : evx fr (.tmp t) = fr.getD t undef := rfl
theorem evx_const (v : Value) : evx fr (.const v) = v := rfl
theorem evx_func (f : FuncId) : evx fr (.func f) = .func (.func f) #[] #[] := rfl
theorem evx_global (g : Nat) : evx fr (.global g) = .pointer (some ⟨g, 0, none⟩) := rfl
theorem put_some (d : Tmp) (v : Value) : put fr (some d) v = fr.set d v := rfl
theorem put_none (v : Value) : put fr none v = fr := rfl
theorem opx_move (x : Operand) : opx P β (.move x) fr hp = .val (evx fr x) := rfl
theorem opx_assign (x : Operand) : opx P β (.assign x) fr hp = .val (evx fr x) := rfl
def pickK (x y : Value) : Value → Res
 | .bool t => .val (pk t x y)
 | _ => .leaf
theorem pickK_bool (x y : Value) (t : Bool) : pickK x y (.bool t) = .val (pk t x y) := rfl
theorem opx_pick (c a b : Operand) : opx P β (.pick c a b) fr hp = pickK (evx fr a) (evx fr b) (evx fr c) := rfl
theorem pk_true (x y : Value) : pk true x y = x := rfl
theorem pk_false (x y : Value) : pk false x y = y := rfl
theorem pk_bool (b x y : Bool) : pk b (.bool x) (.bool y) = .bool (bif b then x else y) := by cases b <;> rfl
def allocK (β : Nat → Nat) (t : TypeId) (hp : List HE) : Option TI → Res
 | some ti => .mem True (.pointer (some ⟨β hp.length, 0, none⟩)) (hp ++ [.c 2 ti.zero t])
 | none => .leaf
theorem opx_allocE (t : TypeId) : opx P β (.alloc t) fr hp = allocK β t hp (tiof P t) := rfl
theorem allocK_some (t : TypeId) (a : Nat) (b : Bool) (z : List Value) (kd : TK) : allocK β t hp (some ⟨a, b, z, kd⟩) = .mem True (.pointer (some ⟨β hp.length, 0, none⟩)) (hp ++ [.c 2 z t]) := rfl
def cellsV (v : Value) : List Value := v.cells.toList
theorem cellsV_agg (l : List Value) : cellsV (.agg l.toArray) = l := rfl
theorem cellsV_int (q : IntKind) (n : Int) : cellsV (.int q n) = [.int q n] := rfl
theorem cellsV_bool (b : Bool) : cellsV (.bool b) = [.bool b] := rfl
theorem cellsV_string (s : ByteArray) : cellsV (.string s) = [.string s] := rfl
theorem cellsV_pointer (a : Option Addr) : cellsV (.pointer a) = [.pointer a] := rfl
theorem cellsV_slice (a : Option Addr) (n c : Nat) : cellsV (.slice a n c) = [.slice a n c] := rfl
theorem cellsV_map (a : Option Nat) : cellsV (.map a) = [.map a] := rfl
theorem cellsV_func (f : Fn) (a b : Array Value) : cellsV (.func f a b) = [.func f a b] := rfl
theorem cellsV_nilFunc : cellsV .nilFunc = [.nilFunc] := rfl
theorem cellsV_iface (t : TypeId) (v : Value) : cellsV (.iface t v) = [.iface t v] := rfl
theorem cellsV_nilIface : cellsV .nilIface = [.nilIface] := rfl
theorem opx_boxE (t : TypeId) (x : Operand) : opx P β (.box t x) fr hp = .mem True (.pointer (some ⟨β hp.length, 0, none⟩)) (hp ++ [.c 2 (cellsV (evx fr x)) t]) := rfl
def ofO : Option Value → Res
 | some v => .val v
 | none => .leaf
theorem ofO_some (v : Value) : ofO (some v) = .val v := rfl
def loadC (off : Nat) (l : List Value) : Option TI → Res
 | some ti => if ti.ag = true then .need (off + ti.sz ≤ l.length) (.agg ((l.drop off).take ti.sz).toArray) else match l[off]? with
   | some v => .val v
   | none => .leaf
 | none => .leaf
theorem loadC_t (off n : Nat) (l z : List Value) (kd : TK) : loadC off l (some ⟨n, true, z, kd⟩) = .need (off + n ≤ l.length) (.agg ((l.drop off).take n).toArray) := rfl
theorem loadC_f (off n : Nat) (l z : List Value) (kd : TK) : loadC off l (some ⟨n, false, z, kd⟩) = ofO l[off]? := by
 simp only [loadC]; cases l[off]? <;> rfl
def loadL (P : Program) (t : TypeId) (off : Nat) : Option (List Value) → Res
 | some l => loadC off l (tiof P t)
 | none => .leaf
theorem loadL_some (t : TypeId) (off : Nat) (l : List Value) : loadL P t off (some l) = loadC off l (tiof P t) := rfl
def loadB (P : Program) (t : TypeId) (off : Nat) (e : Option HE) : Res := loadL P t off (e.bind HE.cs)
theorem loadB_c (t : TypeId) (off k : Nat) (l : List Value) (ty : TypeId) : loadB P t off (some (.c k l ty)) = loadC off l (tiof P t) := rfl
theorem loadB_r (t : TypeId) (off : Nat) (l : List Value) (ty : TypeId) (z : Nat × Nat) : loadB P t off (some (.r l ty z)) = loadC off l (tiof P t) := rfl
noncomputable def loadV (P : Program) (β : Nat → Nat) (t : TypeId) (hp : List HE) : Value → Res
 | .pointer (some ⟨b, off, none⟩) => loadB P t off (lk β b hp)
 | _ => .leaf
theorem loadV_p (t : TypeId) (b off : Nat) : loadV P β t hp (.pointer (some ⟨b, off, none⟩)) = loadB P t off (lk β b hp) := rfl
theorem opx_load (t : TypeId) (a : Operand) : opx P β (.load t a) fr hp = loadV P β t hp (evx fr a) := rfl
def storeC (off : Nat) (v : Value) (i k : Nat) (l : List Value) (ty : TypeId) (hp : List HE) : Option TI → Res
 | some ti => .mem ((k = 1 ∨ k = 2) ∧ (cellsV v).length = ti.sz ∧ (cellsV v).all one = true ∧ off + ti.sz ≤ l.length) undef (hp.set i (.c k (splice l off (cellsV v)) ty))
 | none => .leaf
theorem storeC_some (off : Nat) (v : Value) (i k : Nat) (l : List Value) (ty : TypeId) (n : Nat) (b : Bool) (z : List Value) (kd : TK) : storeC off v i k l ty hp (some ⟨n, b, z, kd⟩) =
 .mem ((k = 1 ∨ k = 2) ∧ (cellsV v).length = n ∧ (cellsV v).all one = true ∧ off + n ≤ l.length) undef (hp.set i (.c k (splice l off (cellsV v)) ty)) := rfl
def storeB (P : Program) (t : TypeId) (off : Nat) (v : Value) (i : Nat) (hp : List HE) : Option HE → Res
 | some (.c k l ty) => storeC off v i k l ty hp (tiof P t)
 | _ => .leaf
theorem storeB_c (t : TypeId) (off : Nat) (v : Value) (i k : Nat) (l : List Value) (ty : TypeId) : storeB P t off v i hp (some (.c k l ty)) = storeC off v i k l ty hp (tiof P t) := rfl
noncomputable def storeV (P : Program) (β : Nat → Nat) (t : TypeId) (v : Value) (hp : List HE) : Value → Res
 | .pointer (some ⟨b, off, none⟩) => storeB P t off v (ix β b) hp (lk β b hp)
 | _ => .leaf
theorem storeV_p (t : TypeId) (v : Value) (b off : Nat) : storeV P β t v hp (.pointer (some ⟨b, off, none⟩)) = storeB P t off v (ix β b) hp (lk β b hp) := rfl
theorem opx_storeE (t : TypeId) (a x : Operand) : opx P β (.store t a x) fr hp = storeV P β t (evx fr x) hp (evx fr a) := rfl
def fieldF (b off : Nat) (sp : Option Nat) : Option (Nat × Nat × TypeId) → Res
 | some (d, n, _) => if n = 0 then .leaf else .val (.pointer (some (Addr.add ⟨b, off, sp⟩ d)))
 | none => .leaf
theorem fieldF_0 (b off n : Nat) (t : TypeId) : fieldF b off none (some (0, n + 1, t)) = .val (.pointer (some ⟨b, off, none⟩)) := rfl
theorem fieldF_s (b off d n : Nat) (t : TypeId) : fieldF b off none (some (d + 1, n + 1, t)) = .val (.pointer (some ⟨b, off + (d + 1), none⟩)) := rfl
def fieldT (b off : Nat) (sp : Option Nat) (f : Nat) : Option TI → Res
 | some ⟨_, _, _, .st fs _⟩ => fieldF b off sp fs[f]?
 | _ => .leaf
theorem fieldT_st (b off : Nat) (sp : Option Nat) (f n : Nat) (ag : Bool) (z : List Value) (fs : List (Nat × Nat × TypeId)) (c : Bool) : fieldT b off sp f (some ⟨n, ag, z, .st fs c⟩) = fieldF b off sp fs[f]? := rfl
def fieldV (P : Program) (s : TypeId) (f : Nat) : Value → Res
 | .pointer (some ⟨b, off, sp⟩) => fieldT b off sp f (tiof P s)
 | _ => .leaf
theorem fieldV_p (s : TypeId) (f b off : Nat) (sp : Option Nat) : fieldV P s f (.pointer (some ⟨b, off, sp⟩)) = fieldT b off sp f (tiof P s) := rfl
theorem opx_fieldAddr (s : TypeId) (x : Operand) (f : Nat) : opx P β (.fieldAddr s x f) fr hp = fieldV P s f (evx fr x) := rfl
def nilV : Value → Res
 | .pointer (some a) => .val (.pointer (some a))
 | .func (.func g) a b => .val (.func (.func g) a b)
 | _ => .leaf
theorem nilV_p (a : Addr) : nilV (.pointer (some a)) = .val (.pointer (some a)) := rfl
theorem nilV_f (g : FuncId) (a b : Array Value) : nilV (.func (.func g) a b) = .val (.func (.func g) a b) := rfl
theorem opx_nilCheck (x : Operand) : opx P β (.nilCheck x) fr hp = nilV (evx fr x) := rfl
theorem opx_bin (op : BinOp) (t t' : TypeId) (x y : Operand) : opx P β (.binOp op t x y t') fr hp = bin P op t (evx fr x) (evx fr y) := rfl
theorem bin_add (t : TypeId) (k : IntKind) (a b : Int) : bin P .add t (.int k a) (.int k b) = .val (.int k (k.wrap (a + b))) := by simp [bin]
theorem bin_sub (t : TypeId) (k : IntKind) (a b : Int) : bin P .sub t (.int k a) (.int k b) = .val (.int k (k.wrap (a - b))) := by simp [bin]
theorem bin_mul (t : TypeId) (k : IntKind) (a b : Int) : bin P .mul t (.int k a) (.int k b) = .val (.int k (k.wrap (a * b))) := by simp [bin]
theorem bin_quo (t : TypeId) (k : IntKind) (a b : Int) : bin P .quo t (.int k a) (.int k b) = .need (b ≠ 0) (.int k (k.wrap (a.tdiv b))) := by simp [bin]
theorem bin_rem (t : TypeId) (k : IntKind) (a b : Int) : bin P .rem t (.int k a) (.int k b) = .need (b ≠ 0) (.int k (a.tmod b)) := by simp [bin]
theorem bin_lss (t : TypeId) (k : IntKind) (a b : Int) : bin P .lss t (.int k a) (.int k b) = .val (.bool (decide (a < b))) := by simp [bin]
theorem bin_leq (t : TypeId) (k : IntKind) (a b : Int) : bin P .leq t (.int k a) (.int k b) = .val (.bool (decide (a ≤ b))) := by simp [bin]
theorem bin_gtr (t : TypeId) (k : IntKind) (a b : Int) : bin P .gtr t (.int k a) (.int k b) = .val (.bool (decide (b < a))) := by simp [bin]
theorem bin_geq (t : TypeId) (k : IntKind) (a b : Int) : bin P .geq t (.int k a) (.int k b) = .val (.bool (decide (b ≤ a))) := by simp [bin]
theorem bin_eql (t : TypeId) (k : IntKind) (a b : Int) : bin P .eql t (.int k a) (.int k b) = .val (.bool (decide (a = b))) := by simp [bin]; rfl
theorem bin_neq (t : TypeId) (k : IntKind) (a b : Int) : bin P .neq t (.int k a) (.int k b) = .val (.bool (!decide (a = b))) := by simp [bin]; rfl
theorem bin_and (t : TypeId) (k : IntKind) (a b : Int) : bin P .and t (.int k a) (.int k b) = .val (.int k (k.wrap (bitsN .and k a b))) := by simp [bin]
theorem bin_or (t : TypeId) (k : IntKind) (a b : Int) : bin P .or t (.int k a) (.int k b) = .val (.int k (k.wrap (bitsN .or k a b))) := by simp [bin]
theorem bin_xor (t : TypeId) (k : IntKind) (a b : Int) : bin P .xor t (.int k a) (.int k b) = .val (.int k (k.wrap (bitsN .xor k a b))) := by simp [bin]
theorem bin_andNot (t : TypeId) (k : IntKind) (a b : Int) : bin P .andNot t (.int k a) (.int k b) = .val (.int k (k.wrap (bitsN .andNot k a b))) := by simp [bin]
theorem bin_shl (t : TypeId) (k q : IntKind) (a b : Int) : bin P .shl t (.int k a) (.int q b) = .need (0 ≤ b) (.int k (k.wrap (a * 2 ^ (min b.toNat k.bits)))) := by simp [bin]
theorem bin_shr (t : TypeId) (k q : IntKind) (a b : Int) : bin P .shr t (.int k a) (.int q b) = .need (0 ≤ b) (.int k (a.fdiv (2 ^ (min b.toNat k.bits)))) := by simp [bin]
theorem bin_eqls (t : TypeId) (a b : ByteArray) : bin P .eql t (.string a) (.string b) = .val (.bool (a == b)) := rfl
theorem bin_neqs (t : TypeId) (a b : ByteArray) : bin P .neq t (.string a) (.string b) = .val (.bool (a != b)) := rfl
def eqK (n : Bool) : Option Bool → Res
 | some b => .val (.bool (if n then !b else b))
 | none => .leaf
theorem eqK_f (b : Bool) : eqK false (some b) = .val (.bool b) := rfl
theorem eqK_t (b : Bool) : eqK true (some b) = .val (.bool (!b)) := rfl
theorem bin_eqlp (t : TypeId) (a : Option Addr) (y : Value) : bin P .eql t (.pointer a) y = eqK false (eqx P 10000 t (.pointer a) y) := by
 simp only [bin]; cases eqx P 10000 t (.pointer a) y <;> rfl
theorem bin_neqp (t : TypeId) (a : Option Addr) (y : Value) : bin P .neq t (.pointer a) y = eqK true (eqx P 10000 t (.pointer a) y) := by
 simp only [bin]; cases eqx P 10000 t (.pointer a) y <;> rfl
theorem bin_eqlf (t : TypeId) (f : Fn) (a b : Array Value) (y : Value) : bin P .eql t (.func f a b) y = eqK false (eqx P 10000 t (.func f a b) y) := by
 simp only [bin]; cases eqx P 10000 t (.func f a b) y <;> rfl
theorem bin_eqln (t : TypeId) (y : Value) : bin P .eql t .nilFunc y = eqK false (eqx P 10000 t .nilFunc y) := by
 simp only [bin]; cases eqx P 10000 t .nilFunc y <;> rfl
theorem bin_eqlb (t : TypeId) (a : Bool) (y : Value) : bin P .eql t (.bool a) y = eqK false (eqx P 10000 t (.bool a) y) := by
 simp only [bin]; cases eqx P 10000 t (.bool a) y <;> rfl
theorem bin_neqb (t : TypeId) (a : Bool) (y : Value) : bin P .neq t (.bool a) y = eqK true (eqx P 10000 t (.bool a) y) := by
 simp only [bin]; cases eqx P 10000 t (.bool a) y <;> rfl
theorem bin_eqla (t : TypeId) (a : Array Value) (y : Value) : bin P .eql t (.agg a) y = eqK false (eqx P 10000 t (.agg a) y) := by
 simp only [bin]; cases eqx P 10000 t (.agg a) y <;> rfl
theorem bin_neqa (t : TypeId) (a : Array Value) (y : Value) : bin P .neq t (.agg a) y = eqK true (eqx P 10000 t (.agg a) y) := by
 simp only [bin]; cases eqx P 10000 t (.agg a) y <;> rfl
def eqT (P : Program) (d : Nat) (x y : Value) : Option TI → Option Bool
 | none => none
 | some ti =>
  match ti.kd, x, y with
  | .it _, .int k a, .int k' b => if k = k' then some (a == b) else none
  | .bo, .bool a, .bool b => some (a == b)
  | .str, .string a, .string b => some (a == b)
  | .pt, .pointer none, .pointer b => some b.isNone
  | .pt, .pointer (some _), .pointer none => some false
  | .fu, .nilFunc, .nilFunc => some true
  | .fu, .func _ _ _, .nilFunc => some false
  | .fu, .nilFunc, .func _ _ _ => some false
  | .ifc, .iface _ _, .nilIface => some false
  | .ifc, .nilIface, .iface _ _ => some false
  | .st fs true, .agg xs, .agg ys => eqx.eqs P fs d xs.toList ys.toList
  | _, _, _ => none
theorem eqx_T (d : Nat) (t : TypeId) (x y : Value) : eqx P (d + 1) t x y = eqT P d x y (tiof P t) := by
 simp only [eqx]
 cases tiof P t with
 | none => rfl
 | some ti => rfl
theorem eqT_int (d n : Nat) (ag : Bool) (z : List Value) (q k : IntKind) (a b : Int) : eqT P d (.int k a) (.int k b) (some ⟨n, ag, z, .it q⟩) = some (decide (a = b)) := by simp [eqT]; rfl
theorem eqT_bool (d n : Nat) (ag : Bool) (z : List Value) (a b : Bool) : eqT P d (.bool a) (.bool b) (some ⟨n, ag, z, .bo⟩) = some (a == b) := rfl
theorem eqT_str (d n : Nat) (ag : Bool) (z : List Value) (a b : ByteArray) : eqT P d (.string a) (.string b) (some ⟨n, ag, z, .str⟩) = some (a == b) := rfl
theorem eqT_pn (d n : Nat) (ag : Bool) (z : List Value) (b : Option Addr) : eqT P d (.pointer none) (.pointer b) (some ⟨n, ag, z, .pt⟩) = some b.isNone := rfl
theorem eqT_ps (d n : Nat) (ag : Bool) (z : List Value) (a : Addr) : eqT P d (.pointer (some a)) (.pointer none) (some ⟨n, ag, z, .pt⟩) = some false := rfl
theorem eqT_nn (d n : Nat) (ag : Bool) (z : List Value) : eqT P d .nilFunc .nilFunc (some ⟨n, ag, z, .fu⟩) = some true := rfl
theorem eqT_fn (d n : Nat) (ag : Bool) (z : List Value) (f : Fn) (a b : Array Value) : eqT P d (.func f a b) .nilFunc (some ⟨n, ag, z, .fu⟩) = some false := rfl
theorem eqT_st (d n : Nat) (ag : Bool) (z : List Value) (fs : List (Nat × Nat × TypeId)) (xs ys : List Value) : eqT P d (.agg xs.toArray) (.agg ys.toArray) (some ⟨n, ag, z, .st fs true⟩) = eqx.eqs P fs d xs ys := rfl
def eqP (P : Program) (d : Nat) (t : TypeId) (r : List (Nat × Nat × TypeId)) (xs ys : List Value) : Option Value → Option Value → Option Bool
 | some u, some v => match eqx P d t u v with
   | some b => (eqx.eqs P r d xs ys).map (b && ·)
   | none => none
 | _, _ => none
def eqQ (b : Option Bool) (c : Option Bool) : Option Bool := match b with | some b => c.map (b && ·) | none => none
theorem eqQ_some (b c : Bool) : eqQ (some b) (some c) = some (b && c) := rfl
theorem eqs_nil (d : Nat) (xs ys : List Value) : eqx.eqs P [] d xs ys = some true := by simp [eqx.eqs]
theorem eqs_cons (o n : Nat) (t : TypeId) (r : List (Nat × Nat × TypeId)) (d : Nat) (xs ys : List Value) : eqx.eqs P ((o, n, t) :: r) d xs ys = eqP P d t r xs ys (partx P t xs o) (partx P t ys o) := by
 simp only [eqx.eqs, eqP]; cases partx P t xs o <;> cases partx P t ys o <;> rfl
theorem eqP_some (d : Nat) (t : TypeId) (r : List (Nat × Nat × TypeId)) (xs ys : List Value) (u v : Value) : eqP P d t r xs ys (some u) (some v) = eqQ (eqx P d t u v) (eqx.eqs P r d xs ys) := by
 simp only [eqP, eqQ]; try (cases eqx P d t u v <;> rfl)
def partT (xs : List Value) (off : Nat) : Option TI → Option Value
 | some ti => if ti.ag = true then some (.agg ((xs.drop off).take ti.sz).toArray) else xs[off]?
 | none => none
theorem partx_T (t : TypeId) (xs : List Value) (off : Nat) : partx P t xs off = partT xs off (tiof P t) := by
 simp only [partx, partT]; cases tiof P t <;> rfl
theorem partT_t (xs : List Value) (off n : Nat) (z : List Value) (kd : TK) : partT xs off (some ⟨n, true, z, kd⟩) = some (.agg ((xs.drop off).take n).toArray) := rfl
theorem partT_f (xs : List Value) (off n : Nat) (z : List Value) (kd : TK) : partT xs off (some ⟨n, false, z, kd⟩) = xs[off]? := rfl
def unV (op : UnOp) (v : Value) : Res := match op, v with
 | .not, .bool b => .val (.bool (!b))
 | .neg, .int k n => .val (.int k (k.wrap (0 - n)))
 | _, _ => .leaf
theorem opx_un (op : UnOp) (t : TypeId) (x : Operand) : opx P β (.unOp op t x) fr hp = unV op (evx fr x) := rfl
theorem unV_not (b : Bool) : unV .not (.bool b) = .val (.bool (!b)) := rfl
theorem unV_neg (k : IntKind) (n : Int) : unV .neg (.int k n) = .val (.int k (k.wrap (0 - n))) := rfl
def extrV (i : Nat) : Value → Res
 | .tuple vs => ofO vs.toList[i]?
 | _ => .leaf
theorem extrV_t (i : Nat) (vs : List Value) : extrV i (.tuple vs.toArray) = ofO vs[i]? := rfl
theorem opx_extract (x : Operand) (i : Nat) : opx P β (.extract x i) fr hp = extrV i (evx fr x) := by
 simp only [opx, extrV]; split
 ·simp only [ofO]; rename_i vs h; rw [h]; simp only; cases vs.toList[i]? <;> rfl
 ·rename_i h; split
  ·rename_i vs h2; exact absurd h2 (h vs)
  ·rfl
def buildR : Option (List Value) → Res
 | some l => .val (.agg l.toArray)
 | none => .leaf
theorem buildR_some (l : List Value) : buildR (some l) = .val (.agg l.toArray) := rfl
def buildT (qs : List (Nat × Value)) : Option TI → Res
 | some ⟨_, _, z, .st fs _⟩ => buildR (fillx (fun i => (fs[i]?).map fun f => (f.1, f.2.1)) z qs)
 | some ⟨_, _, z, .ar _ e _⟩ => buildR (fillx (fun i => some (i * e, e)) z qs)
 | _ => .leaf
theorem buildT_st (qs : List (Nat × Value)) (n : Nat) (b : Bool) (z : List Value) (fs : List (Nat × Nat × TypeId)) (c : Bool) : buildT qs (some ⟨n, b, z, .st fs c⟩) = buildR (fillx (fun i => (fs[i]?).map fun f => (f.1, f.2.1)) z qs) := rfl
theorem buildT_ar (qs : List (Nat × Value)) (n : Nat) (b : Bool) (z : List Value) (m e : Nat) (t : TypeId) : buildT qs (some ⟨n, b, z, .ar m e t⟩) = buildR (fillx (fun i => some (i * e, e)) z qs) := rfl
theorem opx_build (t : TypeId) (ps : List (Nat × Operand)) : opx P β (.build t ps.toArray) fr hp = buildT (ps.map fun q => (q.1, evx fr q.2)) (tiof P t) := by
 simp only [opx, buildT, buildR]
 cases tiof P t with
 | none => rfl
 | some ti => obtain ⟨a, b, c, kd⟩ := ti; cases kd <;> rfl
theorem fillx_nil (p : Nat → Option (Nat × Nat)) (cs : List Value) : fillx p cs [] = some cs := rfl
def fillS (p : Nat → Option (Nat × Nat)) (cs vs : List Value) (r : List (Nat × Value)) : Option (Nat × Nat) → Option (List Value)
 | none => none
 | some (off, size) => if vs.length ≠ size ∨ off + vs.length > cs.length then none else fillx p (splice cs off vs) r
theorem fillx_cons (p : Nat → Option (Nat × Nat)) (cs : List Value) (i : Nat) (v : Value) (r : List (Nat × Value)) : fillx p cs ((i, v) :: r) = fillS p cs (cellsV v) r (p i) := by
 simp only [fillx, fillS, cellsV]; cases p i <;> simp
theorem fillS_some (p : Nat → Option (Nat × Nat)) (cs vs : List Value) (r : List (Nat × Value)) (o n : Nat) : fillS p cs vs r (some (o, n)) =
  if vs.length = n ∧ o + vs.length ≤ cs.length then fillx p (splice cs o vs) r else none := by
 simp only [fillS]; by_cases h : vs.length = n ∧ o + vs.length ≤ cs.length
 ·rw [if_pos h, if_neg (by omega)]
 ·rw [if_neg h, if_pos (by omega)]
theorem splice_0 (x : Value) (l : List Value) (v : Value) (vs : List Value) : splice (x :: l) 0 (v :: vs) = v :: splice l 0 vs := rfl
theorem splice_z (l : List Value) : splice l 0 [] = l := by simp [splice]
theorem splice_s (x : Value) (l : List Value) (n : Nat) (vs : List Value) : splice (x :: l) (n + 1) vs = x :: splice l n vs := by
 simp [splice, Nat.add_right_comm]
def bslT (β : Nat → Nat) (hp : List HE) (v : Value) (P : Program) (n m : Nat) : Option TI → Res
 | some ⟨_, _, _, .sl e et⟩ => if n = 1 ∧ m = 0 then .mem (e ≠ 0 ∧ e ≤ 16777216 ∧ v.cells.size = e ∧ (tiof P et).isSome = true) (.slice (some ⟨β hp.length, 0, none⟩) 1 1) (hp ++ [.c 2 (cellsV v) et]) else .leaf
 | _ => .leaf
theorem bslT_sl (v : Value) (n : Nat) (b : Bool) (z : List Value) (e : Nat) (et : TypeId) : bslT β hp v P 1 0 (some ⟨n, b, z, .sl e et⟩) =
 .mem (e ≠ 0 ∧ e ≤ 16777216 ∧ (cellsV v).length = e ∧ (tiof P et).isSome = true) (.slice (some ⟨β hp.length, 0, none⟩) 1 1) (hp ++ [.c 2 (cellsV v) et]) := rfl
theorem opx_bsl (t : TypeId) (n m : Nat) (x : Operand) : opx P β (.buildSlice t n [(m, x)].toArray) fr hp = bslT β hp (evx fr x) P n m (tiof P t) := by
 simp only [opx, bslT]; cases tiof P t with
 | none => rfl
 | some ti => obtain ⟨a, b, c, kd⟩ := ti; cases kd <;> rfl
theorem opx_makeFunc (fn : Fn) (a b : List Operand) : opx P β (.makeFunc fn a.toArray b.toArray) fr hp = .val (.func fn (a.map (evx fr)).toArray (b.map (evx fr)).toArray) := rfl
def mkiT (t : TypeId) (v : Value) : Option TI → Res
 | some ⟨_, _, _, .it _⟩ => .val (.iface t v)
 | _ => .leaf
theorem mkiT_it (t : TypeId) (v : Value) (n : Nat) (b : Bool) (z : List Value) (k : IntKind) : mkiT t v (some ⟨n, b, z, .it k⟩) = .val (.iface t v) := rfl
theorem opx_makeInterface (t : TypeId) (x : Operand) : opx P β (.makeInterface t x) fr hp = mkiT t (evx fr x) (tiof P t) := by
 simp only [opx, mkiT]; cases tiof P t with
 | none => rfl
 | some ti => obtain ⟨a, b, c, kd⟩ := ti; cases kd <;> rfl
def idxT (n : Int) (x : Value) : Option TI → Res
 | some ti => match ti.kd, x with
   | .sl e _, .slice (some ⟨b, off, sp⟩) len _ => .need (0 ≤ n ∧ n < len) (.pointer (some (Addr.add ⟨b, off, sp⟩ (n.toNat * e))))
   | .ar len e _, .pointer (some ⟨b, off, sp⟩) => .need (0 ≤ n ∧ n < len) (.pointer (some (Addr.add ⟨b, off, sp⟩ (n.toNat * e))))
   | _, _ => .leaf
 | none => .leaf
def idxV (P : Program) (t : TypeId) (x : Value) : Value → Res
 | .int _ n => idxT n x (tiof P t)
 | _ => .leaf
theorem idxV_int (t : TypeId) (x : Value) (k : IntKind) (n : Int) : idxV P t x (.int k n) = idxT n x (tiof P t) := rfl
theorem idxT_sl (n : Int) (b off len cap m : Nat) (ag : Bool) (z : List Value) (e : Nat) (et : TypeId) : idxT n (.slice (some ⟨b, off, none⟩) len cap) (some ⟨m, ag, z, .sl e et⟩) =
 .need (0 ≤ n ∧ n < len) (.pointer (some ⟨b, off + n.toNat * e, none⟩)) := by simp only [idxT, add_none]
theorem idxT_ar (n : Int) (b off m : Nat) (ag : Bool) (z : List Value) (len e : Nat) (et : TypeId) : idxT n (.pointer (some ⟨b, off, none⟩)) (some ⟨m, ag, z, .ar len e et⟩) =
 .need (0 ≤ n ∧ n < len) (.pointer (some ⟨b, off + n.toNat * e, none⟩)) := by simp only [idxT, add_none]
theorem opx_indexAddr (t : TypeId) (x i : Operand) : opx P β (.indexAddr t x i) fr hp = idxV P t (evx fr x) (evx fr i) := by
 simp only [opx, idxV, idxT]
 cases evx fr i <;> first | rfl | skip
 cases tiof P t with
 | none => rfl
 | some ti =>
   obtain ⟨a, b, c, kd⟩ := ti
   cases kd <;> cases evx fr x <;> first | rfl | (rename_i q; cases q <;> rfl) | (rename_i q _ _; cases q <;> rfl)
def iofO (n : Int) (len : Nat) : Option Value → Res
 | some v => .need (0 ≤ n ∧ n < len) v
 | none => .leaf
theorem iofO_some (n : Int) (len : Nat) (v : Value) : iofO n len (some v) = .need (0 ≤ n ∧ n < len) v := rfl
noncomputable def inxT (P : Program) (n : Int) (x : Value) : Option TI → Res
 | some ti => inxK P n ti.kd x
 | none => .leaf
theorem inxT_ar (n : Int) (l : List Value) (m : Nat) (b : Bool) (z : List Value) (len e : Nat) (et : TypeId) : inxT P n (.agg l.toArray) (some ⟨m, b, z, .ar len e et⟩) = iofO n len (partx P et l (n.toNat * e)) := by
 simp only [inxT, inxK, inxA]; cases partx P et l (n.toNat * e) <;> rfl
theorem inxT_str (n : Int) (s : ByteArray) (m : Nat) (b : Bool) (z : List Value) : inxT P n (.string s) (some ⟨m, b, z, .str⟩) = .need (0 ≤ n ∧ n < s.size) (.int .u8 (s.data.toList.getD n.toNat 0).toNat) := rfl
noncomputable def inxV (P : Program) (t : TypeId) (x : Value) : Value → Res
 | .int _ n => inxT P n x (tiof P t)
 | _ => .leaf
theorem inxV_int (t : TypeId) (x : Value) (k : IntKind) (n : Int) : inxV P t x (.int k n) = inxT P n x (tiof P t) := rfl
theorem opx_index (t : TypeId) (x i : Operand) : opx P β (.index t x i) fr hp = inxV P t (evx fr x) (evx fr i) := by
 simp only [opx, inxV, inxT]
 cases evx fr i <;> first | rfl | (cases tiof P t <;> rfl)
def callV (args : List Value) : Value → Res
 | .func (.func g) a b => .call g (a.toList ++ args ++ b.toList)
 | _ => .leaf
theorem callV_f (args : List Value) (g : FuncId) (a b : List Value) : callV args (.func (.func g) a.toArray b.toArray) = .call g (a ++ args ++ b) := rfl
theorem opx_callV (f : Operand) (xs : List Operand) (ts : Array TypeId) : opx P β (.call { callee := .value f, args := xs.toArray, argTypes := ts }) fr hp = callV (xs.map (evx fr)) (evx fr f) := rfl
def lenT (n : Int) : Option TI → Res
 | some ⟨_, _, _, .sl _ _⟩ => .val (.int .i64 n)
 | _ => .leaf
def lenS (n : Int) : Option TI → Res
 | some ⟨_, _, _, .str⟩ => .val (.int .i64 n)
 | _ => .leaf
theorem lenT_sl (n : Int) (m : Nat) (b : Bool) (z : List Value) (e et : Nat) : lenT n (some ⟨m, b, z, .sl e et⟩) = .val (.int .i64 n) := rfl
theorem lenS_str (n : Int) (m : Nat) (b : Bool) (z : List Value) : lenS n (some ⟨m, b, z, .str⟩) = .val (.int .i64 n) := rfl
def lenV (P : Program) (t : TypeId) : Value → Res
 | .slice _ n _ => lenT n (tiof P t)
 | .string b => lenS b.size (tiof P t)
 | _ => .leaf
theorem lenV_sl (t : TypeId) (a : Option Addr) (n c : Nat) : lenV P t (.slice a n c) = lenT n (tiof P t) := rfl
theorem lenV_str (t : TypeId) (b : ByteArray) : lenV P t (.string b) = lenS b.size (tiof P t) := rfl
theorem opx_len (x : Operand) (t : TypeId) : opx P β (.call { callee := .builtin .len, args := [x].toArray, argTypes := [t].toArray }) fr hp = lenV P t (evx fr x) := by
 simp only [opx, lenV, lenT, lenS, List.map_cons, List.map_nil]
 cases evx fr x <;> first | rfl | skip
 all_goals (cases tiof P t with
  | none => rfl
  | some ti => obtain ⟨a, b, c, kd⟩ := ti; cases kd <;> rfl)
def cvT (v : Value) (s : Option TI) : Option TI → Res
 | d => match v, d, s with
   | .int _ n, some ⟨_, _, _, .it k⟩, some _ => .val (.int k (k.wrap n))
   | .string b, some ⟨_, _, _, .str⟩, some _ => .val (.string b)
   | _, _, _ => .leaf
theorem opx_convert (s d : TypeId) (x : Operand) : opx P β (.convert s d x) fr hp = cvT (evx fr x) (tiof P s) (tiof P d) := rfl
theorem cvT_int (k q : IntKind) (n : Int) (ti : TI) (m : Nat) (b : Bool) (z : List Value) : cvT (.int q n) (some ti) (some ⟨m, b, z, .it k⟩) = .val (.int k (k.wrap n)) := rfl
theorem cvT_str (c : ByteArray) (ti : TI) (m : Nat) (b : Bool) (z : List Value) : cvT (.string c) (some ti) (some ⟨m, b, z, .str⟩) = .val (.string c) := rfl
def resT (off : Nat) (l : List Value) (r : Option (List Value)) : Option TI → Option (List Value)
 | some ti => if ti.ag = true then (if off + ti.sz ≤ l.length then r.map (.agg ((l.drop off).take ti.sz).toArray :: ·) else none) else match l[off]? with
   | some v => r.map (v :: ·)
   | none => none
 | none => none
def resB (P : Program) (t : TypeId) (off : Nat) (r : Option (List Value)) : Option HE → Option (List Value)
 | some (.c _ l _) => resT off l r (tiof P t)
 | _ => none
noncomputable def resV (P : Program) (β : Nat → Nat) (t : TypeId) (hp : List HE) (r : Option (List Value)) : Value → Option (List Value)
 | .pointer (some ⟨b, off, none⟩) => resB P t off r (lk β b hp)
 | _ => none
theorem resx_nil : resx P β [] fr hp = some [] := rfl
theorem resx_tmp (t : Tmp) (r : List ResultVar) : resx P β (.tmp t :: r) fr hp = (resx P β r fr hp).map (fr.getD t undef :: ·) := rfl
theorem resx_cell (a : Tmp) (t : TypeId) (r : List ResultVar) : resx P β (.cell a t :: r) fr hp = resV P β t hp (resx P β r fr hp) (fr.getD a undef) := rfl
theorem resV_p (t : TypeId) (r : Option (List Value)) (b off : Nat) : resV P β t hp r (.pointer (some ⟨b, off, none⟩)) = resB P t off r (lk β b hp) := rfl
theorem resB_c (t : TypeId) (off k : Nat) (r : Option (List Value)) (l : List Value) (ty : TypeId) : resB P t off r (some (.c k l ty)) = resT off l r (tiof P t) := rfl
theorem resT_t (off n : Nat) (l z : List Value) (r : Option (List Value)) (kd : TK) : resT off l r (some ⟨n, true, z, kd⟩) = if off + n ≤ l.length then r.map (.agg ((l.drop off).take n).toArray :: ·) else none := rfl
def consO (v : Option Value) (r : Option (List Value)) : Option (List Value) := match v with | some v => r.map (v :: ·) | none => none
theorem consO_some (v : Value) (r : List Value) : consO (some v) (some r) = some (v :: r) := rfl
theorem resT_f (off n : Nat) (l z : List Value) (r : Option (List Value)) (kd : TK) : resT off l r (some ⟨n, false, z, kd⟩) = consO l[off]? r := by
 simp only [resT, consO]; cases l[off]? <;> rfl
theorem RetX_some (l : List Value) : RetX C β hp (some l) = ∀ w, HOk C.w0 β hp w → C.R (.returned (tupx l)) w := rfl
end Go.Gx
namespace Go.Gx
open Go.RowKit
section
variable {P : Program} {ops : Array Oper} {md : Region.Mode} {Q : Exit → Act → World → Prop}
def reachB (md : Region.Mode) (ops : Array Oper) : Nat → Nat → Nat → Bool
 | 0, _, _ => false
 | d + 1, c, i => Region.waitsFor md ops c i || (List.range ops.size).any fun j => Region.waitsFor md ops c j && reachB md ops d j i
def cutB (md : Region.Mode) (ops : Array Oper) (c : Nat) : Bool :=
 (List.range ops.size).all fun i => if i < c then reachB md ops ops.size c i else if c < i then reachB md ops ops.size i c else true
structure Closed (md : Region.Mode) (ops : Array Oper) (listed : Array Bool) : Prop where
 size : listed.size = ops.size
 closed : ∀ (j : Nat) (oj : Oper), ops[j]? = some oj → listed.getD j false = true → ∀ e ∈ oj.after, Region.binds md e = true → listed.getD e.on false = true
theorem Closed.set {listed : Array Bool} (inv : Closed md ops listed) {i : Nat} (hi : i ∈ Region.ready md ops listed) : Closed md ops (listed.setIfInBounds i true) := by
 obtain ⟨_, oi, hoi, hall⟩ := mem_ready.1 hi
 refine ⟨by simp [inv.size], fun j oj hj hl e he hb => ?_⟩
 by_cases hij : i = j
 ·subst hij
  have : oj = oi := Option.some.inj (hj.symm.trans hoi)
  subst this
  exact getD_set_true (hall e he hb)
 ·rw [getD_set_ne false hij] at hl
  exact getD_set_true (inv.closed j oj hj hl e he hb)
theorem reach_listed {listed : Array Bool} (inv : Closed md ops listed) : ∀ (d c i : Nat), reachB md ops d c i = true →
  (∀ oc, ops[c]? = some oc → ∀ e ∈ oc.after, Region.binds md e = true → listed.getD e.on false = true) → listed.getD i false = true
 | 0, _, _, h, _ => by simp [reachB] at h
 | d + 1, c, i, h, hc => by
   simp only [reachB, Bool.or_eq_true] at h
   rcases h with h | h
   ·obtain ⟨oc, hoc, e, he, hb, hon⟩ := Region.waitsFor_spec h
    rw [← hon]; exact hc oc hoc e he hb
   ·obtain ⟨j, _, hj⟩ := List.any_eq_true.1 h
    simp only [Bool.and_eq_true] at hj
    obtain ⟨oc, hoc, e, he, hb, hon⟩ := Region.waitsFor_spec hj.1
    have hl := hc oc hoc e he hb
    rw [hon] at hl
    exact reach_listed inv d j i hj.2 fun oj hoj e' he' hb' => inv.closed j oj hoj hl e' he' hb'
theorem cut_alone {listed : Array Bool} (inv : Closed md ops listed) {c i : Nat} (hc : cutB md ops c = true) (hr : c ∈ Region.ready md ops listed) (hi : i ∈ Region.ready md ops listed) : i = c := by
 obtain ⟨hcu, oc, hoc, hcall⟩ := mem_ready.1 hr
 obtain ⟨hiu, oi, hoi, hiall⟩ := mem_ready.1 hi
 have hilt : i < ops.size := (Array.getElem?_eq_some_iff.1 hoi).1
 have h1 := List.all_eq_true.1 hc i (List.mem_range.2 hilt)
 by_cases h2 : i < c
 ·rw [if_pos h2] at h1
  have := reach_listed inv _ _ _ h1 fun o ho e he hb => by
   have : o = oc := Option.some.inj (ho.symm.trans hoc)
   subst this; exact hcall e he hb
  rw [getD_both hiu] at this; cases this
 ·by_cases h3 : c < i
  ·rw [if_neg h2, if_pos h3] at h1
   have := reach_listed inv _ _ _ h1 fun o ho e he hb => by
    have : o = oi := Option.some.inj (ho.symm.trans hoi)
    subst this; exact hiall e he hb
   rw [getD_both hcu] at this; cases this
  ·omega
def Stab (Cl : World → Prop) : Prop := ∀ w w', Cl w → Below w.heap.size w w' → Cl w'
def YieldsS (P : Program) (ops : Array Oper) (Cl : World → Prop) (o : Oper) (v : Value) (a : Act) : Prop :=
 (Region.wanted o (yielded ops a.tmps) = true ∧ ∀ w, Cl w → o.quietAt P a (fun w' => Below w.heap.size w w') w v) ∨
 (Region.wanted o (yielded ops a.tmps) = false ∧ v = undef)
theorem quietAt_mono {o : Oper} {a : Act} {A B : World → Prop} {w : World} {v : Value} (h : ∀ w', A w' → B w') (hq : o.quietAt P a A w v) : o.quietAt P a B w v := by
 unfold Oper.quietAt at *
 generalize (execOp a.eval o).run P w = r at *
 cases r with
 | halt x w' => simp only [Oper.quietUpon] at hq
 | ok n w' =>
   cases n <;> simp only [Oper.quietUpon] at hq ⊢
   case value u => exact hq
   case skip => exact hq
   case enter f args => exact ⟨hq.1, hq.2.mono fun e w'' ⟨h1, h2⟩ => ⟨h1, h _ h2⟩⟩
theorem YieldsS.yin {Cl : World → Prop} {o : Oper} {v : Value} {a : Act} (hs : Stab Cl) (h : YieldsS P ops Cl o v a) : YieldsIn P ops Cl o v a := by
 rcases h with ⟨h1, h2⟩ | h
 ·exact .inl ⟨h1, fun w hw => quietAt_mono (fun w' hb => hs w w' hw hb) (h2 w hw)⟩
 ·exact .inr h
theorem YieldsS.less {Cl Cl' : World → Prop} {o : Oper} {v : Value} {a : Act} (hs : ∀ w, Cl' w → Cl w) (h : YieldsS P ops Cl o v a) : YieldsS P ops Cl' o v a := by
 rcases h with ⟨h1, h2⟩ | h
 ·exact .inl ⟨h1, fun w hw => h2 w (hs w hw)⟩
 ·exact .inr h
theorem YieldsS.of_same {Cl : World → Prop} {o : Oper} {v : Value} {a a' : Act} (hy : YieldsS P ops Cl o v a) (he : execOp a'.eval o = execOp a.eval o)
  (hw : Region.wanted o (yielded ops a'.tmps) = Region.wanted o (yielded ops a.tmps)) : YieldsS P ops Cl o v a' := by
 unfold YieldsS Oper.quietAt at *
 rw [he, hw]
 exact hy
theorem YieldsS.put {Cl : World → Prop} {oi oj : Oper} {v u : Value} {a : Act} (hap : oi.apart ops oj = true) (hsi : ∀ cs b, oi.op ≠ .select cs b) (hy : YieldsS P ops Cl oi v a) : YieldsS P ops Cl oi v (a.put oj.dst u) := by
 obtain ⟨_, _, h3⟩ := Oper.apart_spec hap
 exact hy.of_same (execOp_put oi hsi a oj.dst u h3) (wanted_put oi a oj.dst u h3)
def softB (ops : Array Oper) (i : Nat) : Bool := match ops[i]? with
 | some ⟨_, .alloc _, _, _, _, none⟩ => true
 | _ => false
theorem softB_spec {i : Nat} {o : Oper} (h : softB ops i = true) (ho : ops[i]? = some o) : o.guard = none ∧ ∃ t, o.op = .alloc t := by
 obtain ⟨d, op, ty, pos, aft, g⟩ := o
 simp only [softB, ho] at h
 cases op <;> cases g <;> simp at h ⊢
def softOp (P : Program) (ops : Array Oper) (Cl : World → Prop) (i : Nat) (K : (World → Prop) → Act → Prop) (a : Act) : Prop :=
 ∃ o, ops[i]? = some o ∧ o.guard = none ∧ ∀ w, Cl w → ∃ u w' Cl', (execOp a.eval o).run P w = .ok (.value u) w' ∧ Stab Cl' ∧ (∀ w, Cl' w → Cl w) ∧ Cl' w' ∧ K Cl' (a.put o.dst u)
def lateB (ops : Array Oper) (i : Nat) : Bool := match ops[i]? with
 | some ⟨_, .store _ _ _, _, _, _, none⟩ => true
 | _ => false
theorem lateB_spec {i : Nat} {o : Oper} (h : lateB ops i = true) (ho : ops[i]? = some o) : o.guard = none ∧ ∃ t a x, o.op = .store t a x := by
 obtain ⟨d, op, ty, pos, aft, g⟩ := o
 simp only [lateB, ho] at h
 cases op <;> cases g <;> simp at h ⊢
def stillB (o : Oper) : Bool := match o.op with
 | .extract _ _ => true
 | .move _ => true
 | .assign _ => true
 | _ => false
def lateOp (P : Program) (ops : Array Oper) (Cl : World → Prop) (i : Nat) (K : (World → Prop) → Act → Prop) (a : Act) : Prop :=
 ∃ o, ops[i]? = some o ∧ o.guard = none ∧ ∀ w, Cl w → ∃ w' Cl', (execOp a.eval o).run P w = .ok .skip w' ∧ Stab Cl' ∧ Cl' w' ∧ K Cl' (a.put o.dst undef)
def wpAnyM (P : Program) (md : Region.Mode) (ops : Array Oper) (Q : Exit → Act → World → Prop) (cuts : List Nat) : Nat → Array Bool → (World → Prop) → Act → Prop
 | 0, listed, Cl, a => Region.ready md ops listed = [] ∧ ∀ w, Cl w → Q .normal a w
 | fuel + 1, listed, Cl, a =>
   (Region.ready md ops listed = [] → ∀ w, Cl w → Q .normal a w) ∧
   ∀ i ∈ Region.ready md ops listed, if cuts.contains i = true then ∀ w, Cl w → wpOp P ops Q i (fun a' w' => ∃ Cl' : World → Prop, Stab Cl' ∧ Cl' w' ∧ wpAnyM P md ops Q cuts fuel (listed.setIfInBounds i true) Cl' a') a w
     else if softB ops i = true then softOp P ops Cl i (fun Cl' a' => wpAnyM P md ops Q cuts fuel (listed.setIfInBounds i true) Cl' a') a
     else if lateB ops i = true then lateOp P ops Cl i (fun Cl' a' => wpAnyM P md ops Q cuts fuel (listed.setIfInBounds i true) Cl' a') a
     else qOp P ops Cl i (wpAnyM P md ops Q cuts fuel (listed.setIfInBounds i true) Cl) a
theorem wpAny_of_mix {cuts : List Nat} : ∀ (fuel : Nat) (listed : Array Bool) (Cl : World → Prop) (a : Act) (w : World), Cl w → wpAnyM P md ops Q cuts fuel listed Cl a → wpAny P md ops Q fuel listed a w
 | 0, _, _, _, _, hw, h => ⟨h.1, h.2 _ hw⟩
 | fuel + 1, listed, Cl, a, w, hw, h => by
   refine ⟨fun h0 => h.1 h0 w hw, fun i hi => ?_⟩
   have := h.2 i hi
   split at this
   ·exact wpOp_mono (fun a' w' ⟨Cl', _, h1, h2⟩ => wpAny_of_mix fuel _ Cl' a' w' h1 h2) (this w hw)
   ·split at this
    ·obtain ⟨o, ho, hg, hsoft⟩ := this
     obtain ⟨u, w', Cl', hr, _, _, h1, h2⟩ := hsoft w hw
     unfold wpOp
     simp only [ho]
     rw [if_pos (wanted_none hg _)]
     refine .inl ?_
     unfold Oper.wp
     rw [hr]
     exact wpAny_of_mix fuel _ Cl' _ w' h1 h2
    split at this
    ·obtain ⟨o, ho, hg, hlate⟩ := this
     obtain ⟨w', Cl', hr, _, h1, h2⟩ := hlate w hw
     unfold wpOp
     simp only [ho]
     rw [if_pos (wanted_none hg _)]
     refine .inl ?_
     unfold Oper.wp
     rw [hr]
     exact wpAny_of_mix fuel _ Cl' _ w' h1 h2
    ·exact wpOp_of_qOp hw (fun a' w' hw' h2 => wpAny_of_mix fuel _ Cl a' w' hw' h2) this
theorem wpAnyM_first {cuts : List Nat} {i : Nat} {oi : Oper} {v : Value} (hcut : ∀ c, cuts.contains c = true → cutB md ops c = true) (hq : cuts.contains i = false) (hqs : softB ops i = false) (hql : lateB ops i = false) (hi : ops[i]? = some oi)
  (hsel : ∀ (j : Nat) (o : Oper) cs b, ops[j]? = some o → o.op ≠ .select cs b) :
  ∀ (fuel : Nat) (listed : Array Bool) (Cl : World → Prop) (a : Act), Stab Cl → Closed md ops listed →
    (∀ j oj, ops[j]? = some oj → j ≠ i → listed.getD j true = false → (∀ e ∈ oj.after, Region.binds md e = true → e.on ≠ i) → oi.apart ops oj = true) →
    i ∈ Region.ready md ops listed → YieldsS P ops Cl oi v a → (YieldsS P ops (fun _ => True) oi v a ∨ ∀ j, lateB ops j = true → cuts.contains j = false → reachB md ops ops.size j i = true) →
    wpAnyM P md ops Q cuts fuel (listed.setIfInBounds i true) Cl (a.put oi.dst v) → wpAnyM P md ops Q cuts (fuel + 1) listed Cl a := by
 have hne : ∀ {listed : Array Bool}, Closed md ops listed → i ∈ Region.ready md ops listed → ∀ j ∈ Region.ready md ops listed, cuts.contains j = false := by
  intro listed inv hr j hj
  cases hc : cuts.contains j with
  | false => rfl
  | true =>
    have := cut_alone inv (hcut j hc) hj hr
    subst this
    rw [hq] at hc; cases hc
 intro fuel
 induction fuel with
 | zero =>
   intro listed Cl a hst inv _ hr hy _ H
   refine ⟨fun h => (by rw [h] at hr; cases hr), fun j hj => ?_⟩
   rw [if_neg (by rw [hne inv hr j hj]; exact Bool.false_ne_true)]
   by_cases hji : j = i
   ·subst hji; rw [if_neg (by rw [hqs]; exact Bool.false_ne_true), if_neg (by rw [hql]; exact Bool.false_ne_true)]; exact (hy.yin hst).qOp hi H
   ·have := ready_mono hj hji
    rw [H.1] at this
    cases this
 | succ fuel ih =>
   intro listed Cl a hst inv hfree hr hy hlt H
   refine ⟨fun h => (by rw [h] at hr; cases hr), fun j hj => ?_⟩
   rw [if_neg (by rw [hne inv hr j hj]; exact Bool.false_ne_true)]
   by_cases hji : j = i
   ·subst hji; rw [if_neg (by rw [hqs]; exact Bool.false_ne_true), if_neg (by rw [hql]; exact Bool.false_ne_true)]; exact (hy.yin hst).qOp hi H
   ·have hcj : cuts.contains j = false := hne inv hr j hj
    have h1 := H.2 j (ready_mono hj hji)
    rw [if_neg (by rw [hcj]; exact Bool.false_ne_true)] at h1
    obtain ⟨hjun, oj, hoj, hall⟩ := mem_ready.1 hj
    have hnot : ∀ e ∈ oj.after, Region.binds md e = true → e.on ≠ i := fun e he hb heq => by
     have h1 := hall e he hb
     have h0 := (mem_ready.1 hr).1
     rw [heq, getD_both h0] at h1
     cases h1
    have hap := hfree j oj hoj hji hjun hnot
    have hfree' : ∀ k ok, ops[k]? = some ok → k ≠ i → (listed.setIfInBounds j true).getD k true = false →
      (∀ e ∈ ok.after, Region.binds md e = true → e.on ≠ i) → oi.apart ops ok = true := fun k ok hk hki hun hno => by
     refine hfree k ok hk hki ?_ hno
     by_cases hjk : j = k
     ·subst hjk; exact hjun
     ·rw [getD_set_ne true hjk] at hun; exact hun
    by_cases hsj : softB ops j = true
    ·rw [if_pos hsj] at h1 ⊢
     obtain ⟨o, ho, hg, hsoft⟩ := h1
     have : o = oj := Option.some.inj (ho.symm.trans hoj)
     subst this
     refine ⟨o, ho, hg, fun w hw => ?_⟩
     obtain ⟨u, w', Cl', hrun, hs1, hs2, hs3, hK⟩ := hsoft w hw
     obtain ⟨hx1, hx2, hx3⟩ := Oper.apart_spec hap
     rw [execOp_put o (fun cs b => hsel j o cs b hoj) a oi.dst v hx1] at hrun
     refine ⟨u, w', Cl', hrun, hs1, hs2, hs3, ih (listed.setIfInBounds j true) Cl' (a.put o.dst u) hs1 (inv.set hj) hfree' (ready_mono hr (Ne.symm hji)) ((hy.less hs2).put hap (fun cs b => hsel i oi cs b hi)) (hlt.imp (fun h => h.put hap (fun cs b => hsel i oi cs b hi)) id) ?_⟩
     rw [Array.setIfInBounds_comm _ _ hji, ← Act.put_comm a v u hx2]
     exact hK
    by_cases hlj : lateB ops j = true
    ·rw [if_neg hsj, if_pos hlj] at h1 ⊢
     have hyT : YieldsS P ops (fun _ => True) oi v a := by
      rcases hlt with h | h
      ·exact h
      ·have h3 := reach_listed inv _ _ _ (h j hlj hcj) fun oc hoc e he hb => by
         have : oc = oj := Option.some.inj (hoc.symm.trans hoj)
         subst this; exact hall e he hb
       rw [getD_both (mem_ready.1 hr).1] at h3; cases h3
     obtain ⟨o, ho, hg, hlate⟩ := h1
     have : o = oj := Option.some.inj (ho.symm.trans hoj)
     subst this
     refine ⟨o, ho, hg, fun w hw => ?_⟩
     obtain ⟨w', Cl', hrun, hs1, hs3, hK⟩ := hlate w hw
     obtain ⟨hx1, hx2, hx3⟩ := Oper.apart_spec hap
     rw [execOp_put o (fun cs b => hsel j o cs b hoj) a oi.dst v hx1] at hrun
     have hyT' := hyT.put (u := undef) hap (fun cs b => hsel i oi cs b hi)
     refine ⟨w', Cl', hrun, hs1, hs3, ih (listed.setIfInBounds j true) Cl' (a.put o.dst undef) hs1 (inv.set hj) hfree' (ready_mono hr (Ne.symm hji)) (hyT'.less fun _ _ => trivial) (.inl hyT') ?_⟩
     rw [Array.setIfInBounds_comm _ _ hji, ← Act.put_comm a v undef hx2]
     exact hK
    ·rw [if_neg hsj, if_neg hlj] at h1 ⊢
     have h2 := qOp_put hoj hap (fun cs b => hsel i oi cs b hi) (fun cs b => hsel j oj cs b hoj) (hy.yin hst) h1
     unfold qOp at h2 ⊢
     simp only [hoj] at h2 ⊢
     have step : ∀ u, wpAnyM P md ops Q cuts fuel ((listed.setIfInBounds i true).setIfInBounds j true) Cl ((a.put oj.dst u).put oi.dst v) → wpAnyM P md ops Q cuts (fuel + 1) (listed.setIfInBounds j true) Cl (a.put oj.dst u) := fun u h3 =>
      ih (listed.setIfInBounds j true) Cl (a.put oj.dst u) hst (inv.set hj) hfree' (ready_mono hr (Ne.symm hji)) (hy.put hap (fun cs b => hsel i oi cs b hi)) (hlt.imp (fun h => h.put hap (fun cs b => hsel i oi cs b hi)) id) (by rw [Array.setIfInBounds_comm _ _ hji]; exact h3)
     split
     ·rename_i hw
      simp only [hw, if_true] at h2
      obtain ⟨u, hu, hn⟩ := h2
      exact ⟨u, hu, step u hn.2⟩
     ·rename_i hw
      simp only [hw] at h2
      exact step undef h2.2
def quietS (P : Program) (o : Oper) (a : Act) (Cl : World → Prop) (next : Act → Prop) : Prop := ∃ v, (∀ w, Cl w → o.quietAt P a (fun w' => Below w.heap.size w w') w v) ∧ next (a.put o.dst v)
def Mix (P : Program) (ops : Array Oper) (Q : Exit → Act → World → Prop) (cuts : List Nat) : List Oper → Nat → (World → Prop) → Act → Prop
 | [], _, Cl, a => ∀ w, Cl w → Q .normal a w
 | o :: rest, i, Cl, a =>
   if cuts.contains i = true then ∀ w, Cl w → (if Region.wanted o (yielded ops a.tmps) then o.wp P a w (fun a' w' => ∃ Cl' : World → Prop, Stab Cl' ∧ Cl' w' ∧ Mix P ops Q cuts rest (i + 1) Cl' a') Q
    else ∃ Cl' : World → Prop, Stab Cl' ∧ Cl' w ∧ Mix P ops Q cuts rest (i + 1) Cl' (a.put o.dst undef))
   else if softB ops i = true then softOp P ops Cl i (Mix P ops Q cuts rest (i + 1)) a
   else if lateB ops i = true then lateOp P ops Cl i (Mix P ops Q cuts rest (i + 1)) a
   else if Region.wanted o (yielded ops a.tmps) then quietS P o a (if stillB o = true then fun _ => True else Cl) (Mix P ops Q cuts rest (i + 1) Cl) else Mix P ops Q cuts rest (i + 1) Cl (a.put o.dst undef)
def mixFrom (md : Region.Mode) (ops : Array Oper) (cuts : List Nat) : Nat → Nat → Array Bool → Bool
 | 0, _, listed => (Region.ready md ops listed).isEmpty
 | f + 1, k, listed => (Region.ready md ops listed).contains k && (cuts.contains k || (if softB ops k || lateB ops k then Region.ready md ops listed == [k] else Region.free md ops listed k && ((match ops[k]? with | some o => stillB o | none => false) || (List.range ops.size).all fun j => !lateB ops j || cuts.contains j || reachB md ops ops.size j k))) && mixFrom md ops cuts f (k + 1) (listed.setIfInBounds k true)
def mixB (md : Region.Mode) (ops : Array Oper) (cuts : List Nat) : Bool :=
 Region.noSelect ops && cuts.all (cutB md ops) && mixFrom md ops cuts ops.size 0 (Array.replicate ops.size false)
theorem wpAnyM_lex {cuts : List Nat} (hcut : ∀ c, cuts.contains c = true → cutB md ops c = true) (hs : Region.noSelect ops = true) :
  ∀ (l : List Oper) (k : Nat) (listed : Array Bool) (Cl : World → Prop) (a : Act), Stab Cl → (∀ j, l[j]? = ops[k + j]?) → Closed md ops listed →
  mixFrom md ops cuts l.length k listed = true → Mix P ops Q cuts l k Cl a → wpAnyM P md ops Q cuts l.length listed Cl a
 | [], _, _, _, _, _, _, _, hB, h => ⟨by simpa [mixFrom] using hB, h⟩
 | o :: l, k, listed, Cl, a, hst, hl, inv, hB, h => by
   have h0 : ops[k]? = some o := by simpa using (hl 0).symm
   simp only [List.length_cons, mixFrom, Bool.and_eq_true] at hB
   obtain ⟨⟨hr, hf⟩, hB'⟩ := hB
   have hr' : k ∈ Region.ready md ops listed := by simpa using hr
   have hl' : ∀ j, l[j]? = ops[k + 1 + j]? := fun j => by have := hl (j + 1); simpa [Nat.add_assoc, Nat.add_comm 1 j] using this
   have ih := fun Cl' a' (hst' : Stab Cl') (h' : Mix P ops Q cuts l (k + 1) Cl' a') => wpAnyM_lex hcut hs l (k + 1) _ Cl' a' hst' hl' (inv.set hr') hB' h'
   cases hc : cuts.contains k with
   | true =>
     simp only [Mix, hc, if_true] at h
     refine ⟨fun h1 => (by rw [h1] at hr'; cases hr'), fun i hi => ?_⟩
     have hik : i = k := cut_alone inv (hcut k hc) hr' hi
     subst hik
     rw [if_pos hc]
     intro w hw
     have h2 := h w hw
     unfold wpOp
     simp only [h0]
     split
     ·rename_i hwant
      rw [if_pos hwant] at h2
      exact .inl (Oper.wp_mono (fun a' w' ⟨Cl', h5, h3, h4⟩ => ⟨Cl', h5, h3, ih Cl' a' h5 h4⟩) h2)
     ·rename_i hwant
      rw [if_neg hwant] at h2
      obtain ⟨Cl', h5, h3, h4⟩ := h2
      exact ⟨Cl', h5, h3, ih Cl' _ h5 h4⟩
   | false =>
     cases hsb : softB ops k with
     | true =>
       simp only [Mix, hc, hsb, Bool.false_eq_true, if_false, if_true] at h
       simp only [hc, hsb, if_true, Bool.false_or, Bool.true_or] at hf
       have hone : Region.ready md ops listed = [k] := by simpa using hf
       refine ⟨fun h1 => (by rw [h1] at hr'; cases hr'), fun i hi => ?_⟩
       have hik : i = k := by rw [hone] at hi; simpa using hi
       subst hik
       rw [if_neg (by rw [hc]; exact Bool.false_ne_true), if_pos hsb]
       obtain ⟨o', ho', hg, hsoft⟩ := h
       refine ⟨o', ho', hg, fun w hw => ?_⟩
       obtain ⟨u, w', Cl', hrun, hs1, hs2, hs3, hK⟩ := hsoft w hw
       exact ⟨u, w', Cl', hrun, hs1, hs2, hs3, ih Cl' _ hs1 hK⟩
     | false =>
       cases hlb : lateB ops k with
       | true =>
         simp only [Mix, hc, hsb, hlb, Bool.false_eq_true, if_false, if_true] at h
         simp only [hc, hsb, hlb, if_true, Bool.false_or] at hf
         have hone : Region.ready md ops listed = [k] := by simpa using hf
         refine ⟨fun h1 => (by rw [h1] at hr'; cases hr'), fun i hi => ?_⟩
         have hik : i = k := by rw [hone] at hi; simpa using hi
         subst hik
         rw [if_neg (by rw [hc]; exact Bool.false_ne_true), if_neg (by rw [hsb]; exact Bool.false_ne_true), if_pos hlb]
         obtain ⟨o', ho', hg, hlate⟩ := h
         refine ⟨o', ho', hg, fun w hw => ?_⟩
         obtain ⟨w', Cl', hrun, hs1, hs3, hK⟩ := hlate w hw
         exact ⟨w', Cl', hrun, hs1, hs3, ih Cl' _ hs1 hK⟩
       | false =>
       simp only [Mix, hc, hsb, hlb, Bool.false_eq_true, if_false] at h
       simp only [hc, hsb, hlb, Bool.false_or, Bool.false_eq_true, if_false, Bool.and_eq_true, h0] at hf
       have hx : ∃ v, YieldsS P ops (if stillB o = true then fun _ => True else Cl) o v a ∧ Mix P ops Q cuts l (k + 1) Cl (a.put o.dst v) := by
        by_cases hw : Region.wanted o (yielded ops a.tmps) = true
        ·rw [if_pos hw] at h
         obtain ⟨v, h1, h2⟩ := h
         exact ⟨v, .inl ⟨hw, h1⟩, h2⟩
        ·rw [if_neg hw] at h
         exact ⟨undef, .inr ⟨by simpa using hw, rfl⟩, h⟩
       obtain ⟨v, hy, hK⟩ := hx
       have hy1 : YieldsS P ops Cl o v a := hy.less fun w hw => by split <;> first | trivial | exact hw
       have hlt : YieldsS P ops (fun _ => True) o v a ∨ ∀ j, lateB ops j = true → cuts.contains j = false → reachB md ops ops.size j k = true := by
        cases hst' : stillB o with
        | true => rw [hst', if_pos rfl] at hy; exact .inl hy
        | false =>
          refine .inr fun j hj hcj => ?_
          have hlt : j < ops.size := by
           rcases Nat.lt_or_ge j ops.size with h1 | h1
           ·exact h1
           ·simp [lateB, Array.getElem?_eq_none h1] at hj
          have h1 := hf.2
          rw [hst', Bool.false_or] at h1
          have h2 := List.all_eq_true.1 h1 j (List.mem_range.2 hlt)
          rw [hj, hcj, Bool.not_true, Bool.false_or, Bool.false_or] at h2; exact h2
       exact wpAnyM_first hcut hc hsb hlb h0 (Region.noSelect_spec hs) l.length listed Cl a hst inv (Region.free_spec h0 hf.1) hr' hy1 hlt (ih Cl _ hst hK)
theorem wp_region_mix {cuts : List Nat} {id : Nat} {a : Act} {w : World} (hm : P.follows .mixedOrders = true) (hB : mixB .any ops cuts = true) (Cl : World → Prop) (hst : Stab Cl) (hC : Cl { w with drawn := w.drawn + 1 })
  (h : Mix P ops Q cuts ops.toList 0 Cl a) : (Code.region id ops true).wp P Q a w := by
 simp only [mixB, Bool.and_eq_true] at hB
 obtain ⟨⟨hs, hc⟩, hx⟩ := hB
 refine wp_region_any hm (wpAny_of_mix (md := .any) (cuts := cuts) _ _ Cl _ _ hC ?_)
 have hsz : ops.toList.length = ops.size := by simp
 rw [← hsz] at hx ⊢
 refine wpAnyM_lex (fun c hc' => List.all_eq_true.1 hc c (by simpa using hc')) hs ops.toList 0 _ Cl a hst (by simp) ⟨by simp, fun j oj _ hl => ?_⟩ hx h
 rw [getD_replicate_false] at hl; cases hl
end
end Go.Gx
namespace Go.Gx
open Go.RowKit
def CallQ (C : Cx) (β : Nat → Nat) (hp : List HE) (f : FuncId) (args : List Value) (K : Value → (Nat → Nat) → Prop) : Prop :=
 ∃ v, (∀ w, HOk C.w0 β hp w → Gives C.P f args w v) ∧ ∀ β', Inj β' → (∀ i, i < hp.length → β i = β' i) → K v β'
def OpQ (C : Cx) (β : Nat → Nat) (hp : List HE) (fr : List Value) (o : Oper) (K : Value → (Nat → Nat) → Prop) : Prop :=
 ∃ v, (∀ w, HOk C.w0 β hp w → (execOp (evx fr) o).run C.P w = .ok (.value v) w) ∧ ∀ β', Inj β' → (∀ i, i < hp.length → β i = β' i) → K v β'
def softAt : List Oper → Nat → Bool
 | ⟨_, .alloc _, _, _, _, none⟩ :: _, 0 => true
 | _ :: r, n + 1 => softAt r n
 | _, _ => false
theorem softAt_B : ∀ (l : List Oper) (i : Nat), softB l.toArray i = softAt l i
 | [], _ => by simp [softB, softAt]
 | o :: r, 0 => by
   obtain ⟨d, op, ty, pos, aft, g⟩ := o
   simp only [softB, List.getElem?_toArray, List.getElem?_cons_zero]
   cases op <;> cases g <;> rfl
 | o :: r, n + 1 => by
   have := softAt_B r n
   simp only [softB, List.getElem?_toArray, List.getElem?_cons_succ] at this ⊢
   rw [this]
   obtain ⟨d, op, ty, pos, aft, g⟩ := o
   cases op <;> cases g <;> rfl
def lateAt : List Oper → Nat → Bool
 | ⟨_, .store _ _ _, _, _, _, none⟩ :: _, 0 => true
 | _ :: r, n + 1 => lateAt r n
 | _, _ => false
theorem lateAt_B : ∀ (l : List Oper) (i : Nat), lateB l.toArray i = lateAt l i
 | [], _ => by simp [lateB, lateAt]
 | o :: r, 0 => by
   obtain ⟨d, op, ty, pos, aft, g⟩ := o
   simp only [lateB, List.getElem?_toArray, List.getElem?_cons_zero]
   cases op <;> cases g <;> rfl
 | o :: r, n + 1 => by
   have := lateAt_B r n
   simp only [lateB, List.getElem?_toArray, List.getElem?_cons_succ] at this ⊢
   rw [this]
   obtain ⟨d, op, ty, pos, aft, g⟩ := o
   cases op <;> cases g <;> rfl
theorem opx_still {P : Program} {β : Nat → Nat} {o : Oper} {fr : List Value} {hp : List HE} {v : Value} (hs : stillB o = true) (h : opx P β o.op fr hp = .val v) (w : World) : (execOp (evx fr) o).run P w = .ok (.value v) w := by
 obtain ⟨d, op, ty, pos, aft, g⟩ := o
 cases op <;> simp only [stillB] at hs <;> try (cases hs; done)
 all_goals simp only [opx] at h
 ·simp at h; subst h; simp [execOp]
 ·simp at h; subst h; simp [execOp]
 ·split at h <;> try (simp at h; done)
  rename_i vs hx
  split at h <;> try (simp at h; done)
  rename_i u hu
  simp at h; subst h
  rw [Array.getElem?_toList] at hu
  simp [execOp, Instr.extract, hx, hu]
theorem still_res {P : Program} {β : Nat → Nat} {o : Oper} {fr : List Value} {hp : List HE} (hs : stillB o = true) : (∃ v, opx P β o.op fr hp = .val v) ∨ opx P β o.op fr hp = .leaf := by
 obtain ⟨d, op, ty, pos, aft, g⟩ := o
 cases op <;> simp only [stillB] at hs <;> try (cases hs; done)
 all_goals simp only [opx]
 ·exact .inl ⟨_, rfl⟩
 ·exact .inl ⟨_, rfl⟩
 ·split
  ·split
   ·exact .inl ⟨_, rfl⟩
   ·exact .inr rfl
  ·exact .inr rfl
noncomputable def runD (C : Cx) : (Nat → Nat) → Nat → List Nat → Nat → List Oper → List Oper → List Item → List Value → List HE → Prop
 | _, 0, _, _, _, _, _, _, _ => False
 | β, k + 1, _, _, _, [], todo, fr, hp => run C β k [] [] todo fr hp
 | β, k + 1, cuts, i, all, o :: rest, todo, fr, hp =>
   match o.guard with
   | none =>
     if cuts.contains i = true then
      match opx C.P β o.op fr hp with
      | .val v => runD C β k cuts (i + 1) all rest todo (put fr o.dst v) hp
      | .need φ v => φ ∧ runD C β k cuts (i + 1) all rest todo (put fr o.dst v) hp
      | .mem φ v hp' => φ ∧ runD C β k cuts (i + 1) all rest todo (put fr o.dst v) hp'
      | .call f args => fnOk C.P f = true ∧ CallX C β hp f args (fun v hp' β' => runD C β' (hold k) cuts (i + 1) all rest todo (put fr o.dst v) hp')
      | .leaf => OpX C β hp fr o (fun v hp' β' => runD C β' (hold k) cuts (i + 1) all rest todo (put fr o.dst v) hp')
     else
      match opx C.P β o.op fr hp with
      | .val v => runD C β k cuts (i + 1) all rest todo (put fr o.dst v) hp
      | .need φ v => φ ∧ runD C β k cuts (i + 1) all rest todo (put fr o.dst v) hp
      | .mem φ v hp' => (softAt all i = true ∨ lateAt all i = true) ∧ φ ∧ runD C β k cuts (i + 1) all rest todo (put fr o.dst v) hp'
      | .call f args => fnOk C.P f = true ∧ CallQ C β hp f args (fun v β' => runD C β' (hold k) cuts (i + 1) all rest todo (put fr o.dst v) hp)
      | .leaf => (softAt all i = false ∧ lateAt all i = false ∧ stillB o = false) ∧ OpQ C β hp fr o (fun v β' => runD C β' (hold k) cuts (i + 1) all rest todo (put fr o.dst v) hp)
   | some (j, want) => match slotOf all j with
     | none => False
     | some t => match fr.getD t undef with
       | .bool b => gd b
        (if want = true then runD C β k cuts i all (⟨o.dst, o.op, o.type, o.pos, o.after, none⟩ :: rest) todo (fr.set t (.bool true)) hp else runD C β k cuts (i + 1) all rest todo (put (fr.set t (.bool true)) o.dst undef) hp)
        (if want = true then runD C β k cuts (i + 1) all rest todo (put (fr.set t (.bool false)) o.dst undef) hp else runD C β k cuts i all (⟨o.dst, o.op, o.type, o.pos, o.after, none⟩ :: rest) todo (fr.set t (.bool false)) hp)
       | _ => runD C β k cuts (i + 1) all rest todo (put fr o.dst undef) hp
section
variable {C : Cx}
theorem HOk.agree {w0 w : World} {β β' : Nat → Nat} {hp : List HE} (h : HOk w0 β hp w) (ha : Agree hp.length β β') : HOk w0 β' hp w := by
 have hlt : ∀ i x, hp[i]? = some x → i < hp.length := fun i x hx => (List.getElem?_eq_some_iff.1 hx).1
 refine ⟨h.os, h.tape, h.output, h.size, fun i e he => ?_, fun i e he hk => ?_, fun r hr hno => h.old r hr fun i e he hk => ?_⟩
 ·rw [ha i (hlt i e he)]; exact h.obj i e he
 ·rw [ha i (hlt i e he)]; exact h.fresh i e he hk
 ·rw [← ha i (hlt i e he)]; exact hno i e he hk
theorem HOk.stab {w0 : World} {β : Nat → Nat} {hp : List HE} : Stab (HOk w0 β hp) := fun _ _ h hb => h.below hb
def Fits (all rest : List Oper) (i : Nat) : Prop := ∀ j o, rest[j]? = some o → ∃ o', all[i + j]? = some o' ∧ (o' = o ∨ (j = 0 ∧ o'.guard ≠ none))
theorem Fits.tail {all rest : List Oper} {o : Oper} {i : Nat} (h : Fits all (o :: rest) i) : Fits all rest (i + 1) := by
 intro j x hx
 obtain ⟨o', h1, h2⟩ := h (j + 1) x (by simpa using hx)
 refine ⟨o', by rw [← h1]; congr 1; omega, ?_⟩
 rcases h2 with h2 | ⟨h2, _⟩
 ·exact .inl h2
 ·omega
theorem Fits.head {all rest : List Oper} {o o2 : Oper} {i : Nat} (h : Fits all (o :: rest) i) (hg : o.guard ≠ none) : Fits all (o2 :: rest) i := by
 intro j x hx
 cases j with
 | zero =>
   obtain ⟨o', h1, h2⟩ := h 0 o (by simp)
   refine ⟨o', h1, .inr ⟨rfl, ?_⟩⟩
   rcases h2 with h2 | h2
   ·rw [h2]; exact hg
   ·exact h2.2
 | succ j =>
   obtain ⟨o', h1, h2⟩ := h (j + 1) x (by simpa using hx)
   exact ⟨o', h1, h2⟩
theorem Fits.soft {all rest : List Oper} {o : Oper} {i : Nat} (h : Fits all (o :: rest) i) (hs : softB all.toArray i = true) : o.guard = none ∧ all.toArray[i]? = some o ∧ ∃ t, o.op = .alloc t := by
 obtain ⟨o', h1, h2⟩ := h 0 o (by simp)
 have h1' : all.toArray[i]? = some o' := by simpa using h1
 have h3 := softB_spec hs h1'
 rcases h2 with rfl | ⟨_, h2⟩
 ·exact ⟨h3.1, h1', h3.2⟩
 ·exact absurd h3.1 h2
theorem HOk.firsts {w0 w : World} {β : Nat → Nat} {hp : List HE} {e : HE} (h : HOk w0 β (hp ++ [e]) w) (hk : e.kind = 2) : HOk w0 β hp w := by
 have hlt : ∀ i x, hp[i]? = some x → (hp ++ [e])[i]? = some x := fun i x hx => by
  rw [List.getElem?_append_left (List.getElem?_eq_some_iff.1 hx).1]; exact hx
 refine ⟨h.os, h.tape, h.output, h.size, fun i x hx => h.obj i x (hlt i x hx), fun i x hx => h.fresh i x (hlt i x hx), fun r hr hno => h.old r hr fun i x hx hk' => ?_⟩
 rcases Nat.lt_or_ge i hp.length with hi | hi
 ·rw [List.getElem?_append_left hi] at hx
  exact hno i x hx hk'
 ·rw [List.getElem?_append_right hi] at hx
  have hi' : i - hp.length < 1 := by
   rcases Nat.lt_or_ge (i - hp.length) 1 with h2 | h2
   ·exact h2
   ·rw [List.getElem?_eq_none (by simpa using h2)] at hx; cases hx
  have h0 : i - hp.length = 0 := by omega
  rw [h0] at hx
  simp at hx
  subst hx
  rw [hk] at hk'; cases hk'
theorem Fits.late {all rest : List Oper} {o : Oper} {i : Nat} (h : Fits all (o :: rest) i) (hs : lateB all.toArray i = true) : o.guard = none ∧ all.toArray[i]? = some o ∧ ∃ t a x, o.op = .store t a x := by
 obtain ⟨o', h1, h2⟩ := h 0 o (by simp)
 have h1' : all.toArray[i]? = some o' := by simpa using h1
 have h3 := lateB_spec hs h1'
 rcases h2 with rfl | ⟨_, h2⟩
 ·exact ⟨h3.1, h1', h3.2⟩
 ·exact absurd h3.1 h2
theorem runD_sound (hf : C.P.funcs[C.f]? = some C.fn) (cuts : List Nat) : ∀ (k i : Nat) (all rest : List Oper) (todo : List Item) (fr : List Value) (hp : List HE) (β0 : Nat → Nat), Fits all rest i →
  (∀ β, Inj β → Agree hp.length β0 β → runD C β k cuts i all rest todo fr hp) → Inj β0 → Mix C.P all.toArray (Qof C todo) cuts rest i (HOk C.w0 β0 hp) ⟨fr.toArray, []⟩ := by
 intro k
 induction k with
 | zero => intro i all rest todo fr hp β0 _ H hβ; have := H β0 hβ (Agree.refl _ _); simp [runD] at this
 | succ k ih =>
   intro i all rest todo fr hp β0 hfit H hβ
   have h0 := H β0 hβ (Agree.refl _ _)
   cases rest with
   | nil =>
     intro w hw
     exact run_sound hf k [] [] todo fr hp β0 (fun β h1 h2 => by have := H β h1 h2; rw [runD] at this; exact this) hβ w hw
   | cons o rest =>
     cases hg : o.guard with
     | none =>
       have hwant : Region.wanted o (yielded all.toArray fr.toArray) = true := wanted_none hg _
       cases hc : cuts.contains i with
       | true =>
         have H' : ∀ β, Inj β → Agree hp.length β0 β → Asks C β fr hp o (fun v hp' β' => runD C β' k cuts (i + 1) all rest todo (put fr o.dst v) hp') (opx C.P β o.op fr hp) := by
          intro β h1 h2
          have := H β h1 h2
          rw [runD] at this
          simp only [hg, hc, if_true] at this
          revert this
          cases opx C.P β o.op fr hp <;> exact id
         unfold Mix
         rw [if_pos hc]
         intro w hw
         rw [if_pos hwant]
         have hs := op_sound (Q := Qof C todo) hβ hw (fun ch a w h1 h2 => ⟨h1, h2⟩) H'
         refine Oper.wp_mono (fun a w' ht => ?_) hs
         obtain ⟨v, hp', β1, rfl, h1, h2, h3, h4⟩ := ht
         exact ⟨_, HOk.stab, h1, ih (i + 1) all rest todo _ hp' β1 hfit.tail h4 h2⟩
       | false =>
         unfold Mix
         rw [if_neg (by rw [hc]; exact Bool.false_ne_true)]
         have HH : ∀ β, Inj β → Agree hp.length β0 β → match opx C.P β o.op fr hp with
           | .val v => runD C β k cuts (i + 1) all rest todo (put fr o.dst v) hp
           | .need φ v => φ ∧ runD C β k cuts (i + 1) all rest todo (put fr o.dst v) hp
           | .mem φ v hp' => (softAt all i = true ∨ lateAt all i = true) ∧ φ ∧ runD C β k cuts (i + 1) all rest todo (put fr o.dst v) hp'
           | .call f args => fnOk C.P f = true ∧ CallQ C β hp f args (fun v β' => runD C β' (hold k) cuts (i + 1) all rest todo (put fr o.dst v) hp)
           | .leaf => (softAt all i = false ∧ lateAt all i = false ∧ stillB o = false) ∧ OpQ C β hp fr o (fun v β' => runD C β' (hold k) cuts (i + 1) all rest todo (put fr o.dst v) hp) := by
          intro β h1 h2
          have := H β h1 h2
          rw [runD] at this
          simp only [hg, hc, Bool.false_eq_true, if_false] at this
          exact this
         have hH0 := HH β0 hβ (Agree.refl _ _)
         by_cases hsoft : softB all.toArray i = true
         ·-- a block is made
          rw [if_pos hsoft]
          obtain ⟨_, hoi, t, ht⟩ := hfit.soft hsoft
          have hsa : softAt all i = true := by rw [← softAt_B]; exact hsoft
          refine ⟨o, hoi, hg, fun w hw => ?_⟩
          rw [ht] at hH0 HH
          simp only [opx] at hH0 HH
          cases hti : tiof C.P t with
          | none => simp only [hti, hsa] at hH0; exact absurd hH0.1.1 (by simp)
          | some ti =>
            simp only [hti] at HH
            have hlt : ∀ i, i < hp.length → β0 i ≠ w.heap.size := by
             intro i hi
             have := hw.obj i _ (List.getElem?_eq_getElem hi)
             have := (Array.getElem?_eq_some_iff.1 this).1
             omega
            obtain ⟨β1, h1, h2, h3⟩ := extend hβ hp.length w.heap.size hlt
            refine ⟨_, _, HOk C.w0 β1 (hp ++ [.c 2 ti.zero t]), by rw [eval_evx]; exact opx_alloc ht hti w, HOk.stab, fun w' hw' => ?_, hw.alloc h2 h3 _ rfl, ?_⟩
            ·exact (hw'.firsts rfl).agree fun i hi => (h2 i hi).symm
            ·rw [put_put]
             refine ih (i + 1) all rest todo _ _ β1 hfit.tail (fun β hβ' ha => ?_) h1
             have hn : β hp.length = w.heap.size := by rw [ha _ (by simp), h3]
             have := (HH β hβ' (h2.trans ha (by simp))).2.2
             rw [hn] at this
             exact this
         have hsoftA : softAt all i = false := by rw [← softAt_B]; simpa using hsoft
         by_cases hlate : lateB all.toArray i = true
         ·-- a store that is no cut
          rw [if_neg hsoft, if_pos hlate]
          obtain ⟨_, hoi, t, a, x, ho⟩ := hfit.late hlate
          have hla : lateAt all i = true := by rw [← lateAt_B]; exact hlate
          refine ⟨o, hoi, hg, fun w hw => ?_⟩
          have hm : makes o.op = false := by rw [ho]; rfl
          have hag : ∀ β, Inj β → Agree hp.length β0 β → opx C.P β o.op fr hp = opx C.P β0 o.op fr hp := fun β h1 h2 => opx_agree hβ h1 h2 o.op fr hm
          have hcase : opx C.P β0 o.op fr hp = .leaf ∨ ∃ φ v hp', opx C.P β0 o.op fr hp = .mem φ v hp' := by
           rw [ho]; simp only [opx]
           repeat' (first | exact .inl rfl | exact .inr ⟨_, _, _, rfl⟩ | split)
          rcases hcase with hr | ⟨φ, v, hp', hr⟩
          ·rw [hr] at hH0
           have := hH0.1.2.1
           rw [hla] at this; cases this
          ·rw [hr] at hH0
           obtain ⟨t', a', x', b, off, k', l, ty, ti, ho', ha, hl, hti, rfl, rfl, rfl⟩ := opx_mem_inv hm hr
           have hb := hw.blockAt hl
           refine ⟨_, HOk C.w0 β0 (hp.set (ix β0 b) (.c k' (splice l off (evx fr x').cells.toList) ty)), by rw [eval_evx]; exact opx_store ho' ha hb hti hH0.2.1, HOk.stab, ?_, ?_⟩
           ·obtain ⟨i', rfl, hi'⟩ := lk_some hl
            rw [zaj hβ]
            exact hw.store hβ hi' hH0.2.1.1
           ·rw [put_put]
            refine ih (i + 1) all rest todo _ _ β0 hfit.tail (fun β h1 h2 => ?_) hβ
            rw [List.length_set] at h2
            have := HH β h1 h2
            rw [hag β h1 h2, hr] at this
            exact this.2.2
         rw [if_neg hsoft, if_neg hlate, if_pos hwant]
         have hlateA : lateAt all i = false := by rw [← lateAt_B]; simpa using hlate
         have hag : makes o.op = false → ∀ β, Inj β → Agree hp.length β0 β → opx C.P β o.op fr hp = opx C.P β0 o.op fr hp := fun hm β h1 h2 => opx_agree hβ h1 h2 o.op fr hm
         have hpure : ∀ v, (∀ w, HOk C.w0 β0 hp w → (execOp (evx fr) o).run C.P w = .ok (.value v) w) → (stillB o = true → opx C.P β0 o.op fr hp = .val v) → (∀ β, Inj β → Agree hp.length β0 β → runD C β k cuts (i + 1) all rest todo (put fr o.dst v) hp) →
           quietS C.P o ⟨fr.toArray, []⟩ (if stillB o = true then fun _ => True else HOk C.w0 β0 hp) (Mix C.P all.toArray (Qof C todo) cuts rest (i + 1) (HOk C.w0 β0 hp)) := by
          intro v hv hvs hK
          have hv' : ∀ w, (if stillB o = true then fun _ => True else HOk C.w0 β0 hp) w → (execOp (evx fr) o).run C.P w = .ok (.value v) w := by
           intro w hw
           cases hst : stillB o with
           | false => rw [hst] at hw; exact hv w (by simpa using hw)
           | true => exact opx_still hst (hvs hst) w
          refine ⟨v, fun w hw => ?_, ?_⟩
          ·unfold Oper.quietAt
           rw [eval_evx, hv' w hw]
           exact ⟨rfl, rfl⟩
          ·rw [put_put]; exact ih (i + 1) all rest todo _ hp β0 hfit.tail hK hβ
         by_cases hm : makes o.op = true
         ·-- what makes a block is no quiet operation
          cases hr : opx C.P β0 o.op fr hp with
          | leaf =>
            rw [hr] at hH0
            obtain ⟨hlf, v, hv, hK⟩ := hH0
            exact hpure v hv (fun h => by rw [hlf.2.2] at h; cases h) fun β h1 h2 => hK β h1 fun i hi => (h2 i hi).symm
          | mem φ v hp' => rw [hr] at hH0; rw [hsoftA, hlateA] at hH0; exact absurd hH0.1 (by simp)
          | val v => obtain ⟨d, op, ty, pos, aft, g⟩ := o; simp only at hr hm; cases op <;> simp [makes] at hm <;> simp only [opx] at hr <;> repeat' (first | (cases hr; done) | split at hr)
          | need φ v => obtain ⟨d, op, ty, pos, aft, g⟩ := o; simp only at hr hm; cases op <;> simp [makes] at hm <;> simp only [opx] at hr <;> repeat' (first | (cases hr; done) | split at hr)
          | call f args => obtain ⟨d, op, ty, pos, aft, g⟩ := o; simp only at hr hm; cases op <;> simp [makes] at hm <;> simp only [opx] at hr <;> repeat' (first | (cases hr; done) | split at hr)
         ·have hm' : makes o.op = false := by simpa using hm
          cases hr : opx C.P β0 o.op fr hp with
          | val v => exact hpure v (fun w hw => opx_pure (φ := True) hw (.inl hr)) (fun _ => hr) fun β h1 h2 => by have := HH β h1 h2; rw [hag hm' β h1 h2, hr] at this; exact this
          | need φ v => rw [hr] at hH0; exact hpure v (fun w hw => opx_pure hw (.inr ⟨hr, hH0.1⟩)) (fun h => by rcases still_res (P := C.P) (β := β0) (fr := fr) (hp := hp) h with ⟨u, hu⟩ | hu <;> rw [hr] at hu <;> cases hu) fun β h1 h2 => by have := HH β h1 h2; rw [hag hm' β h1 h2, hr] at this; exact this.2
          | mem φ v hp' => rw [hr] at hH0; rw [hsoftA, hlateA] at hH0; exact absurd hH0.1 (by simp)
          | leaf =>
            rw [hr] at hH0
            obtain ⟨hlf, v, hv, hK⟩ := hH0
            exact hpure v hv (fun h => by rw [hlf.2.2] at h; cases h) fun β h1 h2 => hK β h1 fun i hi => (h2 i hi).symm
          | call f args =>
            rw [hr] at hH0
            obtain ⟨hok, v, hv, hK⟩ := hH0
            obtain ⟨f', xs, ts, a, b, ho, hf', rfl⟩ := opx_call_inv hr
            have hns : stillB o = false := by simp only [stillB, ho]
            rw [hns]
            refine ⟨v, fun w hw => ?_, ?_⟩
            ·simp only [Bool.false_eq_true, if_false] at hw
             unfold Oper.quietAt
             rw [eval_evx, opx_call ho hf' hok w]
             exact ⟨rfl, (hv w hw).mono fun e w' ⟨he, hb⟩ => ⟨he, hb⟩⟩
            ·rw [put_put]; exact ih (i + 1) all rest todo _ hp β0 hfit.tail (fun β h1 h2 => hK β h1 fun i hi => (h2 i hi).symm) hβ
     | some jw =>
       obtain ⟨j, want⟩ := jw
       have hnlate : ¬ lateB all.toArray i = true := fun hs => by
        have := (hfit.late hs).1
        rw [hg] at this; cases this
       have hnsoft : ¬ softB all.toArray i = true := fun hs => by
        have := (hfit.soft hs).1
        rw [hg] at this; cases this
       cases hs : slotOf all j with
       | none => rw [runD] at h0; simp only [hg, hs] at h0
       | some t =>
         have hy : yielded all.toArray fr.toArray j = match fr[t]? with | some (.bool b) => some b | _ => none := by
          have : (all.toArray[j]?).bind (·.dst) = some t := by simpa [slotOf] using hs
          unfold yielded
          rw [this]
          simp only [Option.bind_some, List.getElem?_toArray]
          cases fr[t]? with
          | none => rfl
          | some x => cases x <;> rfl
         have hskip : Region.wanted o (yielded all.toArray fr.toArray) = false → (∀ β, Inj β → Agree hp.length β0 β → runD C β k cuts (i + 1) all rest todo (put fr o.dst undef) hp) →
           Mix C.P all.toArray (Qof C todo) cuts (o :: rest) i (HOk C.w0 β0 hp) ⟨fr.toArray, []⟩ := by
          intro hw' hr
          have := ih (i + 1) all rest todo _ hp β0 hfit.tail hr hβ
          unfold Mix
          by_cases hc : cuts.contains i = true
          ·rw [if_pos hc]
           intro w hw
           rw [if_neg (by rw [hw']; exact Bool.false_ne_true), put_put]
           exact ⟨_, HOk.stab, hw, this⟩
          ·rw [if_neg hc, if_neg hnsoft, if_neg hnlate, if_neg (by rw [hw']; exact Bool.false_ne_true), put_put]
           exact this
         have hdo : Region.wanted o (yielded all.toArray fr.toArray) = true → (∀ β, Inj β → Agree hp.length β0 β → runD C β k cuts i all (⟨o.dst, o.op, o.type, o.pos, o.after, none⟩ :: rest) todo fr hp) →
           Mix C.P all.toArray (Qof C todo) cuts (o :: rest) i (HOk C.w0 β0 hp) ⟨fr.toArray, []⟩ := by
          intro hw' hr
          have := ih i all _ todo _ hp β0 (hfit.head (by rw [hg]; simp)) hr hβ
          unfold Mix at this ⊢
          by_cases hc : cuts.contains i = true
          ·rw [if_pos hc] at this ⊢
           intro w hw
           have h3 := this w hw
           rw [if_pos hw']
           rw [if_pos (wanted_none rfl _)] at h3
           exact h3
          ·rw [if_neg hc, if_neg hnsoft, if_neg hnlate, if_pos (wanted_none rfl _)] at this
           rw [if_neg hc, if_neg hnsoft, if_neg hnlate, if_pos hw']
           exact this
         have hwant : Region.wanted o (yielded all.toArray fr.toArray) = ((match fr[t]? with | some (.bool b) => some b | _ => none) == some want) := by
          simp only [Region.wanted, hg, hy]
         cases hv : fr.getD t undef with
         | bool b =>
           have hft : fr[t]? = some (.bool b) := by
            rw [List.getD_eq_getElem?_getD] at hv
            cases hq : fr[t]? with
            | none => rw [hq] at hv; simp [undef] at hv
            | some x => rw [hq] at hv; simpa using hv
           have hset : fr.set t (.bool b) = fr := by
            obtain ⟨hlt, he⟩ := List.getElem?_eq_some_iff.1 hft
            rw [← he, List.set_getElem_self]
           rw [hft] at hwant
           simp only at hwant
           have HH : ∀ β, Inj β → Agree hp.length β0 β → gd b
             (if want = true then runD C β k cuts i all (⟨o.dst, o.op, o.type, o.pos, o.after, none⟩ :: rest) todo (fr.set t (.bool true)) hp else runD C β k cuts (i + 1) all rest todo (put (fr.set t (.bool true)) o.dst undef) hp)
             (if want = true then runD C β k cuts (i + 1) all rest todo (put (fr.set t (.bool false)) o.dst undef) hp else runD C β k cuts i all (⟨o.dst, o.op, o.type, o.pos, o.after, none⟩ :: rest) todo (fr.set t (.bool false)) hp) := by
            intro β h1 h2
            have := H β h1 h2
            rw [runD] at this
            simp only [hg, hs, hv] at this
            exact this
           cases b <;> cases want <;> simp only [hset] at HH hwant
           ·exact hdo (by rw [hwant]; rfl) fun β h1 h2 => by have := (HH β h1 h2).2 rfl; simpa using this
           ·exact hskip (by rw [hwant]; rfl) fun β h1 h2 => by have := (HH β h1 h2).2 rfl; simpa using this
           ·exact hskip (by rw [hwant]; rfl) fun β h1 h2 => by have := (HH β h1 h2).1 rfl; simpa using this
           ·exact hdo (by rw [hwant]; rfl) fun β h1 h2 => by have := (HH β h1 h2).1 rfl; simpa using this
         | _ =>
           refine hskip ?_ fun β h1 h2 => ?_
           ·rw [hwant]
            rw [List.getD_eq_getElem?_getD] at hv
            cases hq : fr[t]? with
            | none => rfl
            | some x => rw [hq] at hv; simp only [Option.getD_some] at hv; subst hv; rfl
           ·have := H β h1 h2
            rw [runD] at this
            simp only [hg, hs, hv] at this
            exact this
theorem draw_run (hf : C.P.funcs[C.f]? = some C.fn) (hm : C.P.follows .mixedOrders = true) {β : Nat → Nat} (hβ : Inj β) {hp : List HE} {fr : List Value} {id : Nat} {l : List Oper} {todo : List Item} (k : Nat)
  (cuts : List Nat) (hB : mixB .any l.toArray cuts = true)
  (h : ∀ β', Inj β' → (∀ i, i < hp.length → β i = β' i) → runD C β' k cuts 0 l l todo fr hp) : GoX C β hp fr (.code (.region id l.toArray true) :: todo) := fun w hw =>
 goes_wp hf (wp_region_mix hm hB (HOk C.w0 β hp) HOk.stab ⟨hw.os, hw.tape, hw.output, hw.size, hw.obj, hw.fresh, hw.old⟩
  (by simpa using runD_sound hf cuts k 0 l l todo fr hp β (fun j o h => ⟨o, by simpa using h, .inl rfl⟩) (fun β' h1 h2 => h β' h1 fun i hi => (h2 i hi).symm) hβ))
end
end Go.Gx
namespace Go.Gx
open Go.RowKit
set_option maxRecDepth 100000
variable {C : Cx} {P : Program} {β : Nat → Nat} {k i : Nat} {cuts : List Nat} {all rest : List Oper} {todo : List Item} {fr : List Value} {hp : List HE}
def resC (C : Cx) (β : Nat → Nat) (k : Nat) (cuts : List Nat) (i : Nat) (all rest : List Oper) (todo : List Item) (fr : List Value) (hp : List HE) (o : Oper) : Res → Prop
 | .val v => runD C β k cuts (i + 1) all rest todo (put fr o.dst v) hp
 | .need φ v => φ ∧ runD C β k cuts (i + 1) all rest todo (put fr o.dst v) hp
 | .mem φ v hp' => φ ∧ runD C β k cuts (i + 1) all rest todo (put fr o.dst v) hp'
 | .call f args => fnOk C.P f = true ∧ CallX C β hp f args (fun v hp' β' => runD C β' (hold k) cuts (i + 1) all rest todo (put fr o.dst v) hp')
 | .leaf => OpX C β hp fr o (fun v hp' β' => runD C β' (hold k) cuts (i + 1) all rest todo (put fr o.dst v) hp')
def resQ (C : Cx) (β : Nat → Nat) (k : Nat) (cuts : List Nat) (i : Nat) (all rest : List Oper) (todo : List Item) (fr : List Value) (hp : List HE) (o : Oper) : Res → Prop
 | .val v => runD C β k cuts (i + 1) all rest todo (put fr o.dst v) hp
 | .need φ v => φ ∧ runD C β k cuts (i + 1) all rest todo (put fr o.dst v) hp
 | .mem φ v hp' => (softAt all i = true ∨ lateAt all i = true) ∧ φ ∧ runD C β k cuts (i + 1) all rest todo (put fr o.dst v) hp'
 | .call f args => fnOk C.P f = true ∧ CallQ C β hp f args (fun v β' => runD C β' (hold k) cuts (i + 1) all rest todo (put fr o.dst v) hp)
 | .leaf => (softAt all i = false ∧ lateAt all i = false ∧ stillB o = false) ∧ OpQ C β hp fr o (fun v β' => runD C β' (hold k) cuts (i + 1) all rest todo (put fr o.dst v) hp)
def resM (C : Cx) (β : Nat → Nat) (k : Nat) (cuts : List Nat) (i : Nat) (all rest : List Oper) (todo : List Item) (fr : List Value) (hp : List HE) (o : Oper) (r : Res) : Bool → Prop
 | true => resC C β k cuts i all rest todo fr hp o r
 | false => resQ C β k cuts i all rest todo fr hp o r
theorem resM_t {o : Oper} {r : Res} : resM C β k cuts i all rest todo fr hp o r true = resC C β k cuts i all rest todo fr hp o r := rfl
theorem resM_f {o : Oper} {r : Res} : resM C β k cuts i all rest todo fr hp o r false = resQ C β k cuts i all rest todo fr hp o r := rfl
theorem resC_val {o : Oper} (v : Value) : resC C β k cuts i all rest todo fr hp o (.val v) = runD C β k cuts (i + 1) all rest todo (put fr o.dst v) hp := rfl
theorem resC_need {o : Oper} (φ : Prop) (v : Value) : resC C β k cuts i all rest todo fr hp o (.need φ v) = (φ ∧ runD C β k cuts (i + 1) all rest todo (put fr o.dst v) hp) := rfl
theorem resC_mem {o : Oper} (φ : Prop) (v : Value) (hp' : List HE) : resC C β k cuts i all rest todo fr hp o (.mem φ v hp') = (φ ∧ runD C β k cuts (i + 1) all rest todo (put fr o.dst v) hp') := rfl
theorem resC_call {o : Oper} (f : FuncId) (args : List Value) : resC C β k cuts i all rest todo fr hp o (.call f args) = (fnOk C.P f = true ∧ CallX C β hp f args (fun v hp' β' => runD C β' (hold k) cuts (i + 1) all rest todo (put fr o.dst v) hp')) := rfl
theorem resC_leaf {o : Oper} : resC C β k cuts i all rest todo fr hp o .leaf = OpX C β hp fr o (fun v hp' β' => runD C β' (hold k) cuts (i + 1) all rest todo (put fr o.dst v) hp') := rfl
theorem resQ_val {o : Oper} (v : Value) : resQ C β k cuts i all rest todo fr hp o (.val v) = runD C β k cuts (i + 1) all rest todo (put fr o.dst v) hp := rfl
theorem resQ_need {o : Oper} (φ : Prop) (v : Value) : resQ C β k cuts i all rest todo fr hp o (.need φ v) = (φ ∧ runD C β k cuts (i + 1) all rest todo (put fr o.dst v) hp) := rfl
theorem resQ_call {o : Oper} (f : FuncId) (args : List Value) : resQ C β k cuts i all rest todo fr hp o (.call f args) = (fnOk C.P f = true ∧ CallQ C β hp f args (fun v β' => runD C β' (hold k) cuts (i + 1) all rest todo (put fr o.dst v) hp)) := rfl
theorem resQ_leaf {o : Oper} : resQ C β k cuts i all rest todo fr hp o .leaf = ((softAt all i = false ∧ lateAt all i = false ∧ stillB o = false) ∧ OpQ C β hp fr o (fun v β' => runD C β' (hold k) cuts (i + 1) all rest todo (put fr o.dst v) hp)) := rfl
theorem resQ_mem {o : Oper} (φ : Prop) (v : Value) (hp' : List HE) : resQ C β k cuts i all rest todo fr hp o (.mem φ v hp') = ((softAt all i = true ∨ lateAt all i = true) ∧ φ ∧ runD C β k cuts (i + 1) all rest todo (put fr o.dst v) hp') := rfl
theorem softAt_a (d : Option Tmp) (t ty : TypeId) (p : String) (a : Array Edge) (r : List Oper) : softAt (⟨d, .alloc t, ty, p, a, none⟩ :: r) 0 = true := rfl
theorem lateAt_a (d : Option Tmp) (t ty : TypeId) (x y : Operand) (p : String) (a : Array Edge) (r : List Oper) : lateAt (⟨d, .store t x y, ty, p, a, none⟩ :: r) 0 = true := rfl
theorem lateAt_s (o : Oper) (r : List Oper) (n : Nat) : lateAt (o :: r) (n + 1) = lateAt r n := by
 obtain ⟨d, op, ty, pos, aft, g⟩ := o
 cases op <;> cases g <;> rfl
theorem softAt_s (o : Oper) (r : List Oper) (n : Nat) : softAt (o :: r) (n + 1) = softAt r n := by
 obtain ⟨d, op, ty, pos, aft, g⟩ := o
 cases op <;> cases g <;> rfl
theorem runD_nil : runD C β (k + 1) cuts i all [] todo fr hp = run C β k [] [] todo fr hp := by rw [runD]
theorem runD_op (d : Option Tmp) (op : Op) (t : TypeId) (p : String) (a : Array Edge) : runD C β (k + 1) cuts i all (⟨d, op, t, p, a, none⟩ :: rest) todo fr hp =
  resM C β k cuts i all rest todo fr hp ⟨d, op, t, p, a, none⟩ (opx C.P β op fr hp) (cuts.contains i) := by
 rw [runD]
 cases hc : cuts.contains i <;> simp only [resM, Bool.false_eq_true, if_false, if_true] <;> cases opx C.P β op fr hp <;> rfl
def guardD (C : Cx) (β : Nat → Nat) (k : Nat) (cuts : List Nat) (i : Nat) (all rest : List Oper) (todo : List Item) (fr : List Value) (hp : List HE) (d : Option Tmp) (o : Oper) (want : Bool) (t : Tmp) : Value → Prop
 | .bool b => gd b
  (if want = true then runD C β k cuts i all (o :: rest) todo (fr.set t (.bool true)) hp else runD C β k cuts (i + 1) all rest todo (put (fr.set t (.bool true)) d undef) hp)
  (if want = true then runD C β k cuts (i + 1) all rest todo (put (fr.set t (.bool false)) d undef) hp else runD C β k cuts i all (o :: rest) todo (fr.set t (.bool false)) hp)
 | _ => runD C β k cuts (i + 1) all rest todo (put fr d undef) hp
def guardE (C : Cx) (β : Nat → Nat) (k : Nat) (cuts : List Nat) (i : Nat) (all rest : List Oper) (todo : List Item) (fr : List Value) (hp : List HE) (d : Option Tmp) (o : Oper) (want : Bool) : Option Tmp → Prop
 | none => False
 | some t => guardD C β k cuts i all rest todo fr hp d o want t (fr.getD t undef)
theorem runD_guard (d : Option Tmp) (op : Op) (t : TypeId) (p : String) (a : Array Edge) (j : Nat) (want : Bool) : runD C β (k + 1) cuts i all (⟨d, op, t, p, a, some (j, want)⟩ :: rest) todo fr hp =
  guardE C β k cuts i all rest todo fr hp d ⟨d, op, t, p, a, none⟩ want (slotOf all j) := by
 rw [runD]; rfl
theorem guardE_some {d : Option Tmp} {o : Oper} {want : Bool} (t : Tmp) : guardE C β k cuts i all rest todo fr hp d o want (some t) = guardD C β k cuts i all rest todo fr hp d o want t (fr.getD t undef) := rfl
theorem guardD_t {d : Option Tmp} {o : Oper} {t : Tmp} (b : Bool) : guardD C β k cuts i all rest todo fr hp d o true t (.bool b) =
 gd b (runD C β k cuts i all (o :: rest) todo (fr.set t (.bool true)) hp) (runD C β k cuts (i + 1) all rest todo (put (fr.set t (.bool false)) d undef) hp) := rfl
theorem guardD_f {d : Option Tmp} {o : Oper} {t : Tmp} (b : Bool) : guardD C β k cuts i all rest todo fr hp d o false t (.bool b) =
 gd b (runD C β k cuts (i + 1) all rest todo (put (fr.set t (.bool true)) d undef) hp) (runD C β k cuts i all (o :: rest) todo (fr.set t (.bool false)) hp) := rfl
theorem guardD_u {d : Option Tmp} {o : Oper} {want : Bool} {t : Tmp} : guardD C β k cuts i all rest todo fr hp d o want t undef = runD C β k cuts (i + 1) all rest todo (put fr d undef) hp := rfl
theorem contains_nil (i : Nat) : ([] : List Nat).contains i = false := rfl
theorem contains_cons (a i : Nat) (l : List Nat) : (a :: l).contains i = (decide (i = a) || l.contains i) := by
 simp only [List.contains_cons]; rfl
theorem slotOf_0 (d : Option Tmp) (op : Op) (t : TypeId) (p : String) (a : Array Edge) (g : Option (Nat × Bool)) (r : List Oper) : slotOf (⟨d, op, t, p, a, g⟩ :: r) 0 = d := rfl
theorem slotOf_s (o : Oper) (r : List Oper) (n : Nat) : slotOf (o :: r) (n + 1) = slotOf r n := rfl
theorem getD_0 (x : Value) (l : List Value) (d : Value) : (x :: l).getD 0 d = x := rfl
theorem getD_s (x : Value) (l : List Value) (n : Nat) (d : Value) : (x :: l).getD (n + 1) d = l.getD n d := rfl
theorem set_0 (x y : Value) (l : List Value) : (x :: l).set 0 y = y :: l := rfl
theorem set_s (x y : Value) (l : List Value) (n : Nat) : (x :: l).set (n + 1) y = x :: l.set n y := rfl
theorem get_0 (x : Value) (l : List Value) : (x :: l)[0]? = some x := rfl
theorem get_s (x : Value) (l : List Value) (n : Nat) : (x :: l)[n + 1]? = l[n]? := rfl
theorem hget_0 (x : HE) (l : List HE) : (x :: l)[0]? = some x := rfl
theorem hget_s (x : HE) (l : List HE) (n : Nat) : (x :: l)[n + 1]? = l[n]? := rfl
theorem hset_0 (x y : HE) (l : List HE) : (x :: l).set 0 y = y :: l := rfl
theorem hset_s (x y : HE) (l : List HE) (n : Nat) : (x :: l).set (n + 1) y = x :: l.set n y := rfl
theorem fget_0 (x : Nat × Nat × TypeId) (l : List (Nat × Nat × TypeId)) : (x :: l)[0]? = some x := rfl
theorem fget_s (x : Nat × Nat × TypeId) (l : List (Nat × Nat × TypeId)) (n : Nat) : (x :: l)[n + 1]? = l[n]? := rfl
theorem map_c {α γ : Type} (f : α → γ) (x : α) (l : List α) : (x :: l).map f = f x :: l.map f := rfl
theorem map_n {α γ : Type} (f : α → γ) : ([] : List α).map f = [] := rfl
theorem app_c {α : Type} (x : α) (l m : List α) : (x :: l) ++ m = x :: (l ++ m) := rfl
theorem app_n {α : Type} (m : List α) : ([] : List α) ++ m = m := rfl
theorem rep_s (n : Nat) (v : Value) : List.replicate (n + 1) v = v :: List.replicate n v := rfl
theorem rep_0 (v : Value) : List.replicate 0 v = [] := rfl
theorem drop_0 (l : List Value) : l.drop 0 = l := rfl
theorem drop_s (x : Value) (l : List Value) (n : Nat) : (x :: l).drop (n + 1) = l.drop n := rfl
theorem take_0 (l : List Value) : l.take 0 = [] := rfl
theorem take_s (x : Value) (l : List Value) (n : Nat) : (x :: l).take (n + 1) = x :: l.take n := rfl
theorem len_c {α : Type} (x : α) (l : List α) : (x :: l).length = l.length + 1 := rfl
theorem len_n {α : Type} : ([] : List α).length = 0 := rfl
theorem omap_s {α γ : Type} (f : α → γ) (x : α) : (some x).map f = some (f x) := rfl
theorem all_c (x : Value) (l : List Value) : (x :: l).all one = (one x && l.all one) := rfl
theorem all_n : ([] : List Value).all one = true := rfl
theorem one_int (q : IntKind) (n : Int) : one (.int q n) = true := rfl
theorem one_bool (b : Bool) : one (.bool b) = true := rfl
theorem one_string (s : ByteArray) : one (.string s) = true := rfl
theorem one_pointer (a : Option Addr) : one (.pointer a) = true := rfl
theorem one_slice (a : Option Addr) (n c : Nat) : one (.slice a n c) = true := rfl
theorem one_map (a : Option Nat) : one (.map a) = true := rfl
theorem one_func (f : Fn) (a b : Array Value) : one (.func f a b) = true := rfl
theorem one_nilFunc : one .nilFunc = true := rfl
theorem one_iface (t : TypeId) (v : Value) : one (.iface t v) = true := rfl
theorem one_nilIface : one .nilIface = true := rfl
theorem some_t (a : TI) : (some a).isSome = true := rfl
theorem none_b : (none : Option Addr).isNone = true := rfl
theorem some_b (a : Addr) : (some a).isNone = false := rfl
theorem k1 : ((1 : Nat) = 1 ∨ (1 : Nat) = 2) = True := by simp
theorem k2 : ((2 : Nat) = 1 ∨ (2 : Nat) = 2) = True := by simp
theorem tup1 (v : Value) : tupx [v] = v := rfl
theorem tup2 (u v : Value) : tupx [u, v] = .tuple [u, v].toArray := rfl
theorem tup3 (t u v : Value) : tupx [t, u, v] = .tuple [t, u, v].toArray := rfl
theorem tup0 : tupx [] = .tuple [].toArray := rfl
theorem tolist {α : Type} (l : List α) : l.toArray.toList = l := rfl
theorem dec_t : decide True = true := rfl
theorem dec_f : decide False = false := rfl
theorem and_t1 (p : Prop) : (True ∧ p) = p := by simp
theorem and_t2 (p : Prop) : (p ∧ True) = p := by simp
theorem and_f1 (p : Prop) : (False ∧ p) = False := by simp
theorem ite_t {α : Type} (a b : α) : (if True then a else b) = a := by simp
theorem ite_f {α : Type} (a b : α) : (if False then a else b) = b := by simp
theorem not_t : (!true) = false := rfl
theorem not_f : (!false) = true := rfl
theorem or_t1 (b : Bool) : (true || b) = true := rfl
theorem or_f1 (b : Bool) : (false || b) = b := rfl
theorem and_tb (b : Bool) : (true && b) = b := rfl
theorem and_fb (b : Bool) : (false && b) = false := rfl
theorem and_bt (b : Bool) : (b && true) = b := by cases b <;> rfl
theorem eq_ir (n : Int) : (n = n) = True := by simp
theorem eq_nr (n : Nat) : (n = n) = True := by simp
theorem ne_ (a b : Nat) : (a ≠ b) = ¬ (a = b) := rfl
theorem ne_i (a b : Int) : (a ≠ b) = ¬ (a = b) := rfl
theorem toNat_c (n : Nat) : ((n : Int)).toNat = n := rfl
theorem mul_1 (n : Nat) : n * 1 = n := by simp
theorem not_F : (¬ False) = True := by simp
theorem add_0 (n : Nat) : 0 + n = n := by simp
theorem zaf (k : Nat) : hold k = k := rfl
theorem gd_i {c : Prop} [Decidable c] {A B : Prop} (h1 : c → A) (h2 : ¬ c → B) : gd (decide c) A B := ⟨fun h => h1 (of_decide_eq_true h), fun h => h2 (of_decide_eq_false h)⟩
theorem gd_n {c : Prop} [Decidable c] {A B : Prop} (h1 : ¬ c → A) (h2 : c → B) : gd (!decide c) A B := ⟨fun h => h1 (of_decide_eq_false (by simpa using h)), fun h => h2 (of_decide_eq_true (by simpa using h))⟩
theorem gd_b {b : Bool} {A B : Prop} (h1 : b = true → A) (h2 : b = false → B) : gd b A B := ⟨h1, h2⟩
theorem wrap_u (n : Int) (h : 0 ≤ n ∧ n ≤ 18446744073709551615) : IntKind.u64.wrap n = n := by
 simp only [IntKind.wrap, IntKind.bits, IntKind.signed]
 simp
 omega
theorem wrap_i (n : Int) (h : -9223372036854775808 ≤ n ∧ n ≤ 9223372036854775807) : IntKind.i64.wrap n = n := by
 simp only [IntKind.wrap, IntKind.bits, IntKind.signed]
 simp
 omega
theorem cj {a b : Prop} (x : a) (y : b) : a ∧ b := ⟨x, y⟩
set_option linter.defProp false
def gx := cj @resK_val <| cj @resK_need <| cj @resK_mem <| cj @resK_call <| cj @resK_leaf <| cj @run_op <| cj @run_guard <| cj @guardK_some <| cj @guardV_t <| cj @guardV_f <| cj @guardV_u <| cj @run_end <| cj @run_ret <|
 cj @run_skip <| cj @run_label <| cj @run_inBlock <| cj @run_inScope <| cj @run_seq <| cj @run_block <| cj @run_scope <| cj @run_region <| cj @run_draw <| cj @run_loop <| cj @run_inLoop <| cj @run_range <|
 cj @goK_some <| cj @run_exit <| cj @run_goto <| cj @exitTo_in <| cj @exitTo_code <| cj @exitTo_loop <| cj @exitTo_scope <| cj @condK_bool <| cj @run_cond <| cj @evx_tmp <| cj @evx_const <| cj @evx_func <|
 cj @evx_global <| cj @put_some <| cj @put_none <| cj @opx_move <| cj @opx_assign <| cj @pickK_bool <| cj @opx_pick <| cj @pk_true <| cj @pk_false <| cj @pk_bool <| cj @opx_allocE <| cj @allocK_some <|
 cj @cellsV_agg <| cj @cellsV_int <| cj @cellsV_bool <| cj @cellsV_string <| cj @cellsV_pointer <| cj @cellsV_slice <| cj @cellsV_map <| cj @cellsV_func <| cj @cellsV_nilFunc <| cj @cellsV_iface <| cj @cellsV_nilIface <|
 cj @opx_boxE <| cj @ofO_some <| cj @loadC_t <| cj @loadC_f <| cj @loadL_some <| cj @loadB_c <| cj @loadB_r <| cj @loadV_p <| cj @opx_load <| cj @storeC_some <| cj @storeB_c <| cj @storeV_p <| cj @opx_storeE <|
 cj @fieldF_0 <| cj @fieldF_s <| cj @fieldT_st <| cj @fieldV_p <| cj @opx_fieldAddr <| cj @nilV_p <| cj @nilV_f <| cj @opx_nilCheck <| cj @opx_bin <| cj @bin_add <| cj @bin_sub <| cj @bin_mul <| cj @bin_quo <|
 cj @bin_rem <| cj @bin_lss <| cj @bin_leq <| cj @bin_gtr <| cj @bin_geq <| cj @bin_eql <| cj @bin_neq <| cj @bin_and <| cj @bin_or <| cj @bin_xor <| cj @bin_andNot <| cj @bin_shl <| cj @bin_shr <| cj @bin_eqls <|
 cj @bin_neqs <| cj @eqK_f <| cj @eqK_t <| cj @bin_eqlp <| cj @bin_neqp <| cj @bin_eqlf <| cj @bin_eqln <| cj @bin_eqlb <| cj @bin_neqb <| cj @bin_eqla <| cj @bin_neqa <| cj @eqx_T <| cj @eqT_int <| cj @eqT_bool <|
 cj @eqT_str <| cj @eqT_pn <| cj @eqT_ps <| cj @eqT_nn <| cj @eqT_fn <| cj @eqT_st <| cj @eqQ_some <| cj @eqs_nil <| cj @eqs_cons <| cj @eqP_some <| cj @partx_T <| cj @partT_t <| cj @partT_f <| cj @opx_un <|
 cj @unV_not <| cj @unV_neg <| cj @extrV_t <| cj @opx_extract <| cj @buildR_some <| cj @buildT_st <| cj @buildT_ar <| cj @opx_build <| cj @fillx_nil <| cj @fillx_cons <| cj @fillS_some <| cj @splice_0 <|
 cj @splice_z <| cj @splice_s <| cj @bslT_sl <| cj @opx_bsl <| cj @opx_makeFunc <| cj @mkiT_it <| cj @opx_makeInterface <| cj @idxV_int <| cj @idxT_sl <| cj @idxT_ar <| cj @opx_indexAddr <| cj @iofO_some <|
 cj @inxT_ar <| cj @inxT_str <| cj @inxV_int <| cj @opx_index <| cj @callV_f <| cj @opx_callV <| cj @lenT_sl <| cj @lenS_str <| cj @lenV_sl <| cj @lenV_str <| cj @opx_len <| cj @opx_convert <| cj @cvT_int <|
 cj @cvT_str <| cj @resx_nil <| cj @resx_tmp <| cj @resx_cell <| cj @resV_p <| cj @resB_c <| cj @resT_t <| cj @consO_some <| cj @resT_f <| cj @RetX_some <| cj @resM_t <| cj @resM_f <| cj @resC_val <| cj @resC_need <|
 cj @resC_mem <| cj @resC_call <| cj @resC_leaf <| cj @resQ_val <| cj @resQ_need <| cj @resQ_call <| cj @resQ_leaf <| cj @resQ_mem <| cj @softAt_a <| cj @lateAt_a <| cj @lateAt_s <| cj @softAt_s <| cj @runD_nil <|
 cj @runD_op <| cj @runD_guard <| cj @guardE_some <| cj @guardD_t <| cj @guardD_f <| cj @guardD_u <| cj @contains_nil <| cj @contains_cons <| cj @slotOf_0 <| cj @slotOf_s <| cj @getD_0 <| cj @getD_s <|
 cj @set_0 <| cj @set_s <| cj @get_0 <| cj @get_s <| cj @hget_0 <| cj @hget_s <| cj @hset_0 <| cj @hset_s <| cj @fget_0 <| cj @fget_s <| cj @map_c <| cj @map_n <| cj @app_c <| cj @app_n <| cj @rep_s <|
 cj @rep_0 <| cj @drop_0 <| cj @drop_s <| cj @take_0 <| cj @take_s <| cj @len_c <| cj @len_n <| cj @omap_s <| cj @all_c <| cj @all_n <| cj @one_int <| cj @one_bool <| cj @one_string <| cj @one_pointer <|
 cj @one_slice <| cj @one_map <| cj @one_func <| cj @one_nilFunc <| cj @one_iface <| cj @one_nilIface <| cj @some_t <| cj @none_b <| cj @some_b <| cj @k1 <| cj @k2 <| cj @tup1 <| cj @tup2 <| cj @tup3 <|
 cj @tup0 <| cj @tolist <| cj @dec_t <| cj @dec_f <| cj @and_t1 <| cj @and_t2 <| cj @and_f1 <| cj @ite_t <| cj @ite_f <| cj @not_t <| cj @not_f <| cj @or_t1 <| cj @or_f1 <| cj @and_tb <| cj @and_fb <| cj @and_bt <|
 cj @eq_ir <| cj @eq_nr <| cj @ne_ <| cj @ne_i <| cj @toNat_c <| cj @mul_1 <| cj @not_F <| @add_0
end Go.Gx
namespace Go.Gx
open Go.RowKit
section
variable {C : Cx} {β : Nat → Nat} {hp : List HE} {fr : List Value} {o : Oper} {K : Value → List HE → (Nat → Nat) → Prop}
theorem opX_val (hβ : Inj β) (v : Value) (h : ∀ w, HOk C.w0 β hp w → (execOp (evx fr) o).run C.P w = .ok (.value v) w) (hk : ∀ β', Inj β' → (∀ i, i < hp.length → β i = β' i) → K v hp β') : OpX C β hp fr o K :=
 fun w hw => .inl ⟨v, w, .inl (h w hw), hp, β, hw, hβ, Agree.refl _ _, fun β' h1 h2 => hk β' h1 fun i hi => (h2 i hi).symm⟩
theorem opX_new (hβ : Inj β) (v : Nat → Value) (e : HE) (he : e.kind = 2) (h : ∀ w, HOk C.w0 β hp w → (execOp (evx fr) o).run C.P w = .ok (.value (v w.heap.size)) { w with heap := w.heap.push e.obj })
  (hk : ∀ β', Inj β' → (∀ i, i < hp.length → β i = β' i) → K (v (β' hp.length)) (hp ++ [e]) β') : OpX C β hp fr o K := by
 intro w hw
 have hlt : ∀ i, i < hp.length → β i ≠ w.heap.size := by
  intro i hi
  have := hw.obj i _ (List.getElem?_eq_getElem hi)
  have := (Array.getElem?_eq_some_iff.1 this).1
  omega
 obtain ⟨β1, h1, h2, h3⟩ := extend hβ hp.length w.heap.size hlt
 refine .inl ⟨_, _, .inl (h w hw), hp ++ [e], β1, hw.alloc h2 h3 e he, h1, h2, fun β' h4 h5 => ?_⟩
 have hn : β' hp.length = w.heap.size := by rw [h5 _ (by simp), h3]
 rw [← hn]
 exact hk β' h4 fun i hi => by rw [h5 i (by simp; omega), h2 i hi]
theorem HOk.put {w0 w : World} (hβ : Inj β) (h : HOk w0 β hp w) {i : Nat} {e e' : HE} (hi : hp[i]? = some e) (hk : e.kind = 1 ∨ e.kind = 2) (hk' : e'.kind = e.kind) :
  HOk w0 β (hp.set i e') (setB w (β i) e'.obj) := by
 have hlen : i < hp.length := (List.getElem?_eq_some_iff.1 hi).1
 have h1 := h.obj i _ hi
 have hs : β i < w.heap.size := (Array.getElem?_eq_some_iff.1 h1).1
 refine ⟨h.os, h.tape, h.output, by rw [setB_size]; exact h.size, ?_, ?_, ?_⟩
 ·intro j x hx
  by_cases hj : j = i
  ·subst hj
   rw [List.getElem?_set_self hlen] at hx
   cases hx
   exact setB_get hs _
  ·rw [List.getElem?_set_ne (Ne.symm hj)] at hx
   rw [setB_ne (fun e => hj (hβ _ _ e))]; exact h.obj j x hx
 ·intro j x hx hkx
  by_cases hj : j = i
  ·subst hj
   rw [List.getElem?_set_self hlen] at hx
   cases hx
   exact h.fresh j _ hi (by rw [← hk']; exact hkx)
  ·rw [List.getElem?_set_ne (Ne.symm hj)] at hx
   exact h.fresh j x hx hkx
 ·intro r hr hno
  have hne : r ≠ β i := by
   intro e1
   rcases hk with hk1 | hk2
   ·exact hno i e' (by rw [List.getElem?_set_self hlen]) (by rw [hk', hk1]) e1.symm
   ·have := h.fresh i _ hi hk2
    omega
  rw [setB_ne hne]
  refine h.old r hr fun j x hx hkx => ?_
  by_cases hj : j = i
  ·subst hj; exact fun e => hne e.symm
  ·exact hno j x (by rw [List.getElem?_set_ne (Ne.symm hj)]; exact hx) hkx
theorem opX_set (hβ : Inj β) (v : Value) {i : Nat} {e : HE} (e' : HE) (hi : hp[i]? = some e) (he : e.kind = 1 ∨ e.kind = 2) (he' : e'.kind = e.kind)
  (h : ∀ w, HOk C.w0 β hp w → (execOp (evx fr) o).run C.P w = .ok (.value v) (setB w (β i) e'.obj) ∨ ((execOp (evx fr) o).run C.P w = .ok .skip (setB w (β i) e'.obj) ∧ v = undef))
  (hk : ∀ β', Inj β' → (∀ i, i < hp.length → β i = β' i) → K v (hp.set i e') β') : OpX C β hp fr o K :=
 fun w hw => .inl ⟨v, _, h w hw, hp.set i e', β, hw.put hβ hi he he', hβ, Agree.refl _ _, fun β' h1 h2 => hk β' h1 fun i hi => (h2 i (by simpa using hi)).symm⟩
end
def sets (fr : List Value) : List Nat → (Nat → Value) → List Value
 | [], _ => fr
 | s :: r, u => sets (fr.set s (u s)) r u
theorem sets_c (fr : List Value) (s : Nat) (r : List Nat) (u : Nat → Value) : sets fr (s :: r) u = sets (fr.set s (u s)) r u := rfl
theorem sets_self (fr : List Value) : ∀ (l : List Nat), sets fr l (fun s => fr.getD s undef) = fr
 | [] => rfl
 | s :: r => by
   have : fr.set s (fr.getD s undef) = fr := by
    apply List.ext_getElem?
    intro i
    rw [List.getElem?_set]
    by_cases h : s = i
    ·subst h
     by_cases hs : s < fr.length
     ·simp [hs]
     ·simp [hs]
    ·simp [h]
   rw [sets_c]
   simp only [this]
   exact sets_self fr r
theorem loop_sets {C : Cx} (hf : C.P.funcs[C.f]? = some C.fn) {body : Code} {todo : List Item} {β : Nat → Nat} (hβ : Inj β) {F : (Nat → Nat) → List Value} {hp : List HE} (slots : List Nat) (k : Nat)
  (J : Nat → (Nat → Nat) → (Nat → Value) → List HE → Prop) (m : Nat) (h0 : J m β (fun s => (F β).getD s undef) hp)
  (round : ∀ m, (∀ m' β fr hp, m' < m → Inj β → J m' β (fun s => fr.getD s undef) hp → sets (F β) slots (fun s => fr.getD s undef) = fr → GoX C β hp fr (.inLoop body :: todo)) →
   ∀ β u hp, Inj β → J m β u hp → ∀ β', Inj β' → (∀ i, i < hp.length → β i = β' i) → run C β' k [] [] (.code body :: .inLoop body :: todo) (sets (F β) slots u) hp) :
  GoX C β hp (F β) (.code (.loop body) :: todo) := by
 refine loop_rel hf k (fun m β fr hp => ∃ u, fr = sets (F β) slots u ∧ J m β u hp) ?_ hβ m ⟨_, (sets_self (F β) slots).symm, h0⟩
 intro m ih β fr hp hβ ⟨u, hfr, hJ⟩ β' hβ' ha
 subst hfr
 exact round m (fun m' β fr hp h1 h2 h3 h4 => ih m' β fr hp h1 h2 ⟨_, h4.symm, h3⟩) β u hp hβ hJ β' hβ' ha
theorem loop_setsR {C : Cx} {A : (Nat → Nat) → Prop} {F : (Nat → Nat) → List Value} {H : (Nat → Nat) → List HE} {body : Code} {todo : List Item} (hf : C.P.funcs[C.f]? = some C.fn) (slots : List Nat) (k : Nat)
  (J : Nat → (Nat → Nat) → (Nat → Value) → List HE → Prop) (m : Nat) (h0 : ∀ β, A β → J m β (fun s => (F β).getD s undef) (H β))
  (round : ∀ m, (∀ m' β fr hp, m' < m → Inj β → J m' β (fun s => fr.getD s undef) hp → sets (F β) slots (fun s => fr.getD s undef) = fr → GoX C β hp fr (.inLoop body :: todo)) →
   ∀ β u hp, Inj β → J m β u hp → ∀ β', Inj β' → (∀ i, i < hp.length → β i = β' i) → run C β' k [] [] (.code body :: .inLoop body :: todo) (sets (F β) slots u) hp) :
  ∀ β, Inj β → A β → GoX C β (H β) (F β) (.code (.loop body) :: todo) :=
 fun β hβ hA => loop_sets hf hβ slots k J m (h0 β hA) round
theorem ret_dec {p q : Prop} [Decidable p] [Decidable q] (h : p ↔ q) : Ending.returned (.bool (decide p)) = .returned (.bool (decide q)) :=
 congrArg (fun b => Ending.returned (.bool b)) (decide_eq_decide.2 h)
theorem ret_f {q : Prop} [Decidable q] (h : ¬ q) : Ending.returned (.bool false) = .returned (.bool (decide q)) :=
 congrArg (fun b => Ending.returned (.bool b)) (decide_eq_false h).symm
theorem ret_t {q : Prop} [Decidable q] (h : q) : Ending.returned (.bool true) = .returned (.bool (decide q)) :=
 congrArg (fun b => Ending.returned (.bool b)) (decide_eq_true h).symm
theorem ret_i {k : IntKind} {a b : Int} (h : a = b) : Ending.returned (.int k a) = .returned (.int k b) := by rw [h]
theorem ret_n {p q : Prop} [Decidable p] [Decidable q] (h : ¬ p ↔ q) : Ending.returned (.bool (!decide p)) = .returned (.bool (decide q)) := by
 rw [← decide_not]; exact ret_dec h
end Go.Gx
