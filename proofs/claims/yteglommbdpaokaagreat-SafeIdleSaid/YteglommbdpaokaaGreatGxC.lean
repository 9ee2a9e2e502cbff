/- The symbolic evaluator is right, part 2: one operation. -/
import Derived.Test.YteglommbdpaokaaGreatGxB
import Derived.Laws.StructEq
import Derived.Laws.Tables
namespace Go.Gx
open Go.RowKit
theorem HOk.alloc {w0 w : World} {β β' : Nat → Nat} {hp : List HE} (h : HOk w0 β hp w) (ha : Agree hp.length β β') (hb : β' hp.length = w.heap.size) (e : HE) (hk : e.kind = 2) :
  HOk w0 β' (hp ++ [e]) { w with heap := w.heap.push e.obj } := by
 have hlt : ∀ i x, hp[i]? = some x → i < hp.length := fun i x hx => (List.getElem?_eq_some_iff.1 hx).1
 refine ⟨h.os, h.tape, h.output, ?_, ?_, ?_, ?_⟩
 ·have := h.size; simp; omega
 ·intro i x hx
  rw [List.getElem?_append] at hx
  split at hx
  ·rename_i hi
   have h1 := h.obj i x hx
   have hs : β i < w.heap.size := (Array.getElem?_eq_some_iff.1 h1).1
   show (w.heap.push e.obj)[β' i]? = _
   rw [ha i hi, Array.getElem?_push, if_neg (by omega)]; exact h1
  ·rename_i hi
   have : i = hp.length ∧ x = e := by
    rcases Nat.lt_or_ge (i - hp.length) 1 with h2 | h2
    ·have h3 : i - hp.length = 0 := by omega
     rw [h3] at hx
     simp at hx
     exact ⟨by omega, hx.symm⟩
    ·rw [List.getElem?_eq_none (by simpa using h2)] at hx; cases hx
   obtain ⟨rfl, rfl⟩ := this
   show (w.heap.push x.obj)[β' hp.length]? = _
   rw [hb]; simp
 ·intro i x hx hk'
  rw [List.getElem?_append] at hx
  split at hx
  ·rename_i hi
   rw [ha i hi]; exact h.fresh i x hx hk'
  ·rename_i hi
   have : i = hp.length := by
    rcases Nat.lt_or_ge (i - hp.length) 1 with h2 | h2
    ·omega
    ·rw [List.getElem?_eq_none (by simpa using h2)] at hx; cases hx
   subst this
   rw [hb]; exact h.size
 ·intro r hr hno
  show (w.heap.push e.obj)[r]? = _
  have := h.size
  rw [Array.getElem?_push, if_neg (by omega)]
  refine h.old r hr fun i x hx hk' => ?_
  have hi := hlt i x hx
  rw [← ha i hi]
  exact hno i x (by rw [List.getElem?_append_left hi]; exact hx) hk'
theorem HOk.store {w0 w : World} {β : Nat → Nat} (hβ : Inj β) {hp : List HE} (h : HOk w0 β hp w) {i k : Nat} {l l' : List Value} {t : TypeId} (hi : hp[i]? = some (.c k l t)) (hk : k = 1 ∨ k = 2) : HOk w0 β (hp.set i (.c k l' t)) (setB w (β i) (.cells l'.toArray t)) := by
 have hlen : i < hp.length := (List.getElem?_eq_some_iff.1 hi).1
 have h1 := h.obj i _ hi
 have hs : β i < w.heap.size := (Array.getElem?_eq_some_iff.1 h1).1
 refine ⟨h.os, h.tape, h.output, by rw [setB_size]; exact h.size, ?_, ?_, ?_⟩
 ·intro j x hx
  by_cases hj : j = i
  ·subst hj
   rw [List.getElem?_set_self hlen] at hx
   cases hx
   exact setB_get hs _
  ·rw [List.getElem?_set_ne (Ne.symm hj)] at hx
   rw [setB_ne (fun e => hj (hβ _ _ e))]; exact h.obj j x hx
 ·intro j x hx hk'
  by_cases hj : j = i
  ·subst hj
   rw [List.getElem?_set_self hlen] at hx
   cases hx
   exact h.fresh j _ hi hk'
  ·rw [List.getElem?_set_ne (Ne.symm hj)] at hx
   exact h.fresh j x hx hk'
 ·intro r hr hno
  have hne : r ≠ β i := by
   intro e
   by_cases hk1 : k = 1
   ·exact hno i (.c k l' t) (by rw [List.getElem?_set_self hlen]) hk1 e.symm
   ·have := h.fresh i _ hi (by show k = 2; omega)
    omega
  rw [setB_ne hne]
  refine h.old r hr fun j x hx hk' => ?_
  by_cases hj : j = i
  ·subst hj; exact fun e => hne e.symm
  ·exact hno j x (by rw [List.getElem?_set_ne (Ne.symm hj)]; exact hx) hk'
theorem HOk.blockAt {w0 w : World} {β : Nat → Nat} {hp : List HE} (h : HOk w0 β hp w) {b : Nat} {k : Nat} {l : List Value} {t : TypeId} (hl : lk β b hp = some (.c k l t)) :
  w.heap[b]? = some (.cells l.toArray t) := by
 obtain ⟨i, rfl, hi⟩ := lk_some hl
 exact h.obj i _ hi
theorem HOk.cellsAt {w0 w : World} {β : Nat → Nat} {hp : List HE} (h : HOk w0 β hp w) {b : Nat} {l : List Value} (hl : (lk β b hp).bind HE.cs = some l) :
  ∃ t z, w.heap[b]? = some (.cells l.toArray t z) := by
 cases hk : lk β b hp with
 | none => rw [hk] at hl; cases hl
 | some e =>
   rw [hk] at hl
   obtain ⟨i, rfl, hi⟩ := lk_some hk
   have := h.obj i _ hi
   cases e with
   | c k l' t => cases hl; exact ⟨t, _, this⟩
   | r l' t z => cases hl; exact ⟨t, z, this⟩
   | o k x => cases hl
theorem lk_agree {β β' : Nat → Nat} (hβ : Inj β) (hβ' : Inj β') {hp : List HE} (ha : Agree hp.length β β') (b : Nat) : lk β' b hp = lk β b hp := by
 by_cases h : ∃ i, i < hp.length ∧ β i = b
 ·obtain ⟨i, hi, rfl⟩ := h
  rw [zak hβ, ← ha i hi, zak hβ']
 ·have h' : ¬ ∃ i, i < hp.length ∧ β' i = b := fun ⟨i, hi, e⟩ => h ⟨i, hi, by rw [← ha i hi]; exact e⟩
  unfold lk
  rw [dif_neg h, dif_neg h']
theorem ix_agree {β β' : Nat → Nat} (hβ : Inj β) (hβ' : Inj β') {hp : List HE} (ha : Agree hp.length β β') {b : Nat} {e : HE} (h : lk β b hp = some e) : ix β' b = ix β b := by
 obtain ⟨i, rfl, hi⟩ := lk_some h
 have hlt : i < hp.length := (List.getElem?_eq_some_iff.1 hi).1
 rw [zaj hβ, ← ha i hlt, zaj hβ']
def makes : Op → Bool
 | .alloc _ | .box _ _ | .buildSlice _ _ _ => true
 | _ => false
theorem opx_agree {P : Program} {β β' : Nat → Nat} (hβ : Inj β) (hβ' : Inj β') {hp : List HE} (ha : Agree hp.length β β') (op : Op) (fr : List Value) (hm : makes op = false) :
  opx P β' op fr hp = opx P β op fr hp := by
 cases op with
 | load t a => simp only [opx, lk_agree hβ hβ' ha]
 | store t a x =>
   simp only [opx, lk_agree hβ hβ' ha]
   split
   ·rename_i b off _
    split
    ·rename_i k l ty hl
     rw [ix_agree hβ hβ' ha hl]
    ·rfl
   ·rfl
 | alloc t => cases hm
 | box t x => cases hm
 | buildSlice t n ps => cases hm
 | call c =>
   obtain ⟨callee, xs, ts⟩ := c
   cases callee with
   | builtin b => cases b <;> rfl
   | _ => rfl
 | _ => rfl
def Asks (C : Cx) (β : Nat → Nat) (fr : List Value) (hp : List HE) (o : Oper) (K : Value → List HE → (Nat → Nat) → Prop) : Res → Prop
 | .val v => K v hp β
 | .need φ v => φ ∧ K v hp β
 | .mem φ v hp' => φ ∧ K v hp' β
 | .call f args => fnOk C.P f = true ∧ CallX C β hp f args K
 | .leaf => OpX C β hp fr o K
theorem eval_evx (fr : List Value) : (⟨fr.toArray, []⟩ : Act).eval = evx fr := by
 funext x; cases x <;> simp [Act.eval, evx]
theorem put_put (fr : List Value) (d : Option Tmp) (v : Value) : (⟨fr.toArray, []⟩ : Act).put d v = ⟨(put fr d v).toArray, []⟩ := by
 cases d <;> simp [Act.put, put]
theorem fill_fillx (place : Nat → Option (Nat × Nat)) : ∀ (ps : List (Nat × Value)) (cells : List Value),
  Instr.fill place cells.toArray ps = (fillx place cells ps).map (·.toArray)
 | [], cells => by simp [Instr.fill, fillx]
 | (i, v) :: rest, cells => by
   simp only [Instr.fill, fillx]
   cases place i with
   | none => rfl
   | some os =>
     obtain ⟨off, size⟩ := os
     simp only
     by_cases h : v.cells.size ≠ size ∨ off + v.cells.size > cells.length
     ·rw [if_pos h, if_pos (by simpa using h)]; rfl
     ·rw [if_neg h, if_neg (by simpa using h), ← fill_fillx place rest]
      congr 1
      have hl : off + v.cells.size ≤ cells.length := by omega
      have key : ∀ (cs : List Value) (j : Nat) (acc : List Value), off + j + cs.length ≤ acc.length →
        (cs.zipIdx j).foldl (fun (a : Array Value) (c : Value × Nat) => a.setIfInBounds (off + c.2) c.1) acc.toArray = (splice acc (off + j) cs).toArray := by
       intro cs
       induction cs with
       | nil => intro j acc _; simp [splice_nil]
       | cons c cs ih =>
         intro j acc hacc
         simp only [List.length_cons] at hacc
         simp only [List.zipIdx_cons, List.foldl_cons, List.setIfInBounds_toArray]
         rw [ih (j + 1) _ (by simp; omega), ← Nat.add_assoc, splice_cons _ _ _ _ (by omega)]
      have := key v.cells.toList 0 cells (by simp; omega)
      simp only [Nat.add_zero] at this
      rw [← this, ← Array.foldl_toList]
      simp
section
variable {P : Program} {w0 w : World} {β : Nat → Nat} {hp : List HE} {fr : List Value}
theorem partx_run {t : TypeId} {xs : List Value} {off : Nat} {v : Value} (h : partx P t xs off = some v) (w : World) : (part t xs.toArray off).run P w = .ok v w := by
 unfold partx at h
 split at h
 ·rename_i ti hti
  obtain ⟨i, d, z, hi, hd, hz, hs, _, hag, _⟩ := zai hti
  split at h
  ·rename_i ha
   have hd' : (isAgg t).run P w = .ok true w := by rw [run_isAgg' hd]; cases d <;> simp_all
   cases h
   simp only [part, Sem.run_bind, hd', Result.andThen_ok, if_true, zar hi, Sem.run_pure, Result.ok.injEq, Value.agg.injEq, and_true, hs]
   simp
  ·rename_i ha
   have hd' : (isAgg t).run P w = .ok false w := by rw [run_isAgg' hd]; cases d <;> simp_all
   simp [part, hd', h]
 ·cases h
theorem eqx_run : ∀ (d : Nat) (t : TypeId) (x y : Value) (b : Bool), eqx P d t x y = some b → ∀ w, (Op.equalIn d t x y).run P w = .ok b w
 | 0, _, _, _, _, h, _ => by simp [eqx] at h
 | d + 1, t, x, y, b, h, w => by
   simp only [eqx] at h
   split at h
   ·cases h
   ·rename_i ti hti
    obtain ⟨i, dd, z, hi, hd, hz, hs, _, hag, hk⟩ := zai hti
    split at h
    ·rename_i k0 k a k' b' hkd
     simp only [hkd] at hk
     subst hk
     split at h
     ·rename_i hkk
      cases h; subst hkk
      simp [Op.equalIn, run_underlying hd]
     ·cases h
    ·rename_i a b' hkd; simp only [hkd] at hk; subst hk; cases h; simp [Op.equalIn, run_underlying hd]
    ·rename_i a b' hkd; simp only [hkd] at hk; subst hk; cases h; simp [Op.equalIn, run_underlying hd]
    ·rename_i b' hkd; simp only [hkd] at hk; obtain ⟨e, rfl⟩ := hk; cases h; simp [Op.equalIn, run_underlying hd]
    ·rename_i b' hkd; simp only [hkd] at hk; obtain ⟨e, rfl⟩ := hk; cases h; simp [Op.equalIn, run_underlying hd]
    ·rename_i hkd; simp only [hkd] at hk; obtain ⟨a, b, c, rfl⟩ := hk; cases h; simp [Op.equalIn, run_underlying hd]
    ·rename_i hkd; simp only [hkd] at hk; obtain ⟨a, b, c, rfl⟩ := hk; cases h; simp [Op.equalIn, run_underlying hd]
    ·rename_i hkd; simp only [hkd] at hk; obtain ⟨a, b, c, rfl⟩ := hk; cases h; simp [Op.equalIn, run_underlying hd]
    ·rename_i hkd; simp only [hkd] at hk; obtain ⟨ms, rfl⟩ := hk; cases h; simp [Op.equalIn, run_underlying hd]
    ·rename_i hkd; simp only [hkd] at hk; obtain ⟨ms, rfl⟩ := hk; cases h; simp [Op.equalIn, run_underlying hd]
    ·rename_i fs xs ys hkd
     simp only [hkd] at hk
     obtain ⟨gs, rfl, rfl, hc, hinf⟩ := hk
     clear hinf
     have hc' := hc.symm
     simp only [cmpOk, Bool.and_eq_true] at hc'
     have hc1 : P.stoodInHeld t = false := by simpa using hc'.1.1
     have hc2 : ∀ f ∈ gs.toList, f.name ≠ "_" := by
      intro f hf
      have := Array.all_eq_true'.1 hc'.1.2 f (by simpa using hf)
      simpa using this
     clear hc'
     have hfo : P.fieldsOf t = gs := by simp [Program.fieldsOf, hd]
     rw [run_equalIn_struct w d t xs ys (by rw [hfo]; exact hd) hc1, hfo]
     clear hc hfo hd hkd
     generalize gs.toList = gl at *
     induction gl generalizing b with
     | nil => simp [eqx.eqs] at h; subst h; simp [Op.eqFields]
     | cons f gl ih =>
       simp only [List.map_cons, eqx.eqs] at h
       split at h
       ·rename_i u v hu hv
        split at h
        ·rename_i b1 hb1
         simp only [Option.map_eq_some_iff] at h
         obtain ⟨b2, hb2, rfl⟩ := h
         have h1 := partx_run hu w
         have h2 := partx_run hv w
         have h3 := eqx_run d _ _ _ _ hb1 w
         simp only [Op.eqFields, Sem.run_bind, Sem.run_ite]
         rw [if_pos (hc2 f (by simp)), h1]
         simp only [Result.andThen_ok]
         rw [h2]
         simp only [Result.andThen_ok]
         rw [h3]
         simp only [Result.andThen_ok]
         cases b1
         ·simp
         ·simp only [Bool.not_true, Bool.false_eq_true, if_false, Bool.true_and]
          exact ih b2 hb2 (fun g hg => hc2 g (List.mem_cons_of_mem _ hg))
        ·cases h
       ·cases h
    ·cases h
theorem run_guard_eqx {op : BinOp} {t : TypeId} {x y : Operand} {a b : Value} {r : Bool} {d : Nat} (h : eqx P d t a b = some r) (w : World) : (eqGuard op t x y a b).run P w = .ok () w := by
 cases d with
 | zero => simp [eqx] at h
 | succ d =>
   simp only [eqx] at h
   split at h
   ·cases h
   ·rename_i ti hti
    obtain ⟨i, dd, z, hi, hd, hz, hs, _, hag, hk⟩ := zai hti
    split at h
    all_goals try (cases op <;> simp [eqGuard]; done)
    ·rename_i fs xs ys hkd
     simp only [hkd] at hk
     obtain ⟨gs, rfl, rfl, hc, _⟩ := hk
     have hc' := hc.symm
     simp only [cmpOk, Bool.and_eq_true] at hc'
     exact run_eqGuard_agg w op t x y xs ys (by simpa using hc'.2)
    ·cases h
theorem binOp_eqx {t : TypeId} {a b : Value} {r : Bool} {d : Nat} (h : eqx P (d + 1) t a b = some r) (w : World) (hr : (Op.equal t a b).run P w = .ok r w) :
  (binOp .eql t a b).run P w = .ok (.bool r) w ∧ (binOp .neq t a b).run P w = .ok (.bool (!r)) w := by
 simp only [eqx] at h
 split at h
 ·cases h
 ·split at h
  ·split at h
   ·cases h; simp [binOp, *, Op.intCmp]; rfl
   ·cases h
  all_goals first
   | (simp only [binOp]; simp [hr]; done)
   | (cases h; simp [binOp, Op.stringOp, beq_toListBytes]; done)
   | cases h
theorem run_bin {t : TypeId} {op : BinOp} {x y : Operand} {φ : Prop} {v : Value} (a b : Value) (h : bin P op t a b = .val v ∨ (bin P op t a b = .need φ v ∧ φ)) (w : World) :
  (do eqGuard op t x y a b; binOp op t a b).run P w = .ok v w := by
 unfold bin at h
 split at h
 case h_20 =>
  split at h <;> simp at h
  rename_i r hr
  subst h
  rw [Sem.run_bind, run_guard_eqx hr]
  exact (binOp_eqx (d := 9999) hr w (eqx_run _ _ _ _ _ hr w)).1
 case h_21 =>
  split at h <;> simp at h
  rename_i r hr
  subst h
  rw [Sem.run_bind, run_guard_eqx hr]
  exact (binOp_eqx (d := 9999) hr w (eqx_run _ _ _ _ _ hr w)).2
 case h_16 =>
  simp at h
  obtain ⟨⟨h1, rfl⟩, h2⟩ := h
  have h3 := h1.2 h2
  simp [eqGuard, binOp, Op.shift, Int.not_lt.2 h3]
 case h_17 =>
  simp at h
  obtain ⟨⟨h1, rfl⟩, h2⟩ := h
  have h3 := h1.2 h2
  simp [eqGuard, binOp, Op.shift, Int.not_lt.2 h3]
 case h_18 =>
  simp at h; subst h
  simp [eqGuard, binOp, Op.stringOp, beq_toListBytes]
 case h_19 =>
  simp at h; subst h
  simp only [Sem.run_bind]
  simp [eqGuard, binOp, Op.stringOp, bne, beq_toListBytes]
 case h_22 => simp at h
 all_goals
  split at h
  ·simp at h
   rename_i hk
   subst hk
   first
    | (subst h; simp [eqGuard, binOp, Op.intArith, Op.intCmp, Op.intBits, bitsN]; done)
    | (obtain ⟨⟨h1, rfl⟩, h2⟩ := h
       have h3 := h1.2 h2
       simp [eqGuard, binOp, Op.intDiv, h3]; done)
  ·simp at h
theorem opx_pure {o : Oper} {φ : Prop} {v : Value} (hw : HOk w0 β hp w) (h : opx P β o.op fr hp = .val v ∨ (opx P β o.op fr hp = .need φ v ∧ φ)) :
  (execOp (evx fr) o).run P w = .ok (.value v) w := by
 obtain ⟨d, op, ty, pos, aft, g⟩ := o
 simp only at h
 cases op with
 | move x => simp [opx] at h; subst h; simp [execOp]
 | assign x => simp [opx] at h; subst h; simp [execOp]
 | pick c a b =>
   simp only [opx] at h
   split at h <;> simp at h
   rename_i t ht
   subst h
   simp only [execOp, ht, asBool, pk, Sem.run_bind, Sem.run_pure, Result.andThen_ok]
 | load t a =>
   simp only [opx] at h
   split at h <;> try (simp at h; done)
   rename_i b off ha
   split at h <;> try (simp at h; done)
   rename_i l hl
   split at h <;> try (simp at h; done)
   rename_i ti hti
   obtain ⟨ty', fz, hb⟩ := hw.cellsAt hl
   split at h
   ·rename_i hag
    simp only [reduceCtorEq, Res.need.injEq, false_or] at h
    obtain ⟨⟨h1, rfl⟩, h2⟩ := h
    have hφ : off + ti.sz ≤ l.length := by rw [h1]; exact h2
    simp [execOp, Instr.loadAt, Instr.sureAddr, ha, run_load_agg hb off hti hag hφ]
   ·rename_i hag
    split at h <;> simp at h
    rename_i u hu
    subst h
    simp [execOp, Instr.loadAt, Instr.sureAddr, ha, run_load_one hb off hti hag hu]
 | fieldAddr s x f =>
   simp only [opx] at h
   split at h <;> try (simp at h; done)
   rename_i b off sp hx
   split at h <;> try (simp at h; done)
   rename_i sz ag z fs cm hti
   split at h <;> try (simp at h; done)
   rename_i d' n ft hf
   split at h <;> simp at h
   rename_i hn
   subst h
   obtain ⟨i, dd, zz, hi, hd, _, _, _, _, gs, rfl, hfs, _, _⟩ := zai hti
   subst hfs
   simp only [List.getElem?_map, Option.map_eq_some_iff] at hf
   obtain ⟨fl, hfl, he⟩ := hf
   simp only [Prod.mk.injEq] at he
   obtain ⟨rfl, rfl, rfl⟩ := he
   have hfl' : gs[f]? = some fl := by simpa using hfl
   have hne : cellsOf P fl.type ≠ 0 := hn
   obtain ⟨i2, hi2⟩ : ∃ i2, P.info? fl.type = some i2 := by
    cases hq : P.info? fl.type with
    | none => simp [cellsOf, hq] at hne
    | some i2 => exact ⟨i2, rfl⟩
   have hs2 : i2.size ≠ 0 := by simpa [cellsOf, hi2] using hne
   simp [execOp, Instr.fieldAt, run_underlying hd, hfl', Instr.sureAddr, hx, fieldPlace, zar hi2, hs2]
 | nilCheck x =>
   simp only [opx] at h
   split at h <;> simp at h
   ·rename_i a ha; subst h; simp [execOp, ha]
   ·rename_i g a b ha; subst h; simp [execOp, ha]
 | binOp op t x y t' =>
   simp only [opx] at h
   have := run_bin (P := P) (t := t) (x := x) (y := y) _ _ h w
   simp only [execOp]
   rw [Sem.run_bind, this]; rfl
 | unOp op t x =>
   simp only [opx] at h
   split at h <;> simp at h
   ·rename_i b hb; subst h; simp [execOp, hb, Op.unary]
   ·rename_i k n hb; subst h; simp [execOp, hb, Op.unary, Op.intArith]
 | extract x i =>
   simp only [opx] at h
   split at h <;> try (simp at h; done)
   rename_i vs hvs
   split at h <;> simp at h
   rename_i u hu
   subst h
   have hu' : vs[i]? = some u := by simpa using hu
   simp [execOp, Instr.extract, hvs, hu']
 | build t ps =>
   simp only [opx] at h
   split at h <;> try (simp at h; done)
   ·rename_i sz ag z fs cm hti
    split at h <;> simp at h
    rename_i l hl
    subst h
    obtain ⟨i, dd, zz, hi, hd, hz, _, hzz, _, gs, rfl, hfs, _, hall⟩ := zai hti
    subst hfs
    have hpl : gs.toList.mapM (fun f => (P.info? f.type).map fun i => (f.offset, i.size)) = some (gs.toList.map fun f => (f.offset, cellsOf P f.type)) := by
     clear hl hd hti
     generalize gs.toList = gl at hall
     induction gl with
     | nil => rfl
     | cons f gl ih =>
       have h1 := hall f (by simp)
       obtain ⟨i2, hi2⟩ := Option.isSome_iff_exists.1 h1
       rw [List.mapM_cons, ih (fun g hg => hall g (List.mem_cons_of_mem _ hg))]
       simp [hi2, cellsOf]
    have h2 := run_places (P := P) w _ _ hpl
    have hz' : zz.cells = z.toArray := by simp only at hzz; rw [hzz]
    have hp2 : (fun (i : Nat) => ((gs.toList.map fun f => (f.offset, cellsOf P f.type, f.type))[i]?).map fun (f : Nat × Nat × TypeId) => (f.1, f.2.1)) = fun i => (gs.toList.map fun f => (f.offset, cellsOf P f.type))[i]? := by
     funext i; simp [List.getElem?_map]
     cases gs[i]? <;> rfl
    have h3 : Instr.fill (fun i => (gs.toList.map fun f => (f.offset, cellsOf P f.type))[i]?) z.toArray (ps.toList.map fun q => (q.1, evx fr q.2)) = some l.toArray := by
     rw [fill_fillx, ← hp2]; simp only [hl]; rfl
    simp [execOp, Instr.build, run_zero' hi hz, run_underlying hd, Array.mapM_eq_mapM_toList, h2, hz']
    try simp at h3
    simp [h3]
   ·rename_i sz ag z n e et hti
    split at h <;> simp at h
    rename_i l hl
    subst h
    obtain ⟨i, dd, zz, hi, hd, hz, _, hzz, _, rfl, rfl, hall⟩ := zai hti
    obtain ⟨i2, hi2⟩ := Option.isSome_iff_exists.1 hall
    have hz' : zz.cells = z.toArray := by simp only at hzz; rw [hzz]
    have hc : cellsOf P et = i2.size := by simp [cellsOf, hi2]
    have h3 : Instr.fill (fun i => some (i * cellsOf P et, cellsOf P et)) z.toArray (ps.toList.map fun q => (q.1, evx fr q.2)) = some l.toArray := by
     rw [fill_fillx, hl]; rfl
    simp [execOp, Instr.build, run_zero' hi hz, run_underlying hd, hz', zar hi2]
    rw [hc] at h3
    try simp at h3
    simp [h3]
 | makeFunc fn a b =>
   simp [opx] at h
   subst h
   have e : ∀ c : Array Operand, (List.map (evx fr) c.toList).toArray = c.map (evx fr) := fun c => by apply Array.ext'; simp
   simp [execOp, Instr.makeFunc, e]
 | makeInterface t x =>
   simp only [opx] at h
   split at h <;> simp at h
   rename_i sz ag z k hti
   subst h
   obtain ⟨i, dd, zz, hi, hd, hz, _, hzz, _, hk⟩ := zai hti
   simp only at hk
   subst hk
   simp [execOp, Instr.makeInterface, run_underlying hd]
 | indexAddr t x i =>
   simp only [opx] at h
   split at h <;> try (simp at h; done)
   rename_i k n hn
   split at h <;> simp at h
   ·rename_i sz ag z e et b off sp len cap hti hx
    obtain ⟨⟨h1, rfl⟩, h2⟩ := h
    have hφ := h1.2 h2
    obtain ⟨i, dd, zz, hi, hd, hz, _, hzz, _, rfl, rfl, hall⟩ := zai hti
    obtain ⟨i2, hi2⟩ := Option.isSome_iff_exists.1 hall
    have hc : cellsOf P et = i2.size := by simp [cellsOf, hi2]
    simp [execOp, Instr.indexAt, hn, asIntOf, run_underlying hd, hx, hφ, zar hi2, hc]
   ·rename_i sz ag z len e et b off sp hti hx
    obtain ⟨⟨h1, rfl⟩, h2⟩ := h
    have hφ := h1.2 h2
    obtain ⟨i, dd, zz, hi, hd, hz, _, hzz, _, rfl, rfl, hall⟩ := zai hti
    obtain ⟨i2, hi2⟩ := Option.isSome_iff_exists.1 hall
    have hc : cellsOf P et = i2.size := by simp [cellsOf, hi2]
    simp [execOp, Instr.indexAt, hn, asIntOf, run_underlying hd, hx, hφ, zar hi2, hc, Instr.sureAddr]
 | index t x i =>
   simp only [opx] at h
   split at h <;> try (simp at h; done)
   rename_i k n hn
   split at h <;> try (simp at h; done)
   rename_i ti hti
   obtain ⟨sz, ag, z, kd⟩ := ti
   obtain ⟨i, dd, zz, hi, hd, hz, _, hzz, _, hk⟩ := zai hti
   cases kd with
   | ar len e et =>
     simp only [inxK] at h
     unfold inxA at h
     split at h <;> try (simp at h; done)
     rename_i cs hx
     split at h <;> try (simp at h; done)
     rename_i u hu
     simp only [reduceCtorEq, Res.need.injEq, false_or] at h
     obtain ⟨⟨h1, rfl⟩, h2⟩ := h
     have hφ : 0 ≤ n ∧ n < len := by rw [h1]; exact h2
     obtain ⟨rfl, rfl, hall⟩ := hk
     obtain ⟨i2, hi2⟩ := Option.isSome_iff_exists.1 hall
     have hc : cellsOf P et = i2.size := by simp [cellsOf, hi2]
     have hp := partx_run hu w
     rw [hc] at hp
     simp only [Array.toArray_toList] at hp
     simp [execOp, Instr.index, hn, asIntOf, run_underlying hd, hx, hφ, zar hi2, hp]
   | str =>
     simp only [inxK] at h
     unfold inxS at h
     split at h <;> try (simp at h; done)
     rename_i s hx
     simp only [reduceCtorEq, Res.need.injEq, false_or] at h
     obtain ⟨⟨h1, rfl⟩, h2⟩ := h
     have hφ : 0 ≤ n ∧ n < s.size := by rw [h1]; exact h2
     subst hk
     have hlt : n.toNat < s.size := by omega
     have hs : s[n.toNat]? = some (s[n.toNat]) := by simp [hlt]
     have hb : s.data.toList.getD n.toNat 0 = s[n.toNat] := by
      have : n.toNat < s.data.toList.length := by simpa using hlt
      rw [List.getD_eq_getElem?_getD, List.getElem?_eq_getElem this]
      rfl
     rw [hb]
     simp [execOp, Instr.index, hn, asIntOf, run_underlying hd, hx, hφ]
   | _ => simp [inxK] at h
 | call c =>
   obtain ⟨callee, xs, ts⟩ := c
   cases callee with
   | value f => simp only [opx] at h; split at h <;> simp at h
   | invoke r m => simp [opx] at h
   | builtin b =>
     cases b <;> simp only [opx] at h <;> try (simp at h; done)
     split at h <;> try (simp at h; done)
     ·rename_i a n cap t h1 h2
      split at h <;> simp at h
      rename_i sz ag z e et hti
      subst h
      obtain ⟨i, dd, zz, hi, hd, hz, _, hzz, _, rfl, rfl, hall⟩ := zai hti
      have e1 : xs.map (evx fr) = #[.slice a n cap] := by apply Array.ext'; simpa using h1
      have e2 : ts = #[t] := by apply Array.ext'; simpa using h2
      simp [execOp, resolve, invoke, builtin, Builtin.len_, e1, e2, run_underlying hd, goInt]
     ·rename_i b t h1 h2
      split at h <;> simp at h
      rename_i sz ag z hti
      subst h
      obtain ⟨i, dd, zz, hi, hd, hz, _, hzz, _, hk⟩ := zai hti
      simp only at hk
      subst hk
      have e1 : xs.map (evx fr) = #[.string b] := by apply Array.ext'; simpa using h1
      have e2 : ts = #[t] := by apply Array.ext'; simpa using h2
      simp [execOp, resolve, invoke, builtin, Builtin.len_, e1, e2, run_underlying hd, goInt]
 | convert s d' x =>
   simp only [opx] at h
   split at h <;> simp at h
   ·rename_i n k hn hti hts
    subst h
    obtain ⟨i, dd, zz, hi, hd, hz, _, hzz, _, hk⟩ := zai hti
    obtain ⟨i', dd', zz', hi', hd', _⟩ := zai hts
    simp only at hk
    subst hk
    simp [execOp, convert, run_underlying hd, run_underlying hd', hn, Conv.intToInt]
   ·rename_i b hn hti hts
    subst h
    obtain ⟨i, dd, zz, hi, hd, hz, _, hzz, _, hk⟩ := zai hti
    obtain ⟨i', dd', zz', hi', hd', _⟩ := zai hts
    simp only at hk
    subst hk
    simp [execOp, convert, run_underlying hd, run_underlying hd', hn]
 | alloc t => simp only [opx] at h; split at h <;> simp at h
 | buildSlice t n ps =>
   simp only [opx] at h
   split at h <;> try (simp at h; done)
   all_goals (split at h <;> simp at h)
 | store t a x =>
   simp only [opx] at h
   repeat' (split at h <;> try (simp at h; done))
 | _ => simp [opx] at h
theorem opx_alloc {o : Oper} {t : TypeId} {ti : TI} (ho : o.op = .alloc t) (ht : tiof P t = some ti) (w : World) :
  (execOp (evx fr) o).run P w = .ok (.value (.pointer (some ⟨w.heap.size, 0, none⟩))) { w with heap := w.heap.push (HE.c 2 ti.zero t).obj } := by
 obtain ⟨i, d, z, hi, hd, hz, _, hzz, _⟩ := zai ht
 have hz' : z.cells = ti.zero.toArray := by rw [hzz]
 simp [execOp, ho, Instr.alloc, run_zero' hi hz, newVar, newRow, hz', HE.obj]
theorem opx_box {o : Oper} {t : TypeId} {x : Operand} (ho : o.op = .box t x) (w : World) :
  (execOp (evx fr) o).run P w = .ok (.value (.pointer (some ⟨w.heap.size, 0, none⟩))) { w with heap := w.heap.push (HE.c 2 (evx fr x).cells.toList t).obj } := by
 simp [execOp, ho, Instr.box, newVar, newRow, HE.obj]
theorem opx_buildSlice {o : Oper} {t : TypeId} {x : Operand} {ps : Array (Nat × Operand)} {sz : Nat} {ag : Bool} {z : List Value} {e : Nat} {et : TypeId} (ho : o.op = .buildSlice t 1 ps) (hps : ps.toList = [(0, x)])
  (ht : tiof P t = some ⟨sz, ag, z, .sl e et⟩) (he : e ≠ 0) (he2 : e ≤ 16777216) (hs : (evx fr x).cells.size = e) (hte : (tiof P et).isSome = true) (w : World) :
  (execOp (evx fr) o).run P w = .ok (.value (.slice (some ⟨w.heap.size, 0, none⟩) 1 1)) { w with heap := w.heap.push (HE.c 2 (evx fr x).cells.toList et).obj } := by
 obtain ⟨i, d, zz, hi, hd, hz, _, _, _, rfl, rfl, hall⟩ := zai ht
 obtain ⟨i2, hi2⟩ := Option.isSome_iff_exists.1 hall
 obtain ⟨ti2, hti2⟩ := Option.isSome_iff_exists.1 hte
 obtain ⟨i3, d3, z3, hi3, hd3, hz3, _⟩ := zai hti2
 have hc : cellsOf P et = i2.size := by simp [cellsOf, hi2]
 have hcells : ∀ m : Nat, ((List.replicate m undef).length = m) := fun m => by simp
 have hfill : ∀ cs : List Value, cs.length = i2.size → Instr.fill (fun i => some (i * i2.size, i2.size)) cs.toArray [(0, evx fr x)] = some (evx fr x).cells := by
  intro cs hcs
  rw [fill_fillx]
  simp only [fillx, Nat.zero_mul, Nat.zero_add]
  rw [if_neg (by omega)]
  simp only [Option.map_some, splice, List.take_zero, List.nil_append, Nat.zero_add]
  rw [List.drop_eq_nil_of_le (by simp; omega)]
  simp
 have eps : ps = #[(0, x)] := by apply Array.ext'; simpa using hps
 have hz0 : i2.size ≠ 0 := by omega
 have hf2 := hfill ((List.range i2.size).map fun j => z3.cells[j % z3.cells.size]!) (by simp)
 have ea : ((List.range i2.size).map fun j => z3.cells[j % z3.cells.size]!).toArray = (Array.range (1 * i2.size)).map (z3.cells[· % z3.cells.size]!) := by
  apply Array.ext'; simp
 rw [ea] at hf2
 simp only [execOp, ho, Instr.buildSlice, Sem.run_bind, run_underlying hd, Result.andThen_ok, zar hi2]
 rw [if_neg (by omega)]
 simp only [Sem.run_pure]
 rw [if_neg (by omega)]
 simp only [Sem.run_bind, run_zero' hi3 hz3, Sem.run_pure, Result.andThen_ok, eps]
 simp at hf2
 simp [hf2, newRow, HE.obj]
theorem opx_store {o : Oper} {t : TypeId} {a x : Operand} {b off k : Nat} {l : List Value} {ty : TypeId} {ti : TI} (ho : o.op = .store t a x) (ha : evx fr a = .pointer (some ⟨b, off, none⟩))
  (hb : w.heap[b]? = some (.cells l.toArray ty)) (ht : tiof P t = some ti)
  (h : (k = 1 ∨ k = 2) ∧ (evx fr x).cells.size = ti.sz ∧ (evx fr x).cells.toList.all one = true ∧ off + ti.sz ≤ l.length) :
  (execOp (evx fr) o).run P w = .ok .skip (setB w b (.cells (splice l off (evx fr x).cells.toList).toArray ty)) := by
 simp [execOp, ho, Instr.storeAt, Instr.sureAddr, ha, run_storeVar' hb off _ ht h.2.1 h.2.2.1 h.2.2.2]
theorem opx_call {o : Oper} {f : Operand} {xs : Array Operand} {ts : Array TypeId} {g : FuncId} {a b : Array Value} (ho : o.op = .call { callee := .value f, args := xs, argTypes := ts })
  (hf : evx fr f = .func (.func g) a b) (hok : fnOk P g = true) (w : World) :
  (execOp (evx fr) o).run P w = .ok (.enter g (a.toList ++ xs.toList.map (evx fr) ++ b.toList).toArray) w := by
 unfold fnOk at hok
 split at hok
 ·rename_i fn hfn
  simp only [Bool.and_eq_true, bne_iff_ne, ne_eq] at hok
  have e : (a.toList ++ xs.toList.map (evx fr) ++ b.toList).toArray = a ++ xs.map (evx fr) ++ b := by apply Array.ext'; simp
  obtain ⟨c, hc⟩ := Option.isSome_iff_exists.1 hok.2
  rw [e]
  simp [execOp, ho, resolve, Deferred.ofValue, hf, invoke, callFunc, hfn, hok.1, hc]
 ·cases hok
end
end Go.Gx
