/- The evaluator that the kernel runs: regions that draw, part 2: values that name few blocks; operations that write nothing. -/
import Derived.Test.YteglommbdpaokaaGreatGzT
namespace Go.Gz
open Go Go.Gx Go.RowKit
theorem RV.plainI {e : Env} {n : Nat} {v v' : Value} (hp : zas v = true) (h : RV e n v v') : v' = v := by
 cases h with
 | plain _ _ => rfl
 | ptr => simp [zas] at hp
 | slice => simp [zas] at hp
 | sliceU => simp [zas] at hp
 | sliceV => simp [zas] at hp
 | sliceZ => simp [zas] at hp
 | sliceG => simp [zas] at hp
 | map => simp [zas] at hp
 | func => simp [zas] at hp
 | yield => simp [zas] at hp
 | elem => simp [elv, zas] at hp
 | elemG => simp [elG, zas] at hp
 | partG => simp [subG, zas] at hp
 | iface => simp [zas] at hp
 | sym => simp [zas] at hp
 | agg a a' h =>
   simp only [zas, List.isEmpty_iff] at hp
   rw [hp] at h
   cases ha : a'.toList with
   | nil =>
     have e1 : a = #[] := by apply Array.ext'; simpa using hp
     have e2 : a' = #[] := by apply Array.ext'; simpa using ha
     rw [e1, e2]
   | cons => rw [ha] at h; cases h
 | tuple a a' h =>
   simp only [zas, List.isEmpty_iff] at hp
   rw [hp] at h
   cases ha : a'.toList with
   | nil =>
     have e1 : a = #[] := by apply Array.ext'; simpa using hp
     have e2 : a' = #[] := by apply Array.ext'; simpa using ha
     rw [e1, e2]
   | cons => rw [ha] at h; cases h
section
variable {e e' : Env} {n n' : Nat} {ok : Nat → Bool} (hm : e'.m = e.m) (hx : ∀ j, ok j = true → j < n → e'.β j = e.β j ∧ e'.tot j = e.tot j ∧ j < n')
include hm hx
omit hm hx in
theorem numsL_re {d : Nat} (ih : ∀ v v', nums ok d v = true → RV e n v v' → RV e' n' v v') : ∀ {l l' : List Value}, allB (nums ok d) l = true → RL e n l l' → RL e' n' l l'
 | [], [], _, .nil => .nil
 | v :: l, v' :: l', h, .cons _ _ _ _ hv hl => by
   unfold allB at h
   rw [zaa] at h
   split at h
   ·rename_i h1
    exact .cons _ _ _ _ (ih _ _ h1 hv) (numsL_re ih h hl)
   ·cases h
theorem nums_re : ∀ (d : Nat) (v v' : Value), nums ok d v = true → RV e n v v' → RV e' n' v v'
 | 0, v, v', h, hr => by
   have h : zas v = true := h
   rw [hr.plainI h]
   exact .plain _ h
 | d + 1, v, v', h, hr => by
   have ih := nums_re d
   cases hr with
   | plain _ hp => exact .plain _ hp
   | ptr j off hj =>
     obtain ⟨h1, _, h3⟩ := hx j h hj
     rw [← h1]; exact .ptr j off h3
   | slice j off len cap hj hc =>
     obtain ⟨h1, _, h3⟩ := hx j h hj
     rw [← h1]; exact .slice j off len cap h3 hc
   | sliceU j len hj hl =>
     obtain ⟨h1, h2, h3⟩ := hx j h hj
     rw [← h1, ← h2]; exact .sliceU j len h3 (by rw [h2]; exact hl)
   | sliceV j off len cap hj hl =>
     obtain ⟨h1, _, h3⟩ := hx j h hj
     rw [← h1]; exact .sliceV j off len cap h3 hl
   | sliceZ a cap => exact .sliceZ a cap
   | map j hj =>
     obtain ⟨h1, _, h3⟩ := hx j h hj
     rw [← h1]; exact .map j h3
   | func g a b a' b' ha hb =>
     have h : cnd (allB (nums ok d) a.toList) (allB (nums ok d) b.toList) false = true := h
     rw [zaa] at h
     split at h
     ·rename_i h1
      exact .func g a b a' b' (numsL_re ih h1 ha) (numsL_re ih h hb)
     ·cases h
   | yield l hj =>
     obtain ⟨h1, _, h3⟩ := hx l h hj
     rw [← h1]; exact .yield l h3
   | elem j off ed len q i k hj hi hq =>
     obtain ⟨h1, _, h3⟩ := hx j h hj
     rw [← h1]; exact .elem j off ed len q i k h3 (by rw [hm]; exact hi) hq
   | iface t v v' hv => exact .iface t _ _ (ih _ _ h hv)
   | agg a a' ha => exact .agg _ _ (numsL_re ih h ha)
   | tuple a a' ha => exact .tuple _ _ (numsL_re ih h ha)
   | sym op s a c v' h hs => exact .sym op s a c v' (by rw [hm]; exact h) hs
   | sliceG j hj =>
     obtain ⟨h1, h2, h3⟩ := hx j h hj
     rw [← h1, ← h2]; exact .sliceG j h3
   | elemG j q i hj hi hq =>
     obtain ⟨h1, h2, h3⟩ := hx j h hj
     rw [← h1]; exact .elemG j q i h3 (by rw [hm]; exact hi) (by rw [h2]; exact hq)
   | partG j q i hj hi hq =>
     obtain ⟨h1, h2, h3⟩ := hx j h hj
     rw [← h1, ← h2]; exact .partG j q i h3 (by rw [hm]; exact hi) (by rw [h2]; exact hq)
end
theorem sameVal_eq {r : R} {v : Value} (h : sameVal r v = true) : r = .val v := by
 unfold sameVal at h
 split at h
 ·rw [veq_eq _ _ _ h]
 ·cases h
theorem dec_kb {hp hp' : Hp} (h : hp'.get 32767 = hp.get 32767) (c : Value) : decH hp' c = decH hp c := by
 unfold decH; rw [h]
theorem dec_kbf {hp hp' : Hp} (h : hp'.get 32767 = hp.get 32767) : decH hp' = decH hp := funext (dec_kb h)
theorem pick_kb {hp hp' : Hp} (h : hp'.get 32767 = hp.get 32767) (op : BinOp) (x y : Value) : bPick op x y hp' = bPick op x y hp := by
 unfold bPick; rw [dec_kbf h]
theorem part_kb {hp hp' : Hp} (h : hp'.get 32767 = hp.get 32767) (op : BinOp) (x y : Value) : symPart hp' op x y = symPart hp op x y := by
 unfold symPart; rw [dec_kbf h]
theorem enumG_kb {hp hp' : Hp} (h : hp'.get 32767 = hp.get 32767) (i : Value) (k : IntKind) : ∀ (m c : Nat), enumG hp' i k m c = enumG hp i k m c
 | 0, _ => rfl
 | m + 1, c => by
   unfold enumG
   rw [dec_kbf h, enumG_kb h i k m]
theorem enumI_kb {hp hp' : Hp} (h : hp'.get 32767 = hp.get 32767) : enumI hp' = enumI hp := by
 funext i len
 unfold enumI
 have : ∀ k, enumG hp' i k len 0 = enumG hp i k len 0 := fun k => enumG_kb h i k len 0
 simp only [this]
theorem makeG_val (P : Program) (n : Nat) (hp : Hp) (t : TypeId) (l c v : Value) : ¬ makeG P n hp t l c = .val v := by
 intro h
 unfold makeG inGe at h
 simp only [zaa] at h
 repeat' split at h
 all_goals cases h
theorem pure_none {P : Program} {op : Op} {tm : Tm} {n : Nat} {hp : Hp} {v : Value} (h1 : heavy op = false) (h2 : readsOp op = false) (h : (aopW op).f P tm n hp = .val v) (n' : Nat) (hp' : Hp) (hkb : hp'.get 32767 = hp.get 32767) : (aopW op).f P tm n' hp' = .val v := by
 cases op with
 | call c =>
   obtain ⟨callee, xs, ts⟩ := c
   cases callee with
   | builtin b =>
     cases b with
     | max =>
       have h : bMax (evs tm xs.toList) P tm n hp = .val v := h
       show bMax (evs tm xs.toList) P tm n' hp' = .val v
       unfold bMax at h ⊢
       simpa only [pick_kb hkb] using h
     | min =>
       have h : bMin (evs tm xs.toList) P tm n hp = .val v := h
       show bMin (evs tm xs.toList) P tm n' hp' = .val v
       unfold bMin at h ⊢
       simpa only [pick_kb hkb] using h
     | _ => first | (cases h1; done) | (cases h2; done) | exact h
   | _ => cases h1
 | pick c a b =>
   have h : aPick c a b P tm n hp = .val v := h
   show aPick c a b P tm n' hp' = .val v
   unfold aPick at h ⊢
   rw [dec_kb hkb]; exact h
 | binOp op t x y t' =>
   have h : aBinOp op t x y P tm n hp = .val v := h
   show aBinOp op t x y P tm n' hp' = .val v
   unfold aBinOp at h ⊢
   rw [part_kb hkb]; exact h
 | fieldAddr st x f =>
   have h : aFieldAddr st x f P tm n hp = .val v := h
   show aFieldAddr st x f P tm n' hp' = .val v
   unfold aFieldAddr fieldS grd at h ⊢
   rw [dec_kbf hkb]; exact h
 | index t x i =>
   have h : aIndex t x i P tm n hp = .val v := h
   show aIndex t x i P tm n' hp' = .val v
   unfold aIndex indexE grd inR at h ⊢
   rw [dec_kbf hkb, enumI_kb hkb]; exact h
 | alloc t =>
   have h : aAlloc t P tm n hp = .val v := h
   unfold aAlloc at h
   split at h <;> cases h
 | box t x => cases h
 | buildSlice t len ps =>
   have h : aBuildSlice t len ps P tm n hp = .val v := h
   unfold aBuildSlice at h
   split at h
   ·split at h
    ·split at h <;> cases h
    ·cases h
   ·cases h
 | makeMap t r =>
   have h : aMakeMap t r P tm n hp = .val v := h
   unfold aMakeMap at h
   split at h <;> cases h
 | makeSlice t l c =>
   have h : aMakeSlice t l c P tm n hp = .val v := h
   unfold aMakeSlice at h
   rw [zaa] at h
   split at h
   ·exact absurd h (makeG_val _ _ _ _ _ _ _)
   split at h
   ·split at h
    ·split at h
     ·rw [zaa] at h; split at h <;> cases h
     ·cases h
    ·cases h
   ·cases h
 | range t x =>
   have h : aRange t x P tm n hp = .val v := h
   unfold aRange at h
   split at h <;> cases h
 | _ => first | (cases h1; done) | (cases h2; done) | exact h
section
variable {P : Program} {B : Base} {e e' : Env} {n n' : Nat} {hp hp' : Hp} {w w' : World}
theorem hp_none_get (j : Nat) : Hp.get .none j = .dead := hp_none j
theorem WR.nothing (P : Program) (e : Env) {n : Nat} (hn : n ≤ 32767) (w : World) (kb : AObj) (hfk : ∀ c b, decH (Hp.none.set 32767 kb) c = some b → den e.m c = some (.bool b)) (hkp : ∀ r o, e.m.K r = some o → w.heap[r]? = some o) : WR P ⟨w, n, e.β, false⟩ e n (Hp.none.set 32767 kb) w := by
 have hg : ∀ j, j < n → (Hp.none.set 32767 kb).get j = .dead := fun j hj => by rw [hp_set_ne _ _ _ (by omega) (by omega) (by omega)]; exact hp_none_get j
 exact ⟨rfl, rfl, rfl, Nat.le_refl _, Nat.le_refl _, hn, fun _ _ => rfl, fun j h1 h2 => absurd h2 (Nat.not_lt.2 h1), fun _ _ _ => rfl, fun j hj h => absurd (hg j hj) h, fun i j hi _ h => absurd (hg i hi) h, fun h => (by cases h), hfk, hkp, fun j hj h => absurd (hg j hj) h⟩
theorem WR.kb (h : WR P B e n hp w) {kb : AObj} (hfk : ∀ c b, decH (hp.set 32767 kb) c = some b → den e.m c = some (.bool b)) : WR P B e n (hp.set 32767 kb) w := by
 have hm := h.nmax
 have hg : ∀ j, j < n → (hp.set 32767 kb).get j = hp.get j := fun j hj => hp_set_ne _ _ _ (by omega) (by omega) (by omega) _
 exact ⟨h.os, h.tape, h.output, h.size, h.n0, h.nmax, h.agree, h.fresh, h.old, fun j hj hl => by rw [hg j hj] at hl ⊢; exact h.obj j hj hl,
  fun i j hi hj h1 h2 => by rw [hg i hi] at h1; rw [hg j hj] at h2; exact h.inj i j hi hj h1 h2, h.lt', hfk, h.kp, fun j hj hl => by rw [hg j hj] at hl; exact h.kn j hj hl⟩
theorem WR.self (h : WR P B e n hp w) (hl : B.lt = true) : WR P ⟨w, n, e.β, true⟩ e n hp w :=
 ⟨rfl, rfl, rfl, Nat.le_refl _, Nat.le_refl _, h.nmax, fun _ _ => rfl, fun _ h1 h2 => absurd h2 (Nat.not_lt.2 h1), fun _ _ _ => rfl, h.obj, h.inj, fun _ => h.lt' hl, h.fk, h.kp, h.kn⟩
theorem WR.into (h : WR P B e n hp w) (h' : WR P ⟨w, n, e.β, true⟩ e' n' hp' w') : WR P B e' n' hp' w' := by
 have hag : ∀ j, j < n → e'.β j = e.β j := h'.agree
 have hn : n ≤ n' := h'.n0
 have hsz : w.heap.size ≤ w'.heap.size := h'.size
 refine ⟨h'.os.trans h.os, h'.tape.trans h.tape, h'.output.trans h.output, Nat.le_trans h.size hsz, Nat.le_trans h.n0 hn, h'.nmax, ?_, ?_, ?_, h'.obj, h'.inj, fun _ => h'.lt' rfl, h'.fk, h'.kp, h'.kn⟩
 ·intro j hj
  rw [hag j (Nat.lt_of_lt_of_le hj h.n0)]; exact h.agree j hj
 ·intro j hj hj'
  rcases Nat.lt_or_ge j n with hjn | hjn
  ·rw [hag j hjn]; exact h.fresh j hj hjn
  ·rcases h'.fresh j hjn hj' with h1 | ⟨i, hi, h1⟩
   ·exact .inl (Nat.le_trans h.size h1)
   ·rw [h1]; exact h.where_ hi
 ·intro r hr hno
  have : r < w.heap.size := Nat.lt_of_lt_of_le hr h.size
  rw [h'.old r this fun i hi => ?_]
  ·exact h.old r hr hno
  ·rcases h.where_ hi with h1 | ⟨i', hi', h1⟩
   ·show e.β i ≠ r
    omega
   ·show e.β i ≠ r
    rw [h1]; exact hno i' hi'
theorem WR.env (h : WR P B e n hp w) (hx : ∀ j, j < n → e'.β j = e.β j ∧ e'.tot j = e.tot j) (hm : e'.m = e.m) : WR P B e' n hp w := by
 have x : Ext e n e' n := ⟨Nat.le_refl _, fun j hj => (hx j hj).1, fun j hj => (hx j hj).2, hm⟩
 refine ⟨h.os, h.tape, h.output, h.size, h.n0, h.nmax, ?_, ?_, h.old, ?_, ?_, ?_, by rw [hm]; exact h.fk, by rw [hm]; exact h.kp, fun j hj hl => by rw [hm, x.β j hj]; exact h.kn j hj hl⟩
 ·intro j hj; rw [x.β j (Nat.lt_of_lt_of_le hj h.n0)]; exact h.agree j hj
 ·intro j hj hj'; rw [x.β j hj']; exact h.fresh j hj hj'
 ·intro j hj hl
  obtain ⟨o, h1, h2⟩ := h.obj j hj hl
  exact ⟨o, by rw [x.β j hj]; exact h1, h2.mono x hj⟩
 ·intro i j hi hj h1 h2 he
  rw [x.β i hi, x.β j hj] at he
  exact h.inj i j hi hj h1 h2 he
 ·intro hl j hj; rw [x.β j hj]; exact h.lt' hl j hj
end
def OpN (P : Program) (e : Env) (n : Nat) (w : World) (res : R) (r : Result Next) : Prop :=
 match res with
 | .new v _ o => ∃ v' o', r = .ok (.value v') { w with heap := w.heap.push o' } ∧ RV (e.add n w.heap.size 0) (n + 1) v v' ∧ RO P (e.add n w.heap.size 0) (n + 1) n o o'
 | _ => True
section
variable {P : Program} (hP : Small P) {e : Env} {n : Nat} {w : World} {tm : Tm} {hp : Hp} {o : Oper} {fr : List Value}
include hP
theorem n_alloc {t : TypeId} (ho : o.op = .alloc t) : OpN P e n w (aAlloc t P tm n hp) ((execOp (evx fr) o).run P w) := by
 unfold aAlloc
 split
 ·rename_i x hx
  obtain ⟨i, d, z, hi, hd, hz, _, hzz, _⟩ := zai (zam hP hx)
  refine ⟨.pointer (some ⟨w.heap.size, 0, none⟩), _, ?_, ?_, .cells _ _ _ (RL.plain (ti_plain hx))⟩
  ·have hz' : z.cells = x.zero.toArray := by rw [hzz]
   simp [execOp, ho, Instr.alloc, run_zero' hi hz, newVar, newRow, hz']
  ·have := RV.ptr (e := e.add n w.heap.size 0) (n := n + 1) n 0 (by omega)
   rwa [Env.add_β] at this
 ·trivial
omit hP
theorem n_box {t : TypeId} {x : Operand} (ho : o.op = .box t x) (hx : RV e n (ev tm x) (evx fr x)) : OpN P e n w (aBox t x P tm n hp) ((execOp (evx fr) o).run P w) := by
 refine ⟨.pointer (some ⟨w.heap.size, 0, none⟩), _, ?_, ?_, .cells _ _ _ ((hx.cells).mono (e.ext n _ _))⟩
 ·simp [execOp, ho, Instr.box, newVar, newRow]
 ·have := RV.ptr (e := e.add n w.heap.size 0) (n := n + 1) n 0 (by omega)
  rwa [Env.add_β] at this
theorem n_makeMap {t : TypeId} {r : Option Operand} (ho : o.op = .makeMap t r) : OpN P e n w (aMakeMap t r P tm n hp) ((execOp (evx fr) o).run P w) := by
 unfold aMakeMap
 split
 ·refine ⟨.map (some w.heap.size), _, by simp [execOp, ho, Instr.makeMap], ?_, .map [] [] 0 .nil⟩
  have := RV.map (e := e.add n w.heap.size 0) (n := n + 1) n (by omega)
  rwa [Env.add_β] at this
 ·trivial
include hP
theorem n_buildSlice {t : TypeId} {len : Nat} {ps : Array (Nat × Operand)} (ho : o.op = .buildSlice t len ps) (hq : ∀ q ∈ ps.toList, RV e n (ev tm q.2) (evx fr q.2)) : OpN P e n w (aBuildSlice t len ps P tm n hp) ((execOp (evx fr) o).run P w) := by
 unfold aBuildSlice
 split
 ·rename_i sz ag z el et hti
  split
  ·rename_i y hy
   split
   ·rename_i l h
    rw [zaa] at h
    split at h
    ·cases h
    ·rename_i hck
     simp only [Bool.or_eq_true, Bool.not_eq_true', not_or, Bool.not_eq_true, Bool.not_eq_false] at hck
     obtain ⟨⟨hc0, hc1⟩, hc2⟩ := hck
     have hc1 := zaw hc1
     have hc2 := zad hc2
     have h0 : el ≠ 0 := by intro h0; subst h0; simp at hc0
     obtain ⟨i, dd, zz, hi, hd, hz, _, _, _, rfl, hel, hall⟩ := zai (zam hP hti)
     obtain ⟨z3, i2, hi2, hs2, hz3, hzs, hrep⟩ := zero_run hP (w := w) hy hall hel.symm h0 hc2
     obtain ⟨l', h1, h2⟩ := fillv_run _ _ _ _ _ (RL.plain (rep_plain (ti_plain hy) len)) hq h
     refine ⟨.slice (some ⟨w.heap.size, 0, none⟩) len len, _, ?_, ?_, .cells _ _ _ (h2.mono (e.ext n _ _))⟩
     ·have hf : Instr.fill (fun i => some (i * el, el)) (rep y.zero len).toArray (ps.toList.map fun q => (q.1, evx fr q.2)) = some l'.toArray := by
        rw [fill_fillx, h1]; rfl
      have hf2 : Instr.fill (fun i => some (i * el, el)) ((Array.range (len * el)).map (z3.cells[· % z3.cells.size]!)) (ps.toList.map fun q => (q.1, evx fr q.2)) = some l'.toArray := by rw [hrep]; exact hf
      have hlen : ¬ (len * el > 2 ^ 24) := by omega
      by_cases hl0 : len * el = 0
      ·have hl1 : len = 0 := by rcases Nat.mul_eq_zero.1 hl0 with h | h; exact h; exact absurd h h0
       subst hl1
       have hf3 : Instr.fill (fun i => some (i * el, el)) #[] (ps.toList.map fun q => (q.1, evx fr q.2)) = some l'.toArray := by simpa [rep] using hf
       have hr0 : (Array.range 0).map (fun x : Nat => ((#[] : Array Value)[x % (#[] : Array Value).size]!)) = #[] := by simp
       simp only [execOp, ho, Instr.buildSlice, Sem.run_bind, run_underlying hd, Result.andThen_ok, zar hi2, hs2]
       simp [show Array.map (fun _ : Nat => (default : Value)) (Array.range 0) = #[] from by apply Array.ext'; simp, hf3, newRow]
      ·simp only [execOp, ho, Instr.buildSlice, Sem.run_bind, run_underlying hd, Result.andThen_ok, zar hi2, hs2]
       rw [if_neg hlen]
       simp only [Sem.run_pure]
       rw [if_neg hl0]
       simp only [Sem.run_bind, hz3, Sem.run_pure, Result.andThen_ok]
       simp only [Array.toList_map, hf2]
       simp [newRow]
     ·have := RV.slice (e := e.add n w.heap.size 0) (n := n + 1) n 0 len len (by omega) (by unfold CAPU; have := Nat.le_mul_of_pos_right len (Nat.pos_of_ne_zero h0); omega)
      rwa [Env.add_β] at this
   ·trivial
  ·trivial
 ·trivial
theorem new_sound (hn : newOp o.op = true) (hx : ∀ x ∈ o.op.operands.toList, RV e n (ev tm x) (evx fr x)) : OpN P e n w ((aopW o.op).f P tm n hp) ((execOp (evx fr) o).run P w) := by
 cases ho : o.op with
 | alloc t => exact n_alloc (tm := tm) hP ho
 | box t x => exact n_box ho (hx x (by simp [ho, Op.operands]))
 | buildSlice t len ps => exact n_buildSlice hP ho fun q hq => hx q.2 (by simp only [ho, Op.operands]; exact List.mem_map_of_mem hq)
 | makeMap t r => exact n_makeMap (tm := tm) ho
 | _ => rw [ho] at hn; cases hn
theorem pure_sound (hn : n ≤ 32767) (hfk : ∀ c b, decH hp c = some b → den e.m c = some (.bool b)) (hkp : ∀ r o, e.m.K r = some o → w.heap[r]? = some o) (h1 : heavy o.op = false) (h2 : readsOp o.op = false) {v : Value} (h : (aopW o.op).f P tm n hp = .val v) (hx : ∀ x ∈ o.op.operands.toList, RV e n (ev tm x) (evx fr x)) :
  ∃ v', (execOp (evx fr) o).run P w = .ok (.value v') w ∧ RV e n v v' := by
 have hkb : (Hp.none.set 32767 (hp.get 32767)).get 32767 = hp.get 32767 := hp_set_same _ _ (by omega) _
 have := aop_sound hP (tm := tm) (fr := fr) (o := o) (WR.nothing P e hn w (hp.get 32767) (fun c b hc => hfk c b (by rwa [dec_kb hkb] at hc)) hkp) hx
 rw [pure_none h1 h2 h n _ hkb] at this
 exact this
end
end Go.Gz
