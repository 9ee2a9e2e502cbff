/- The evaluator that the kernel runs: when a list of blocks stands for a world; what turns one turns the other. -/
import Derived.Test.YteglommbdpaokaaGreatGzB
namespace Go.Gz
open Go Go.Gx
inductive RM (e : Env) (n : Nat) : List MapEntry → List MapEntry → Prop
 | nil : RM e n [] []
 | cons (x x' : MapEntry) (l l' : List MapEntry) (hk : RV e n x.key x'.key) (hv : RV e n x.val x'.val) (hb : x.born = x'.born) (hl : RM e n l l') : RM e n (x :: l) (x' :: l')
structure RTm (e : Env) (n nt : Nat) (tm : Tm) (tmps : Array Value) : Prop where
 size : tmps.size = nt
 le : nt ≤ 512
 rel : ∀ i, i < nt → RV e n (slot tm i) (tmps.getD i undef)
inductive RD (e : Env) (n : Nat) : Deferred → Deferred → Prop
 | collected (b : Nat) (h : b < n) : RD e n ⟨.collected b, #[]⟩ ⟨.collected (e.β b), #[]⟩
 | fn (g : FuncId) (c c' a a' : Array Value) (hc : RL e n c.toList c'.toList) (ha : RL e n a.toList a'.toList) : RD e n ⟨.fn (.func g) c, a⟩ ⟨.fn (.func g) c', a'⟩
inductive RDs (e : Env) (n : Nat) : List Deferred → List Deferred → Prop
 | nil : RDs e n [] []
 | cons (d d' : Deferred) (l l' : List Deferred) (h : RD e n d d') (hl : RDs e n l l') : RDs e n (d :: l) (d' :: l')
inductive RO (P : Program) (e : Env) (n j : Nat) : AObj → Obj → Prop
 | cells (l l' : List Value) (t : TypeId) (h : RL e n l l') : RO P e n j (.cells l t false) (.cells l'.toArray t)
 | grown (l l' x : List Value) (t : TypeId) (h : RL e n l l') (hs : (l' ++ x).length = e.tot j * cellsOf P t) : RO P e n j (.cells l t true) (.cells (l' ++ x).toArray t)
 | garr (v : Value) (l x : List Value) (t : TypeId) (h : den e.m v = some (.agg ⟨l⟩)) (hl : l.length = e.tot j % 9223372036854775808) (hs : (l ++ x).length = e.tot j / 9223372036854775808) (hc : cellsOf P t = 1) (ho : l.all one = true) (hz : l.all (srt (zsT P t)) = true) : RO P e n j (.garr v t) (.cells (l ++ x).toArray t)
 | map (l l' : List MapEntry) (clock : Nat) (h : RM e n l l') : RO P e n j (.map l clock) (.map l'.toArray clock)
 | sit (s : ByteArray) (pos : Nat) : RO P e n j (.sit s pos) (.stringIter s pos)
 | loop (st : LoopState) (pend : Option Code) (fn : FuncId) (nt : Nat) (tm : Tm) (tmps : Array Value) (ps : List Tmp) (a b : Code) (d : Nat) (ht : RTm e n nt tm tmps) (hd : d < n) :
  RO P e n j (.loop st pend fn nt tm ps a b d) (.loop { state := st, pending := pend, fn := fn, tmps := tmps, params := ps.toArray, assign := a, body := b, defers := e.β d })
 | dfr (l l' : List Deferred) (h : RDs e n l l') : RO P e n j (.dfr (some l)) (.deferred (some l'))
 | dfrN : RO P e n j (.dfr none) (.deferred none)
section
variable {e e' : Env} {n n' : Nat} (x : Ext e n e' n')
include x
theorem RM.mono : ∀ {l l' : List MapEntry}, RM e n l l' → RM e' n' l l'
 | _, _, .nil => .nil
 | _, _, .cons a a' l l' hk hv hb hl => .cons a a' l l' (hk.mono x) (hv.mono x) hb (RM.mono hl)
theorem RTm.mono {nt : Nat} {tm : Tm} {tmps : Array Value} (h : RTm e n nt tm tmps) : RTm e' n' nt tm tmps := ⟨h.size, h.le, fun i hi => (h.rel i hi).mono x⟩
theorem RD.mono {d d' : Deferred} (h : RD e n d d') : RD e' n' d d' := by
 cases h with
 | collected b h => rw [← x.β b h]; exact .collected b (Nat.lt_of_lt_of_le h x.le)
 | fn g c c' a a' hc ha => exact .fn g c c' a a' (hc.mono x) (ha.mono x)
theorem RDs.mono : ∀ {l l' : List Deferred}, RDs e n l l' → RDs e' n' l l'
 | _, _, .nil => .nil
 | _, _, .cons d d' l l' h hl => .cons d d' l l' (h.mono x) (RDs.mono hl)
theorem RO.mono {P : Program} {j : Nat} (hj : j < n) {o : AObj} {o' : Obj} (h : RO P e n j o o') : RO P e' n' j o o' := by
 cases h with
 | cells l l' t h => exact .cells l l' t (h.mono x)
 | grown l l' y t h hs => exact .grown l l' y t (h.mono x) (by rw [x.tot j hj]; exact hs)
 | garr v l y t h hl hs hc ho hz => exact .garr v l y t (by rw [x.m]; exact h) (by rw [x.tot j hj]; exact hl) (by rw [x.tot j hj]; exact hs) hc ho hz
 | map l l' c h => exact .map l l' c (h.mono x)
 | sit s pos => exact .sit s pos
 | loop st pend fn nt tm tmps ps a b d ht hd => rw [← x.β d hd]; exact .loop st pend fn nt tm tmps ps a b d (ht.mono x) (Nat.lt_of_lt_of_le hd x.le)
 | dfr l l' h => exact .dfr l l' (h.mono x)
 | dfrN => exact .dfrN
end
theorem RDs.append {e : Env} {n : Nat} : ∀ {l l' r r' : List Deferred}, RDs e n l l' → RDs e n r r' → RDs e n (l ++ r) (l' ++ r')
 | _, _, _, _, .nil, hr => hr
 | _, _, _, _, .cons d d' l l' h hl, hr => .cons d d' _ _ h (RDs.append hl hr)
structure Base where
 w : World
 n : Nat
 β : Nat → Nat
 lt : Bool
structure WR (P : Program) (B : Base) (e : Env) (n : Nat) (hp : Hp) (w : World) : Prop where
 os : w.os = B.w.os
 tape : w.tape = B.w.tape
 output : w.output = B.w.output
 size : B.w.heap.size ≤ w.heap.size
 n0 : B.n ≤ n
 nmax : n ≤ 32767
 agree : ∀ j, j < B.n → e.β j = B.β j
 fresh : ∀ j, B.n ≤ j → j < n → B.w.heap.size ≤ e.β j ∨ ∃ i, i < B.n ∧ e.β j = B.β i
 old : ∀ r, r < B.w.heap.size → (∀ i, i < B.n → B.β i ≠ r) → w.heap[r]? = B.w.heap[r]?
 obj : ∀ j, j < n → hp.get j ≠ .dead → ∃ o, w.heap[e.β j]? = some o ∧ RO P e n j (hp.get j) o
 inj : ∀ i j, i < n → j < n → hp.get i ≠ .dead → hp.get j ≠ .dead → e.β i = e.β j → i = j
 lt' : B.lt = true → ∀ j, j < n → e.β j < w.heap.size
 fk : ∀ c b, decH hp c = some b → den e.m c = some (.bool b)
 kp : ∀ r o, e.m.K r = some o → w.heap[r]? = some o
 kn : ∀ j, j < n → hp.get j ≠ .dead → e.m.K (e.β j) = none
theorem decH_set {hp : Hp} {j : Nat} (hj : j < 32767) (o : AObj) (c : Value) : decH (hp.set j o) c = decH hp c := by
 unfold decH
 rw [hp_set_ne _ _ _ (by omega) (by omega) (by omega)]
section
variable {P : Program} {B : Base} {e : Env} {n : Nat} {hp : Hp} {w : World}
theorem WR.same (h : WR P B e n hp w) {w' : World} (h1 : w'.os = w.os) (h2 : w'.tape = w.tape) (h3 : w'.output = w.output) (h4 : w'.heap = w.heap) : WR P B e n hp w' :=
 ⟨h1.trans h.os, h2.trans h.tape, h3.trans h.output, by rw [h4]; exact h.size, h.n0, h.nmax, h.agree, h.fresh, by rw [h4]; exact h.old, by rw [h4]; exact h.obj, h.inj, by rw [h4]; exact h.lt', h.fk, by rw [h4]; exact h.kp, h.kn⟩
theorem WR.lt (h : WR P B e n hp w) {j : Nat} (hj : j < n) (hl : hp.get j ≠ .dead) : e.β j < w.heap.size := by
 obtain ⟨o, ho, _⟩ := h.obj j hj hl
 exact (Array.getElem?_eq_some_iff.1 ho).1
theorem WR.where_ (h : WR P B e n hp w) {j : Nat} (hj : j < n) : B.w.heap.size ≤ e.β j ∨ ∃ i, i < B.n ∧ e.β j = B.β i := by
 rcases Nat.lt_or_ge j B.n with hb | hb
 ·exact .inr ⟨j, hb, h.agree j hb⟩
 ·exact h.fresh j hb hj
theorem WR.set (h : WR P B e n hp w) {j : Nat} (hj : j < n) (hl : hp.get j ≠ .dead) {o : AObj} {o' : Obj} (ho : RO P e n j o o') : WR P B e n (hp.set j o) (setB w (e.β j) o') := by
 have hlt := h.lt hj hl
 have hm := h.nmax
 have hd : ∀ i, i < n → (hp.set j o).get i ≠ .dead → hp.get i ≠ .dead := by
  intro i hi hd
  by_cases hij : j = i
  ·subst hij; exact hl
  ·rw [hp_set_ne _ _ _ (by omega) (by omega) hij] at hd; exact hd
 have hkn := h.kn j hj hl
 refine ⟨h.os, h.tape, h.output, by rw [setB_size]; exact h.size, h.n0, h.nmax, h.agree, h.fresh, ?_, ?_, ?_, by rw [setB_size]; exact h.lt', fun c b hc => h.fk c b (by rwa [decH_set (by omega)] at hc), fun r o hr => ?_, fun i hi hli => h.kn i hi (hd i hi hli)⟩
 rotate_right
 ·rw [setB_ne]
  ·exact h.kp r o hr
  ·rintro rfl; rw [hkn] at hr; cases hr
 ·intro r hr hno
  rw [setB_ne ?_]
  ·exact h.old r hr hno
  ·rcases h.where_ hj with hb | ⟨i, hi, he⟩
   ·omega
   ·rw [he]; exact fun q => hno i hi q.symm
 ·intro i hi hli
  by_cases hij : j = i
  ·subst hij
   rw [hp_set_same _ _ (by omega)]
   exact ⟨o', setB_get hlt _, ho⟩
  ·have hli' := hd i hi hli
   rw [hp_set_ne _ _ _ (by omega) (by omega) hij]
   obtain ⟨q, hq, hr⟩ := h.obj i hi hli'
   refine ⟨q, ?_, hr⟩
   rw [setB_ne]
   ·exact hq
   ·exact fun q => hij (h.inj j i hj hi hl hli' q.symm)
 ·intro i k hi hk h1 h2 he
  exact h.inj i k hi hk (hd i hi h1) (hd k hk h2) he
theorem WR.kill (h : WR P B e n hp w) {j : Nat} (hj : j < n) : WR P B e n (hp.set j .dead) w := by
 have hm := h.nmax
 have hd : ∀ i, i < n → (hp.set j .dead).get i ≠ .dead → i ≠ j ∧ (hp.set j .dead).get i = hp.get i := by
  intro i hi hd
  by_cases hij : j = i
  ·subst hij; rw [hp_set_same _ _ (by omega)] at hd; exact absurd rfl hd
  ·exact ⟨Ne.symm hij, hp_set_ne _ _ _ (by omega) (by omega) hij _⟩
 refine ⟨h.os, h.tape, h.output, h.size, h.n0, h.nmax, h.agree, h.fresh, h.old, ?_, ?_, h.lt', fun c b hc => h.fk c b (by rwa [decH_set (by omega)] at hc), h.kp, fun i hi hli => h.kn i hi (by obtain ⟨_, h2⟩ := hd i hi hli; rwa [h2] at hli)⟩
 ·intro i hi hli
  obtain ⟨h1, h2⟩ := hd i hi hli
  rw [h2] at hli ⊢
  exact h.obj i hi hli
 ·intro i k hi hk h1 h2 he
  obtain ⟨_, h3⟩ := hd i hi h1
  obtain ⟨_, h4⟩ := hd k hk h2
  exact h.inj i k hi hk (h3 ▸ h1) (h4 ▸ h2) he
def Env.add (e : Env) (n r t : Nat) : Env := ⟨fun j => if j = n then r else e.β j, fun j => if j = n then t else e.tot j, e.m⟩
theorem Env.ext (e : Env) (n r t : Nat) : Ext e n (e.add n r t) (n + 1) :=
 ⟨by omega, fun j hj => by simp [Env.add, Nat.ne_of_lt hj], fun j hj => by simp [Env.add, Nat.ne_of_lt hj], rfl⟩
theorem Env.add_β (e : Env) (n r t : Nat) : (e.add n r t).β n = r := by simp [Env.add]
theorem Env.add_tot (e : Env) (n r t : Nat) : (e.add n r t).tot n = t := by simp [Env.add]
theorem WR.add (h : WR P B e n hp w) (hn : n < 32767) {w2 : World} {r t : Nat} {o : AObj} {o' : Obj} (h1 : w2.os = w.os) (h2 : w2.tape = w.tape) (h3 : w2.output = w.output) (h4 : w.heap.size ≤ w2.heap.size)
  (hobj : w2.heap[r]? = some o') (hkeep : ∀ j, j < n → hp.get j ≠ .dead → w2.heap[e.β j]? = w.heap[e.β j]?) (hne : ∀ j, j < n → hp.get j ≠ .dead → e.β j ≠ r)
  (hf : B.w.heap.size ≤ r ∨ ∃ i, i < B.n ∧ r = B.β i) (hold : ∀ q, q < B.w.heap.size → (∀ i, i < B.n → B.β i ≠ q) → w2.heap[q]? = w.heap[q]?)
  (hK : e.m.K r = none) (hkp : ∀ q o, e.m.K q = some o → w2.heap[q]? = some o)
  (ho : RO P (e.add n r t) (n + 1) n o o') : WR P B (e.add n r t) (n + 1) (hp.set n o) w2 := by
 have hx := e.ext n r t
 have hg : ∀ j, j < n → (hp.set n o).get j = hp.get j := fun j hj => hp_set_ne _ _ _ (by omega) (by omega) (by omega) _
 refine ⟨h1.trans h.os, h2.trans h.tape, h3.trans h.output, Nat.le_trans h.size h4, by have := h.n0; omega, by omega, ?_, ?_, ?_, ?_, ?_, ?_, fun c b hc => h.fk c b (by rwa [decH_set hn] at hc), hkp, ?_⟩
 rotate_right
 ·intro j hj hl
  show e.m.K _ = none
  by_cases hjn : j = n
  ·subst hjn; rw [Env.add_β]; exact hK
  ·have hj' : j < n := by omega
   rw [hg j hj'] at hl
   rw [hx.β j hj']; exact h.kn j hj' hl
 rotate_right
 ·intro hl j hj
  by_cases hjn : j = n
  ·subst hjn; rw [Env.add_β]; exact (Array.getElem?_eq_some_iff.1 hobj).1
  ·have hj' : j < n := by omega
   rw [hx.β j hj']; exact Nat.lt_of_lt_of_le (h.lt' hl j hj') h4
 ·intro j hj
  rw [hx.β j (Nat.lt_of_lt_of_le hj h.n0)]; exact h.agree j hj
 ·intro j hj hj2
  by_cases hjn : j = n
  ·subst hjn; rw [Env.add_β]; exact hf
  ·rw [hx.β j (by omega)]; exact h.fresh j hj (by omega)
 ·intro q hq hno
  rw [hold q hq hno]; exact h.old q hq hno
 ·intro j hj hl
  by_cases hjn : j = n
  ·subst hjn
   rw [Env.add_β, hp_set_same _ _ (by omega)]
   exact ⟨o', hobj, ho⟩
  ·have hj' : j < n := by omega
   rw [hg j hj'] at hl ⊢
   obtain ⟨q, hq, hr⟩ := h.obj j hj' hl
   rw [hx.β j hj', hkeep j hj' hl]
   exact ⟨q, hq, hr.mono hx hj'⟩
 ·intro i j hi hj hli hlj he
  by_cases hin : i = n
  ·by_cases hjn : j = n
   ·omega
   ·have hj' : j < n := by omega
    subst hin
    rw [Env.add_β, hx.β j hj'] at he
    rw [hg j hj'] at hlj
    exact absurd he.symm (hne j hj' hlj)
  ·have hi' : i < n := by omega
   rw [hg i hi'] at hli
   by_cases hjn : j = n
   ·subst hjn
    rw [Env.add_β, hx.β i hi'] at he
    exact absurd he (hne i hi' hli)
   ·have hj' : j < n := by omega
    rw [hg j hj'] at hlj
    rw [hx.β i hi', hx.β j hj'] at he
    exact h.inj i j hi' hj' hli hlj he
theorem WR.noK (h : WR P B e n hp w) {r : Nat} (hr : w.heap.size ≤ r) : e.m.K r = none := by
 cases hk : e.m.K r with
 | none => rfl
 | some o =>
   have := (Array.getElem?_eq_some_iff.1 (h.kp r o hk)).1
   omega
theorem WR.alloc (h : WR P B e n hp w) (hn : n < 32767) {t : Nat} {o : AObj} {o' : Obj} (ho : RO P (e.add n w.heap.size t) (n + 1) n o o') :
  WR P B (e.add n w.heap.size t) (n + 1) (hp.set n o) { w with heap := w.heap.push o' } := by
 refine h.add hn rfl rfl rfl (by simp) (by simp) ?_ ?_ (.inl h.size) ?_ (h.noK (Nat.le_refl _)) (fun q o hq => ?_) ho
 rotate_right
 ·have hq := h.kp q o hq
  have hlt := (Array.getElem?_eq_some_iff.1 hq).1
  exact (Array.getElem?_push_lt hlt).trans (by simpa [hlt] using hq)
 ·intro j hj hl
  have := h.lt hj hl
  exact Array.getElem?_push_lt this |>.trans (by simp [this])
 ·intro j hj hl
  have := h.lt hj hl
  omega
 ·intro q hq _
  have := h.size
  have : q < w.heap.size := by omega
  exact Array.getElem?_push_lt this |>.trans (by simp [this])
end
end Go.Gz
