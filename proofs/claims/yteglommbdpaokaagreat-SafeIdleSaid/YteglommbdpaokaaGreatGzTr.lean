/- The evaluator that the kernel runs: functions that only compute, summed up as trees: what is asked, what is answered. -/
import Derived.Test.YteglommbdpaokaaGreatGzG
import Derived.Test.YteglommbdpaokaaGreatGzDe2
namespace Go.Gz
open Go Go.Gx Go.RowKit
inductive Tr where
 | node (c : Value) (y n : Tr)
 | leaf (v : Value)
 | bad
noncomputable def explT (P : Program) (sm : Sm) (mk : Facts → Value → Option Bool) (fuel : Nat) : Nat → Facts → S → Tr :=
 @Nat.rec (fun _ => Facts → S → Tr) (fun _ _ => .bad) (fun _ rec Γ s => match s with
  | ⟨x, mode, todo, tm, cs, n, hp⟩ => match arunS P sm fuel true ⟨x, mode, todo, tm, cs, n, hp.set 32767 (.kb (mk Γ))⟩ with
    | .need c s' => match wt (mk Γ) 1000 c with
      | some z => cnd (Nat.beq z 8) (.node c (rec ((c, true) :: Γ) s') (rec ((c, false) :: Γ) s')) .bad
      | none => .bad
    | .stop s' => rec Γ s'
    | .ok v _ _ => .leaf v
    | _ => .bad)
noncomputable def treeOf (P : Program) (sm : Sm) (mk : Facts → Value → Option Bool) (fuel d : Nat) (f : FuncId) (args : List Value) (Γ : Facts) : Tr :=
 match enterF P f args .normal with
 | some ⟨x, mode, todo, tm⟩ => explT P sm mk fuel d Γ ⟨x, mode, todo, tm, [], 0, .none⟩
 | none => .bad
noncomputable def walkT (m : Mu) : Tr → Option Value
 | .node c y n => match den m c with
   | some (.bool true) => walkT m y
   | some (.bool false) => walkT m n
   | _ => none
 | .leaf v => some v
 | .bad => none
section
variable {P : Program} (hP : Small P) {sm : Sm} {m : Mu} (hsm : SmOk P sm m) {mk : Facts → Value → Option Bool} (hmk : MkOk m mk) {fuel : Nat}
include hP hsm hmk
theorem explT_goes : ∀ (d : Nat) (Γ : Facts) (s : S) (v : Value), Holds m Γ → walkT m (explT P sm mk fuel d Γ s) = some v → ∃ n' hp', ∀ (B : Base) (e : Env) (w : World) (fr : Frame) (cs' CS : List Frame), e.m = m → B.lt = true → WR P B e s.n s.hp w → RF e s.n ⟨s.x, s.mode, s.todo, s.tm⟩ fr → RFs e s.n s.cs cs' →
  Goes P B e s.n fr cs' CS w (bot s.x s.cs) (.ok v n' hp')
 | 0, Γ, s, v, _, h => by cases h
 | d + 1, Γ, s, v, hΓ, h => by
   have ih := explT_goes d
   obtain ⟨x, mode, todo, tm, cs, n, hp⟩ := s
   have hfk := hmk Γ hΓ
   have hkb : (hp.set 32767 (.kb (mk Γ))).get 32767 = .kb (mk Γ) := hp_set_same _ _ (by omega) _
   have hw2 : ∀ {B : Base} {e : Env} {w : World}, e.m = m → WR P B e n hp w → WR P B e n (hp.set 32767 (.kb (mk Γ))) w := fun {B e w} hem hw => hw.kb fun c b hc => by
    unfold decH at hc
    split at hc
    ·cases hc; simp [den]
    ·rw [hkb] at hc; rw [hem]; exact hfk c b hc
   have hg := fun B e w fr cs' CS hem hl hw hf hcs => arun_goes hP hsm fuel true ⟨x, mode, todo, tm, cs, n, hp.set 32767 (.kb (mk Γ))⟩ B e w fr cs' CS hem hl (hw2 hem hw) hf hcs
   have h : walkT m (match arunS P sm fuel true ⟨x, mode, todo, tm, cs, n, hp.set 32767 (.kb (mk Γ))⟩ with
    | .need c s' => match wt (mk Γ) 1000 c with
      | some z => cnd (Nat.beq z 8) (.node c (explT P sm mk fuel d ((c, true) :: Γ) s') (explT P sm mk fuel d ((c, false) :: Γ) s')) .bad
      | none => .bad
    | .stop s' => explT P sm mk fuel d Γ s'
    | .ok v _ _ => .leaf v
    | _ => .bad) = some v := h
   split at h
   ·rename_i c s' ha
    split at h
    ·rename_i z hz
     rw [zaa] at h
     split at h
     ·have go : ∀ b', den m c = some (.bool b') → walkT m (explT P sm mk fuel d ((c, b') :: Γ) s') = some v → ∃ n' hp', ∀ (B : Base) (e : Env) (w : World) (fr : Frame) (cs' CS : List Frame), e.m = m → B.lt = true → WR P B e n hp w → RF e n ⟨x, mode, todo, tm⟩ fr → RFs e n cs cs' →
         Goes P B e n fr cs' CS w (bot x cs) (.ok v n' hp') := by
        intro b' hb' hwk
        obtain ⟨n', hp', k1⟩ := ih ((c, b') :: Γ) s' v (hΓ.cons hb') hwk
        refine ⟨n', hp', fun B e w fr cs' CS hem hl hw hf hcs => ?_⟩
        have hg := hg B e w fr cs' CS hem hl hw hf hcs
        rw [ha] at hg
        obtain ⟨e1, w1, fr1, cs1, g1, g2, g3, g4, g5, g6⟩ := hg
        have k3 := k1 B e1 w1 fr1 cs1 CS (g1.m.trans hem) hl g2 g3 g4
        rw [g5] at k3
        exact k3.trans g6 g1
      unfold walkT at h
      split at h
      ·rename_i hd; exact go true hd h
      ·rename_i hd; exact go false hd h
      ·cases h
     ·cases h
    ·cases h
   ·rename_i s' ha
    obtain ⟨n', hp', k1⟩ := ih Γ s' v hΓ h
    refine ⟨n', hp', fun B e w fr cs' CS hem hl hw hf hcs => ?_⟩
    have hg := hg B e w fr cs' CS hem hl hw hf hcs
    rw [ha] at hg
    obtain ⟨e1, w1, fr1, cs1, g1, g2, g3, g4, g5, g6⟩ := hg
    have k3 := k1 B e1 w1 fr1 cs1 CS (g1.m.trans hem) hl g2 g3 g4
    rw [g5] at k3
    exact k3.trans g6 g1
   ·rename_i v0 n0 hp0 ha
    cases h
    refine ⟨n0, hp0, fun B e w fr cs' CS hem hl hw hf hcs => ?_⟩
    have hg := hg B e w fr cs' CS hem hl hw hf hcs
    rw [ha] at hg
    exact hg
   ·cases h
theorem tree_calls {d : Nat} {f : FuncId} {args args' : List Value} {Γ : Facts} {v : Value} (hΓ : Holds m Γ) (hv : walkT m (treeOf P sm mk fuel d f args Γ) = some v) {w : World} (hk : KOk m w) (ha : RL ⟨fun _ => 0, fun _ => 0, m⟩ 0 args args') :
  Calls P f args'.toArray w fun o w' => ∃ e' n' v', e'.m = m ∧ RV e' n' v v' ∧ o = .returned v' ∧ Below w.heap.size w w' := by
 intro cs
 unfold treeOf at hv
 split at hv
 ·rename_i x mode todo tm he
  obtain ⟨h1, h2, h3, h4, h5, h6⟩ := enter_rel hP (e := ⟨fun _ => 0, fun _ => 0, m⟩) (n := 0) he ha
  obtain ⟨n', hp', k3⟩ := explT_goes hP hsm hmk (fuel := fuel) d Γ ⟨x, mode, todo, tm, [], 0, .none⟩ v hΓ hv
  obtain ⟨e', w', v', g1, g2, g3, g4, g5⟩ := k3 ⟨w, 0, fun _ => 0, true⟩ ⟨fun _ => 0, fun _ => 0, m⟩ w _ [] cs rfl rfl (start_wr P hk) h1 .nil
  obtain ⟨fr1, g6, g7, g8⟩ := g5 h4
  exact ⟨.returned v', w', fr1, ⟨e', n', v', g1.m, g3, rfl, g2.os, g2.tape, g2.output, g2.size, fun k hk => g2.old k hk fun i hi => absurd hi (Nat.not_lt_zero _)⟩, g6, g7.trans h3, g8⟩
 ·cases hv
end
noncomputable def foldL (f : Value → Value) : List Value → List Value
 | [] => []
 | v :: l => f v :: foldL f l
noncomputable def orK (o : Option Value) (v : Value) : Value :=
 match o with
 | some r => cnd (isK r) r v
 | none => v
noncomputable def foldO (v : Value) (op : Nat) (l : List Value) : Value :=
 match l with
 | [x] => cnd (isK x) (orK (unC op x) v) v
 | [x, y] => cnd (isK x && isK y) (orK (binC op x y) v) v
 | _ => v
noncomputable def foldT : Nat → Value → Value :=
 @Nat.rec (fun _ => Value → Value) (fun v => v) (fun _ rec v => match v with
  | .func fn a c => match fn with
    | .methodOf op nm => foldO (.func (.methodOf op nm) ⟨foldL rec a.toList⟩ c) op (foldL rec a.toList)
    | fn => .func fn a c
  | v => v)
theorem foldL_den {m : Mu} {f : Value → Value} (ih : ∀ v, den m (f v) = den m v) : ∀ {l : List Value}, denL m (foldL f l) = denL m l
 | [] => rfl
 | v :: l => by simp only [foldL, denL, ih v, foldL_den ih]
theorem orK_den {m : Mu} {o : Option Value} {v : Value} (h : ∀ r, o = some r → isK r = true → den m v = some r) : den m (orK o v) = den m v := by
 unfold orK
 split
 ·rename_i r
  rw [zaa]
  split
  ·rename_i hk; rw [h r rfl hk, isK_den hk]
  ·rfl
 ·rfl
theorem foldT_den {m : Mu} : ∀ (d : Nat) (v : Value), den m (foldT d v) = den m v
 | 0, _ => rfl
 | d + 1, v => by
   cases v with
   | func fn a c =>
     cases fn with
     | methodOf op nm =>
       obtain ⟨l⟩ := a
       show den m (foldO (.func (.methodOf op nm) ⟨foldL (foldT d) l⟩ c) op (foldL (foldT d) l)) = _
       have hv : den m (.func (.methodOf op nm) ⟨foldL (foldT d) l⟩ c) = den m (.func (.methodOf op nm) ⟨l⟩ c) := by
        rw [den, den, denA, denA, foldL_den (foldT_den d)]
       rw [← hv]
       generalize foldL (foldT d) l = r
       unfold foldO
       split
       ·rename_i x
        rw [zaa]
        split
        ·rename_i hk
         refine orK_den fun q hq _ => ?_
         obtain ⟨g1, g2⟩ := unC_ok (m := m) hq
         rw [den_1 g2 (isK_den hk)]; exact g1
        ·rfl
       ·rename_i x y
        rw [zaa]
        split
        ·rename_i hk
         obtain ⟨k1, k2⟩ := zac hk
         refine orK_den fun q hq _ => ?_
         obtain ⟨g1, g2⟩ := binC_ok (m := m) hq
         rw [zau g2 (isK_den k1) (isK_den k2)]; exact g1
        ·rfl
       ·rfl
     | _ => rfl
   | _ => rfl
noncomputable def pvars : Nat → List Nat → List Value
 | _, [] => []
 | k, s :: ss => pvar k s :: pvars (Nat.succ k) ss
noncomputable def sb (ls : List Value) (v : Value) : Value := foldT 50 (subT ls 50 v)
noncomputable def sbL (f : Value → Value) : List Value → List Value
 | [] => []
 | v :: l => f v :: sbL f l
noncomputable def sbV (ls : List Value) : Nat → Value → Value :=
 @Nat.rec (fun _ => Value → Value) (fun v => v) (fun _ rec v => match v with
  | .func fn a c => match fn with
    | .methodOf op nm => sb ls (.func (.methodOf op nm) a c)
    | fn => .func fn a c
  | .agg a => .agg ⟨sbL rec a.toList⟩
  | .tuple a => .tuple ⟨sbL rec a.toList⟩
  | v => v)
noncomputable def pureV (σ : List Nat) : Nat → Value → Bool :=
 @Nat.rec (fun _ => Value → Bool) (fun _ => false) (fun _ rec v => match v with
  | .func fn a c => match fn with
    | .methodOf op nm => okT σ 50 (.func (.methodOf op nm) a c) && !(Nat.beq (Nat.mod op 16) 13)
    | _ => false
  | .agg a => allB rec a.toList
  | .tuple a => allB rec a.toList
  | v => zas v)
noncomputable def okTr (σ : List Nat) : Tr → Bool
 | .node c y n => okT σ 50 c && (okTr σ y && okTr σ n)
 | .leaf v => pureV σ 50 v
 | .bad => true
noncomputable def runTr (ls : List Value) (hp : Hp) (t : Tr) : EntR :=
 @Tr.rec (fun _ => EntR) (fun c _ _ y n => askE hp (sb ls c) y n) (fun v => .ans (sbV ls 50 v)) .no t
noncomputable def reqL (ls : List Value) (hp : Hp) : Facts → Bool
 | [] => true
 | x :: l => match x with
   | ⟨c, b⟩ => match decH hp (sb ls c) with
     | some b' => cnd (cnd b b' (!b')) (reqL ls hp l) false
     | none => false
structure Sum where
 f : FuncId
 ps : List Pt
 Γ : Facts
 t : Tr
noncomputable def resT (ps : List Pt) (Γ : Facts) (t : Tr) (args : List Value) (hp : Hp) : EntR := match flat ps args with
 | some ls => cnd (reqL ls hp Γ) (runTr ls hp t) .no
 | none => .no
noncomputable def okΓ (σ : List Nat) : Facts → Bool
 | [] => true
 | x :: l => match x with
   | ⟨c, _⟩ => cnd (okT σ 50 c) (okΓ σ l) false
section
variable {m : Mu} {ls vs : List Value} {σ : List Nat} {D : Nat → Value} (hτ : ∀ (k s : Nat), σ[k]? = some s → ∃ t v, ls[k]? = some t ∧ den m t = some v ∧ srtA s v = true)
include hτ
theorem sb_den {v : Value} (h : okT σ 50 v = true) : den m (sb ls v) = den (subM m ls D) v := by
 unfold sb
 rw [foldT_den]
 exact (subT_den hτ 50 v h).symm
theorem reqL_ok {hp : Hp} (hd : ∀ c b, decH hp c = some b → den m c = some (.bool b)) : ∀ {Γ : Facts}, okΓ σ Γ = true → reqL ls hp Γ = true → Holds (subM m ls D) Γ
 | [], _, _ => fun _ _ h => by simp at h
 | (c, b) :: Γ, ho, h => by
   have ho2 : cnd (okT σ 50 c) (okΓ σ Γ) false = true := ho
   clear ho
   have h3 : (match decH hp (sb ls c) with
    | some b' => cnd (cnd b b' (!b')) (reqL ls hp Γ) false
    | none => false) = true := h
   clear h
   rw [zaa] at ho2
   split at ho2
   ·rename_i hc
    split at h3
    ·rename_i b' hb
     rw [zaa] at h3
     split at h3
     ·rename_i hbb
      have : b' = b := by cases b <;> cases b' <;> first | rfl | cases hbb
      subst this
      have k : Holds (subM m ls D) Γ := reqL_ok hd (Γ := Γ) ho2 h3
      refine k.cons ?_
      rw [← sb_den hτ hc]; exact hd _ _ hb
     ·cases h3
    ·cases h3
   ·cases ho2
end
theorem pure_one {σ : List Nat} {e e' : Env} {n n' : Nat} (hm : e.m = e'.m) : ∀ (d : Nat) (u v v' : Value), pureV σ d u = true → RV e n u v → RV e' n' u v' → v = v'
 | 0, _, _, _, h, _, _ => by cases h
 | d + 1, u, v, v', h, h1, h2 => by
   have hl : ∀ (l l1 l2 : List Value), allB (pureV σ d) l = true → RL e n l l1 → RL e' n' l l2 → l1 = l2 := by
    intro l
    induction l with
    | nil => intro l1 l2 _ k1 k2; cases k1; cases k2; rfl
    | cons a l ih =>
      intro l1 l2 ha k1 k2
      cases k1 with
      | cons _ x1 _ m1 p1 q1 =>
        cases k2 with
        | cons _ x2 _ m2 p2 q2 =>
          unfold allB at ha
          rw [zaa] at ha
          split at ha
          ·rename_i hp; rw [pure_one hm d a x1 x2 hp p1 p2, ih _ _ ha q1 q2]
          ·cases ha
   have plain : zas u = true → v = v' := fun hp => by rw [h1.plainI hp, h2.plainI hp]
   cases u with
   | func fn a c =>
     cases fn with
     | methodOf op nm =>
       have g1 := h1.symI
       have g2 := h2.symI
       rw [hm] at g1
       rw [g1] at g2
       cases g2; rfl
     | _ => cases h
   | agg a =>
     obtain ⟨l⟩ := a
     obtain ⟨⟨a1⟩, rfl, k1⟩ := h1.aggI
     obtain ⟨⟨a2⟩, rfl, k2⟩ := h2.aggI
     rw [hl l a1 a2 h k1 k2]
   | tuple a =>
     obtain ⟨l⟩ := a
     obtain ⟨⟨a1⟩, rfl, k1⟩ := h1.tupleI
     obtain ⟨⟨a2⟩, rfl, k2⟩ := h2.tupleI
     rw [hl l a1 a2 h k1 k2]
   | _ => exact plain h
theorem Sorted.tau {m : Mu} : ∀ {σ : List Nat} {ls vs : List Value}, denL m ls = some vs → Sorted σ vs → ∀ (k s : Nat), σ[k]? = some s → ∃ t v, ls[k]? = some t ∧ den m t = some v ∧ srtA s v = true := by
 intro σ ls vs hd hs k s hk
 have hlen := hs.len
 have hlt := (List.getElem?_eq_some_iff.1 hk).1
 have hv : vs[k]? = some vs[k] := List.getElem?_eq_getElem (by omega)
 obtain ⟨t, h1, h2⟩ := denL_get hd k _ hv
 exact ⟨t, _, h1, h2, zaq (hs.get hk hv)⟩
theorem pvars_rel {m : Mu} {ls : List Value} {D : Nat → Value} {σ : List Nat} (hτ : ∀ (k s : Nat), σ[k]? = some s → ∃ t v, ls[k]? = some t ∧ den m t = some v ∧ srt s v = true) {vs : List Value} (hd : denL m ls = some vs) :
  ∀ (ss : List Nat) (k : Nat), (∀ i, i < ss.length → σ[k + i]? = ss[i]?) → RL ⟨fun _ => 0, fun _ => 0, subM m ls D⟩ 0 (pvars k ss) ((vs.drop k).take ss.length)
 | [], k, _ => by simp [pvars]; exact .nil
 | s :: ss, k, h => by
   have h0 := h 0 (by simp)
   simp at h0
   obtain ⟨t, v, g1, g2, g3⟩ := hτ k s h0
   obtain ⟨t', g4, g5⟩ : ∃ v', vs[k]? = some v' ∧ den m t = some v' := by
    have hlt := (List.getElem?_eq_some_iff.1 g1).1
    have hl := denL_size hd
    have hv : vs[k]? = some (vs[k]'(by omega)) := List.getElem?_eq_getElem (by omega)
    obtain ⟨t2, e1, e2⟩ := denL_get hd k _ hv
    rw [g1] at e1
    cases e1
    exact ⟨_, hv, e2⟩
   rw [g2] at g5
   cases g5
   have hlt := (List.getElem?_eq_some_iff.1 g4).1
   have hdrop : vs.drop k = v :: vs.drop (k + 1) := by
    rw [List.drop_eq_getElem_cons hlt]
    rw [List.getElem?_eq_getElem hlt] at g4
    cases g4; rfl
   rw [hdrop, List.length_cons, List.take_succ_cons]
   have hs16 := srt_lt g3
   refine .cons _ _ _ _ ?_ (pvars_rel hτ hd ss (k + 1) fun i hi => by
    have := h (i + 1) (by simp; omega)
    rw [show k + 1 + i = k + (i + 1) by omega]
    simpa using this)
   have e1 : opc (8192 + k) s / 16 = 8192 + k := by show (16 * (8192 + k) + s) / 16 = _; omega
   have e2 : opc (8192 + k) s % 16 = s := by show (16 * (8192 + k) + s) % 16 = _; omega
   have hden : den (subM m ls D) (pvar k s) = some v := by
    refine var_den2 (t := t) rfl (by rw [e1]; omega) (by rw [e1, Nat.add_sub_cancel_left]; exact g1) g2 (by rw [e2]; exact zaq g3)
   exact .sym _ _ _ _ _ hden (by rw [e2]; exact g3)
end Go.Gz
