/- The evaluator that the kernel runs: contracts of functions that only compute, as entries: what is looked at, what is asked, what is answered, over the leaves of arguments. -/
import Derived.Test.YteglommbdpaokaaGreatGzSm
namespace Go.Gz
open Go Go.Gx Go.RowKit
inductive Pt where
 | lf (s : Nat)
 | st (l : List Nat)
noncomputable def isS (v : Value) (s : Nat) : Bool := match sortOf v with
 | some s' => Nat.beq s' s
 | none => false
theorem isS_eq {v : Value} {s : Nat} (h : isS v s = true) : sortOf v = some s := by
 unfold isS at h
 split at h
 ·rename_i s' hs; rw [hs, zad h]
 ·cases h
noncomputable def sortsOk : List Nat → List Value → Bool
 | [], [] => true
 | s :: ss, v :: l => cnd (isS v s) (sortsOk ss l) false
 | _, _ => false
noncomputable def flat : List Pt → List Value → Option (List Value)
 | [], [] => some []
 | p :: ps, v :: l => match p with
   | .lf s => cnd (sortsOk [s] [v]) (match flat ps l with
     | some r => some (v :: r)
     | none => none) none
   | .st ss => match v with
     | .agg a => cnd (sortsOk ss a.toList) (match flat ps l with
       | some r => some (a.toList ++ r)
       | none => none) none
     | _ => none
 | _, _ => none
def unfl : List Pt → List Value → List Value
 | [], _ => []
 | .lf _ :: ps, v :: l => v :: unfl ps l
 | .lf _ :: _, [] => []
 | .st ss :: ps, l => .agg ⟨l.take ss.length⟩ :: unfl ps (l.drop ss.length)
def ptS : List Pt → List Nat
 | [] => []
 | .lf s :: ps => s :: ptS ps
 | .st ss :: ps => ss ++ ptS ps
inductive Ix where
 | l (i : Nat)
 | k (v : Value)
structure Ap where
 op : Nat
 ix : List Ix
inductive R1 where
 | ix (i : Ix)
 | ap (a : Ap)
inductive R2 where
 | l (r : R1)
 | st (l : List R1)
inductive R3 where
 | one (r : R2)
 | tu (l : List R2)
inductive DT where
 | ask (c : Ap) (y n : DT)
 | req (c : Ap) (b : Bool) (d : DT)
 | ans (r : R3)
noncomputable def bIx (ls : List Value) (i : Ix) : Value :=
 match i with
 | .l i => match nth ls i with
   | some v => v
   | none => undef
 | .k v => v
noncomputable def bIxs (ls : List Value) : List Ix → List Value
 | [] => []
 | i :: l => bIx ls i :: bIxs ls l
noncomputable def bAp (ls : List Value) (a : Ap) : Value :=
 match a with
 | ⟨op, ix⟩ => sy op (bIxs ls ix)
noncomputable def bR1 (ls : List Value) (r : R1) : Value :=
 match r with
 | .ix i => bIx ls i
 | .ap a => bAp ls a
noncomputable def bR1s (ls : List Value) : List R1 → List Value
 | [] => []
 | r :: l => bR1 ls r :: bR1s ls l
noncomputable def bR2 (ls : List Value) (r : R2) : Value :=
 match r with
 | .l r => bR1 ls r
 | .st l => .agg ⟨bR1s ls l⟩
noncomputable def bR2s (ls : List Value) : List R2 → List Value
 | [] => []
 | r :: l => bR2 ls r :: bR2s ls l
noncomputable def bR3 (ls : List Value) (r : R3) : Value :=
 match r with
 | .one r => bR2 ls r
 | .tu l => .tuple ⟨bR2s ls l⟩
noncomputable def askE (hp : Hp) (c : Value) (y n : EntR) : EntR := match decH hp c with
 | some b => cnd b y n
 | none => .ask c
noncomputable def reqE (hp : Hp) (c : Value) (b : Bool) (y : EntR) : EntR := match decH hp c with
 | some b' => cnd (cnd b b' (!b')) y .no
 | none => .no
noncomputable def runD (ls : List Value) (hp : Hp) (d : DT) : EntR :=
 @DT.rec (fun _ => EntR) (fun c _ _ y n => askE hp (bAp ls c) y n) (fun c b _ y => reqE hp (bAp ls c) b y) (fun r => .ans (bR3 ls r)) d
structure Pu where
 f : FuncId
 ps : List Pt
 d : DT
noncomputable def resG (ps : List Pt) (d : DT) (args : List Value) (hp : Hp) : EntR := match flat ps args with
 | some ls => runD ls hp d
 | none => .no
noncomputable def entG (p : Pu) : Ent := match p with
 | ⟨f, ps, d⟩ => ⟨f, resG ps d⟩
def vIx (vs : List Value) : Ix → Option Value
 | .l i => vs[i]?
 | .k v => some v
def okIx (n : Nat) : Ix → Bool
 | .l i => decide (i < n)
 | .k v => match v with
   | .int _ _ | .bool _ | .string _ => true
   | _ => false
def vIxs (vs : List Value) : List Ix → Option (List Value)
 | [] => some []
 | i :: l => match vIx vs i, vIxs vs l with
   | some a, some b => some (a :: b)
   | _, _ => none
noncomputable def vAp (m : Mu) (vs : List Value) (a : Ap) : Option Value := match vIxs vs a.ix with
 | some l => itp m a.op l
 | none => none
def okAp (n : Nat) (a : Ap) : Bool := !(a.op == 1016) && a.ix.all (okIx n)
noncomputable def vR1 (m : Mu) (vs : List Value) : R1 → Option Value
 | .ix i => vIx vs i
 | .ap a => vAp m vs a
noncomputable def okR1 (n : Nat) : R1 → Bool
 | .ix i => match i with
   | .l i => decide (i < n)
   | .k v => zas v
 | .ap a => okAp n a && !(a.op % 16 == 13)
noncomputable def vR1s (m : Mu) (vs : List Value) : List R1 → Option (List Value)
 | [] => some []
 | i :: l => match vR1 m vs i, vR1s m vs l with
   | some a, some b => some (a :: b)
   | _, _ => none
noncomputable def vR2 (m : Mu) (vs : List Value) : R2 → Option Value
 | .l r => vR1 m vs r
 | .st l => match vR1s m vs l with
   | some l => some (.agg ⟨l⟩)
   | none => none
noncomputable def okR2 (n : Nat) : R2 → Bool
 | .l r => okR1 n r
 | .st l => l.all (okR1 n)
noncomputable def vR2s (m : Mu) (vs : List Value) : List R2 → Option (List Value)
 | [] => some []
 | i :: l => match vR2 m vs i, vR2s m vs l with
   | some a, some b => some (a :: b)
   | _, _ => none
noncomputable def vR3 (m : Mu) (vs : List Value) : R3 → Option Value
 | .one r => vR2 m vs r
 | .tu l => match vR2s m vs l with
   | some l => some (.tuple ⟨l⟩)
   | none => none
noncomputable def okR3 (n : Nat) : R3 → Bool
 | .one r => okR2 n r
 | .tu l => l.all (okR2 n)
noncomputable def okD (n : Nat) : DT → Bool
 | .ask c y z => okAp n c && (okD n y && okD n z)
 | .req c _ y => okAp n c && okD n y
 | .ans r => okR3 n r
noncomputable def DOk (P : Program) (m : Mu) (f : FuncId) (args : List Value) (w : World) (vs : List Value) : DT → Prop
 | .ask c y n => (vAp m vs c = some (.bool true) → DOk P m f args w vs y) ∧ (vAp m vs c = some (.bool false) → DOk P m f args w vs n)
 | .req c b y => vAp m vs c = some (.bool b) → DOk P m f args w vs y
 | .ans r => ∃ v, vR3 m vs r = some v ∧ GivesZ P f args w v
section
variable {m : Mu} {ls vs : List Value}
theorem denL_get : ∀ {ls vs : List Value}, denL m ls = some vs → ∀ (i : Nat) (v : Value), vs[i]? = some v → ∃ t, ls[i]? = some t ∧ den m t = some v
 | [], vs, h, i, v, hv => by cases h; simp at hv
 | a :: l, vs, h, i, v, hv => by
   rw [denL] at h
   split at h
   ·rename_i x hx
    split at h
    ·rename_i r hr
     cases h
     cases i with
     | zero => simp at hv; subst hv; exact ⟨a, rfl, hx⟩
     | succ i => simp at hv; obtain ⟨t, h1, h2⟩ := denL_get hr i v hv; exact ⟨t, by simpa using h1, h2⟩
    ·cases h
   ·cases h
theorem denL_size {ls vs : List Value} (h : denL m ls = some vs) : vs.length = ls.length := by
 induction ls generalizing vs with
 | nil => cases h; rfl
 | cons a l ih =>
   rw [denL] at h
   split at h
   ·split at h
    ·rename_i r hr; cases h; simp [ih hr]
    ·cases h
   ·cases h
variable (hd : denL m ls = some vs)
include hd
theorem bIx_den {i : Ix} (hok : okIx vs.length i = true) : ∃ v, vIx vs i = some v ∧ den m (bIx ls i) = some v := by
 cases i with
 | l i =>
   have hi : i < vs.length := of_decide_eq_true hok
   have hv : vs[i]? = some vs[i] := List.getElem?_eq_getElem hi
   obtain ⟨t, h1, h2⟩ := denL_get hd i _ hv
   refine ⟨_, hv, ?_⟩
   show den m (match nth ls i with
    | some v => v
    | none => undef) = _
   rw [nth_get, h1]; exact h2
 | k v =>
   refine ⟨v, rfl, ?_⟩
   show den m v = some v
   unfold okIx at hok
   simp only at hok
   cases v with
   | int k n => rw [den]
   | bool b => rw [den]
   | string s => rw [den]
   | _ => cases hok
theorem bIxs_den : ∀ {l : List Ix}, l.all (okIx vs.length) = true → ∃ r, vIxs vs l = some r ∧ denL m (bIxs ls l) = some r
 | [], _ => ⟨[], rfl, rfl⟩
 | i :: l, h => by
   rw [List.all_cons, Bool.and_eq_true] at h
   obtain ⟨v, h1, h2⟩ := bIx_den hd h.1
   obtain ⟨r, h3, h4⟩ := bIxs_den h.2
   refine ⟨v :: r, ?_, ?_⟩
   ·rw [vIxs, h1, h3]
   ·show denL m (bIx ls i :: bIxs ls l) = _
    rw [denL, h2]
    simp only [h4]
theorem bAp_den {a : Ap} (hok : okAp vs.length a = true) : den m (bAp ls a) = vAp m vs a := by
 obtain ⟨op, ix⟩ := a
 unfold okAp at hok
 rw [Bool.and_eq_true] at hok
 obtain ⟨r, h1, h2⟩ := bIxs_den hd hok.2
 have ho : ¬ op = 1016 := by simpa using hok.1
 show den m (.func (.methodOf op "") ⟨bIxs ls ix⟩ #[]) = _
 unfold vAp
 simp only [h1]
 rw [den, denA, h2]
 exact if_neg ho
variable {e : Env} {n : Nat} (hem : e.m = m) (hrv : ∀ (i : Nat) (t v : Value), ls[i]? = some t → vs[i]? = some v → RV e n t v)
include hem hrv
theorem bR1_rv {r : R1} {v : Value} (hok : okR1 vs.length r = true) (hv : vR1 m vs r = some v) : RV e n (bR1 ls r) v := by
 cases r with
 | ix i =>
   cases i with
   | l i =>
     have hv : vs[i]? = some v := hv
     obtain ⟨t, h1, _⟩ := denL_get hd i _ hv
     show RV e n (match nth ls i with
      | some v => v
      | none => undef) v
     rw [nth_get, h1]; exact hrv i t v h1 hv
   | k u => cases hv; exact .plain _ hok
 | ap a =>
   have hok : (okAp vs.length a && !(a.op % 16 == 13)) = true := hok
   rw [Bool.and_eq_true] at hok
   have h1 : den m (bAp ls a) = some v := (bAp_den hd hok.1).trans hv
   obtain ⟨op, ix⟩ := a
   have h13 : ¬ op % 16 = 13 := by simpa using hok.2
   refine .sym _ _ _ _ _ (by rw [hem]; exact h1) ?_
   exact zat h13 (den_srt h1)
theorem bR1s_rv : ∀ {l : List R1} {v : List Value}, l.all (okR1 vs.length) = true → vR1s m vs l = some v → RL e n (bR1s ls l) v
 | [], v, _, hv => by cases hv; exact .nil
 | r :: l, v, h, hv => by
   rw [List.all_cons, Bool.and_eq_true] at h
   unfold vR1s at hv
   split at hv
   ·rename_i a b h1 h2
    cases hv
    exact .cons _ _ _ _ (bR1_rv hd hem hrv h.1 h1) (bR1s_rv h.2 h2)
   ·cases hv
theorem bR2_rv {r : R2} {v : Value} (hok : okR2 vs.length r = true) (hv : vR2 m vs r = some v) : RV e n (bR2 ls r) v := by
 cases r with
 | l r => exact bR1_rv hd hem hrv hok hv
 | st l =>
   unfold vR2 at hv
   simp only at hv
   split at hv
   ·rename_i r hr; cases hv; exact .agg _ _ (bR1s_rv hd hem hrv hok hr)
   ·cases hv
theorem bR2s_rv : ∀ {l : List R2} {v : List Value}, l.all (okR2 vs.length) = true → vR2s m vs l = some v → RL e n (bR2s ls l) v
 | [], v, _, hv => by cases hv; exact .nil
 | r :: l, v, h, hv => by
   rw [List.all_cons, Bool.and_eq_true] at h
   unfold vR2s at hv
   split at hv
   ·rename_i a b h1 h2
    cases hv
    exact .cons _ _ _ _ (bR2_rv hd hem hrv h.1 h1) (bR2s_rv h.2 h2)
   ·cases hv
theorem bR3_rv {r : R3} {v : Value} (hok : okR3 vs.length r = true) (hv : vR3 m vs r = some v) : RV e n (bR3 ls r) v := by
 cases r with
 | one r => exact bR2_rv hd hem hrv hok hv
 | tu l =>
   unfold vR3 at hv
   simp only at hv
   split at hv
   ·rename_i r hr; cases hv; exact .tuple _ _ (bR2s_rv hd hem hrv hok hr)
   ·cases hv
omit hrv in
theorem runD_ok {P : Program} {f : FuncId} {args : List Value} {w : World} (hrv : ∀ (i : Nat) (t v : Value), ls[i]? = some t → vs[i]? = some v → RV e n t v) {hp : Hp} (hk : ∀ c b, decH hp c = some b → den m c = some (.bool b)) :
  ∀ {d : DT} {u : Value}, okD vs.length d = true → DOk P m f args w vs d → runD ls hp d = .ans u → ∃ v, RV e n u v ∧ GivesZ P f args w v
 | .ask c y z, u, hok, hD, hr => by
   unfold okD at hok
   rw [Bool.and_eq_true, Bool.and_eq_true] at hok
   have hr : askE hp (bAp ls c) (runD ls hp y) (runD ls hp z) = .ans u := hr
   unfold askE at hr
   split at hr
   ·rename_i b hb
    have hc := (bAp_den hd hok.1).symm.trans (hk _ _ hb)
    cases b
    ·exact runD_ok hrv hk hok.2.2 (hD.2 hc) hr
    ·exact runD_ok hrv hk hok.2.1 (hD.1 hc) hr
   ·cases hr
 | .req c b y, u, hok, hD, hr => by
   unfold okD at hok
   rw [Bool.and_eq_true] at hok
   have hr : reqE hp (bAp ls c) b (runD ls hp y) = .ans u := hr
   unfold reqE at hr
   split at hr
   ·rename_i b' hb
    have hc := (bAp_den hd hok.1).symm.trans (hk _ _ hb)
    cases b <;> cases b' <;> first | exact runD_ok hrv hk hok.2 (hD hc) hr | cases hr
   ·cases hr
 | .ans r, u, hok, hD, hr => by
   obtain ⟨v, h1, h2⟩ := hD
   have hr : EntR.ans (bR3 ls r) = .ans u := hr
   cases hr
   exact ⟨v, bR3_rv hd hem hrv hok h1, h2⟩
end
theorem sortsOk_rl {e : Env} {n : Nat} : ∀ {ss : List Nat} {l l' : List Value}, sortsOk ss l = true → RL e n l l' → denL e.m l = some l' ∧ Sorted ss l' ∧ l.length = ss.length
 | [], [], _, _, h => by cases h; exact ⟨rfl, trivial, rfl⟩
 | s :: ss, v :: l, _, hs, h => by
   cases h with
   | cons _ x _ l' h1 hl =>
     unfold sortsOk at hs
     rw [zaa] at hs
     split at hs
     ·rename_i hv
      obtain ⟨g1, g2⟩ := h1.leaf (isS_eq hv)
      obtain ⟨k1, k2, k3⟩ := sortsOk_rl hs hl
      refine ⟨?_, ⟨g2, k2⟩, by simp [k3]⟩
      rw [denL, g1]
      simp only [k1]
     ·cases hs
 | [], _ :: _, _, h, _ => by cases h
 | _ :: _, [], _, h, _ => by cases h
theorem RL.app {e : Env} {n : Nat} : ∀ {l l' r r' : List Value}, RL e n l l' → RL e n r r' → RL e n (l ++ r) (l' ++ r')
 | _, _, _, _, .nil, hr => hr
 | _, _, _, _, .cons a a' l l' h hl, hr => .cons _ _ _ _ h (RL.app hl hr)
theorem denL_app {m : Mu} : ∀ {l l' r r' : List Value}, denL m l = some l' → denL m r = some r' → denL m (l ++ r) = some (l' ++ r')
 | [], _, _, _, h, hr => by cases h; exact hr
 | a :: l, l', r, r', h, hr => by
   rw [denL] at h
   split at h
   ·rename_i x hx
    split at h
    ·rename_i y hy
     cases h
     show denL m (a :: (l ++ r)) = _
     rw [denL, hx]
     simp only [denL_app hy hr]; rfl
    ·cases h
   ·cases h
theorem Sorted.app : ∀ {ss tt : List Nat} {l r : List Value}, Sorted ss l → Sorted tt r → Sorted (ss ++ tt) (l ++ r)
 | [], _, [], _, _, h => h
 | _ :: _, _, _ :: _, _, h, h' => ⟨h.1, Sorted.app h.2 h'⟩
 | [], _, _ :: _, _, h, _ => h.elim
 | _ :: _, _, [], _, h, _ => h.elim
theorem Sorted.size : ∀ {ss : List Nat} {l : List Value}, Sorted ss l → l.length = ss.length
 | [], [], _ => rfl
 | _ :: _, _ :: _, h => by simp [Sorted.size h.2]
 | [], _ :: _, h => h.elim
 | _ :: _, [], h => h.elim
theorem flat_ok {e : Env} {n : Nat} : ∀ {ps : List Pt} {args args' ls : List Value}, flat ps args = some ls → RL e n args args' →
  ∃ vs, denL e.m ls = some vs ∧ Sorted (ptS ps) vs ∧ args' = unfl ps vs ∧ RL e n ls vs
 | [], [], args', ls, h, ha => by cases h; cases ha; exact ⟨[], rfl, trivial, rfl, .nil⟩
 | .lf s :: ps, v :: l, args', ls, h, ha => by
   cases ha with
   | cons _ x _ l' h1 hl =>
     unfold flat at h
     simp only at h
     rw [zaa] at h
     split at h
     ·rename_i hs
      split at h
      ·rename_i r hr
       cases h
       obtain ⟨vs, k1, k2, k3, k4⟩ := flat_ok hr hl
       obtain ⟨g1, g2, _⟩ := sortsOk_rl hs (.cons _ _ _ _ h1 .nil)
       refine ⟨x :: vs, denL_app g1 k1, ⟨g2.1, k2⟩, by rw [k3]; rfl, .cons _ _ _ _ h1 k4⟩
      ·cases h
     ·cases h
 | .st ss :: ps, v :: l, args', ls, h, ha => by
   cases ha with
   | cons _ x _ l' h1 hl =>
     unfold flat at h
     simp only at h
     split at h
     ·rename_i a
      rw [zaa] at h
      split at h
      ·rename_i hs
       split at h
       ·rename_i r hr
        cases h
        obtain ⟨vs, k1, k2, k3, k4⟩ := flat_ok hr hl
        obtain ⟨a', rfl, ha'⟩ := h1.aggI
        obtain ⟨g1, g2, g3⟩ := sortsOk_rl hs ha'
        have hsz := g2.size
        refine ⟨a'.toList ++ vs, denL_app g1 k1, g2.app k2, ?_, ha'.app k4⟩
        show Value.agg a' :: l' = .agg ⟨(a'.toList ++ vs).take ss.length⟩ :: unfl ps ((a'.toList ++ vs).drop ss.length)
        rw [← hsz, List.take_left', List.drop_left', k3] <;> rfl
       ·cases h
      ·cases h
     ·cases h
 | [], _ :: _, _, _, h, _ => by cases h
 | .lf _ :: _, [], _, _, h, _ => by cases h
 | .st _ :: _, [], _, _, h, _ => by cases h
theorem entG_ok {P : Program} {m : Mu} {p : Pu} (hb : (bodyOf P p.f).isSome = true) (hok : okD (ptS p.ps).length p.d = true)
  (hD : ∀ (w : World) (vs : List Value), KOk m w → Sorted (ptS p.ps) vs → DOk P m p.f (unfl p.ps vs) w vs p.d) : EntOk P m (entG p) := by
 obtain ⟨f, ps, d⟩ := p
 refine ⟨hb, fun args hp v hd hv e n w args' hem hk ha => ?_⟩
 have hv : resG ps d args hp = .ans v := hv
 unfold resG at hv
 split at hv
 ·rename_i ls hls
  obtain ⟨vs, k1, k2, k3, k4⟩ := flat_ok hls ha
  subst k3
  rw [hem] at k1
  exact runD_ok k1 hem (fun i t v h1 h2 => by obtain ⟨v', g1, g2⟩ := k4.get h1; rw [h2] at g1; cases g1; exact g2) hd (by rw [k2.size]; exact hok) (hD w vs hk k2) hv
 ·cases hv
end Go.Gz
