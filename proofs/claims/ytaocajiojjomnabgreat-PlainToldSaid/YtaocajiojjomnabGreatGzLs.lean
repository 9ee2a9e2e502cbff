/- The evaluator that the kernel runs: loops: what is left to show, and that it is enough. -/
import Derived.Test.YtaocajiojjomnabGreatGzLr
namespace Go.Gz
open Go Go.Gx Go.RowKit
noncomputable def subL (f : Value → Value) : List Value → List Value
 | [] => []
 | v :: l => f v :: subL f l
noncomputable def subT (τ : List Value) : Nat → Value → Value :=
 @Nat.rec (fun _ => Value → Value) (fun v => v) (fun _ rec v => match v with
  | .func fn a c => match fn with
    | .methodOf op nm => cnd (Nat.ble 8192 (Nat.div op 16)) (match nth τ (Nat.sub (Nat.div op 16) 8192) with
      | some t => t
      | none => .func (.methodOf op nm) a c) (.func (.methodOf op nm) ⟨subL rec a.toList⟩ c)
    | fn => .func fn a c
  | .agg a => .agg ⟨subL rec a.toList⟩
  | v => v)
noncomputable def okT (σ : List Nat) : Nat → Value → Bool :=
 @Nat.rec (fun _ => Value → Bool) (fun _ => false) (fun _ rec v => match v with
  | .func fn a _ => match fn with
    | .methodOf op _ => cnd (Nat.ble 8192 (Nat.div op 16)) (a.isEmpty && (match nth σ (Nat.sub (Nat.div op 16) 8192) with
      | some s => Nat.beq s (Nat.mod op 16)
      | none => false)) (allB rec a.toList)
    | _ => false
  | .agg a => allB rec a.toList
  | .int _ _ => true
  | .bool _ => true
  | .string _ => true
  | _ => false)
theorem subL_den {m m2 : Mu} {f : Value → Value} {ok : Value → Bool} (ih : ∀ v, ok v = true → den m2 v = den m (f v)) : ∀ {l : List Value}, allB ok l = true → denL m2 l = denL m (subL f l)
 | [], _ => rfl
 | v :: l, h => by
   unfold allB at h
   rw [zaa] at h
   split at h
   ·rename_i h1
    simp only [subL, denL, ih v h1, subL_den ih h]
   ·cases h
theorem subT_den {m : Mu} {τ : List Value} {σ : List Nat} {D : Nat → Value} (hτ : ∀ (k s : Nat), σ[k]? = some s → ∃ t v, τ[k]? = some t ∧ den m t = some v ∧ srtA s v = true) : ∀ (d : Nat) (v : Value), okT σ d v = true → den (subM m τ D) v = den m (subT τ d v)
 | 0, _, h => by cases h
 | d + 1, v, h => by
   have ih := subT_den (D := D) hτ d
   cases v with
   | func fn a c =>
     cases fn with
     | methodOf op nm =>
       have h : cnd (Nat.ble 8192 (Nat.div op 16)) (a.isEmpty && (match nth σ (Nat.sub (Nat.div op 16) 8192) with
        | some s => Nat.beq s (Nat.mod op 16)
        | none => false)) (allB (okT σ d) a.toList) = true := h
       show den (subM m τ D) _ = den m (cnd (Nat.ble 8192 (Nat.div op 16)) (match nth τ (Nat.sub (Nat.div op 16) 8192) with
        | some t => t
        | none => .func (.methodOf op nm) a c) (.func (.methodOf op nm) ⟨subL (subT τ d) a.toList⟩ c))
       rw [zaa] at h ⊢
       split at h
       ·rename_i hge
        rw [if_pos hge]
        obtain ⟨h1, h2⟩ := zab h
        split at h2
        ·rename_i s hs
         rw [nth_get] at hs
         have h2 : s = op % 16 := zae h2
         obtain ⟨t, v, g1, g2, g3⟩ := hτ _ _ hs
         have : nth τ (Nat.sub (Nat.div op 16) 8192) = some t := by rw [nth_get]; exact g1
         rw [this]
         simp only
         rw [g2]
         exact var_den2 h1 (by rw [Nat.ble_eq] at hge; exact hge) g1 g2 (by rw [← h2]; exact g3)
        ·cases h2
       ·rename_i hge
        rw [if_neg hge]
        obtain ⟨l⟩ := a
        have hl : denA (subM m τ D) ⟨l⟩ = denA m ⟨subL (subT τ d) l⟩ := by
         rw [denA, denA]; exact subL_den ih h
        have hI : ∀ r, (subM m τ D).I op r = m.I op r := by
         intro r
         have hlt : ¬ 8192 ≤ op / 16 := fun h => hge (by rw [Nat.ble_eq]; exact h)
         show subI m τ D op r = m.I op r
         unfold subI
         rw [if_neg hlt, if_neg (fun h => hlt (Nat.le_trans (by decide) h))]
        rw [den, den, hl]
        have hit : ∀ r, itp (subM m τ D) op r = itp m op r := by
         intro r
         unfold itp
         rw [hI]
         rfl
        simp only [hit]
     | _ => cases h
   | agg a =>
     obtain ⟨l⟩ := a
     show den (subM m τ D) _ = den m (.agg ⟨subL (subT τ d) l⟩)
     rw [den, den, denA, denA, subL_den ih h]
   | int k n => show den (subM m τ D) _ = den m (.int k n); rw [den, den]
   | bool b => show den (subM m τ D) _ = den m (.bool b); rw [den, den]
   | string b => show den (subM m τ D) _ = den m (.string b); rw [den, den]
   | _ => cases h
structure Head where
 slots : List Value
 objs : List AObj
 Γ : Facts
 rank : Value
structure Obl where
 Γ : Facts
 goals : Facts
noncomputable def sortsOf (dec : Value → Option Bool) : List Value → Option (List Nat)
 | [] => some []
 | t :: l => match wt dec 1000 t with
   | some s => match sortsOf dec l with
     | some r => some (s :: r)
     | none => none
   | none => none
noncomputable def okF (σ : List Nat) : Facts → Bool
 | [] => true
 | x :: l => match x with
   | ⟨c, _⟩ => cnd (okT σ 1000 c) (okF σ l) false
noncomputable def goal (dec : Value → Option Bool) (c : Value) (b : Bool) (l : Facts) : Facts :=
 match dec c with
 | some b' => cnd (cnd b b' (!b')) l ((c, b) :: l)
 | none => (c, b) :: l
noncomputable def goalsF (dec : Value → Option Bool) (τ : List Value) : Facts → Facts → Facts
 | [], r => r
 | x :: l, r => match x with
   | ⟨c, b⟩ => goal dec (subT τ 1000 c) b (goalsF dec τ l r)
noncomputable def rankGoals (dec : Value → Option Bool) (first : Bool) (r r' : Value) : Facts :=
 cnd first [] (goal dec (sy (opc 12 8) [r', r]) true (goal dec (sy (opc 14 8) [r, .int .i64 0]) true []))
noncomputable def tryHead (P : Program) (live : List Nat) (dec : Value → Option Bool) (first : Bool) (r : Value) (q : Nrm) (s : S) (h : Head) : Option Facts :=
 match q with
 | ⟨_, _, ⟨ts, bs⟩⟩ => match h with
   | ⟨slots, objs, Γ, rank⟩ => cnd (chkH P live slots objs ts bs s && Nat.ble ts.length 1000000) (match sortsOf dec ts with
     | some σ => cnd (okF σ Γ && okT σ 1000 rank) (some (goalsF dec ts Γ (rankGoals dec first r (subT ts 1000 rank)))) none
     | none => none) none
noncomputable def tryHeads (P : Program) (live : List Nat) (dec : Value → Option Bool) (first : Bool) (r : Value) (q : Nrm) (s : S) : List Head → Option Facts
 | [] => none
 | h :: l => match tryHead P live dec first r q s h with
   | some g => some g
   | none => tryHeads P live dec first r q s l
noncomputable def never : Facts := [(.bool false, true)]
noncomputable def leafGoals (P : Program) (live gens : List Nat) (dec : Value → Option Bool) (first : Bool) (r : Value) (heads : List Head) (a : Ans) : Facts :=
 match a with
 | .ok v _ _ => match v with
   | .bool b => cnd b [] never
   | v => goal dec v true []
 | .stop s => match tryHeads P live dec first r (nrm live gens s) s heads with
   | some g => g
   | none => never
 | _ => never
noncomputable def oblsOf (P : Program) (live gens : List Nat) (mk : Facts → Value → Option Bool) (first : Bool) (r : Value) (heads : List Head) : List (Facts × Ans) → List Obl
 | [] => []
 | x :: l => match x with
   | ⟨Γ, a⟩ => match leafGoals P live gens (mk Γ) first r heads a with
     | [] => oblsOf P live gens mk first r heads l
     | g => ⟨Γ, g⟩ :: oblsOf P live gens mk first r heads l
theorem obl_or {P : Program} {live gens : List Nat} {mk : Facts → Value → Option Bool} {first : Bool} {r : Value} {heads : List Head} : ∀ {L : List (Facts × Ans)} {x : Facts × Ans}, x ∈ L →
  leafGoals P live gens (mk x.1) first r heads x.2 = [] ∨ ⟨x.1, leafGoals P live gens (mk x.1) first r heads x.2⟩ ∈ oblsOf P live gens mk first r heads L
 | [], x, h => by simp at h
 | (Γ, a) :: L, x, h => by
   unfold oblsOf
   simp only
   rcases List.mem_cons.1 h with rfl | h
   ·cases hg : leafGoals P live gens (mk Γ) first r heads a with
    | nil => exact .inl rfl
    | cons g l => right; exact List.mem_cons_self
   ·rcases obl_or (P := P) (live := live) (gens := gens) (mk := mk) (first := first) (r := r) (heads := heads) h with h1 | h1
    ·exact .inl h1
    ·right
     split
     ·exact h1
     ·exact List.mem_cons_of_mem _ h1
section
variable {m : Mu} {dec : Value → Option Bool} (hdec : ∀ c b, dec c = some b → den m c = some (.bool b))
include hdec
theorem sortsOf_ok : ∀ {ts : List Value} {σ : List Nat}, sortsOf dec ts = some σ → ∀ (k s : Nat), σ[k]? = some s → ∃ t v, ts[k]? = some t ∧ den m t = some v ∧ srtA s v = true
 | [], σ, h, k, s, hk => by cases h; simp at hk
 | t :: l, σ, h, k, s, hk => by
   unfold sortsOf at h
   split at h
   ·rename_i s0 hs0
    split at h
    ·rename_i r hr
     cases h
     cases k with
     | zero =>
       simp at hk; subst hk
       obtain ⟨v, h1, h2⟩ := wt_ok hdec 1000 t s0 hs0
       exact ⟨t, v, rfl, h1, h2⟩
     | succ k =>
       obtain ⟨t', v, g1, g2⟩ := sortsOf_ok hr k s (by simpa using hk)
       exact ⟨t', v, by simpa using g1, g2⟩
    ·cases h
   ·cases h
theorem goal_ok {c : Value} {b : Bool} {l : Facts} (h : Holds m (goal dec c b l)) : den m c = some (.bool b) ∧ Holds m l := by
 unfold goal at h
 split at h
 ·rename_i b' hb
  have hd := hdec _ _ hb
  cases b <;> cases b' <;> first
   | exact ⟨hd, h⟩
   | exact ⟨h _ _ List.mem_cons_self, fun c' b' hm => h c' b' (List.mem_cons_of_mem _ hm)⟩
 ·exact ⟨h _ _ List.mem_cons_self, fun c' b' hm => h c' b' (List.mem_cons_of_mem _ hm)⟩
theorem goalsF_ok {τ : List Value} : ∀ {Γ r : Facts}, Holds m (goalsF dec τ Γ r) → (∀ c b, (c, b) ∈ Γ → den m (subT τ 1000 c) = some (.bool b)) ∧ Holds m r
 | [], r, h => ⟨fun _ _ hm => by simp at hm, h⟩
 | (c0, b0) :: Γ, r, h => by
   have h : Holds m (goal dec (subT τ 1000 c0) b0 (goalsF dec τ Γ r)) := h
   obtain ⟨h1, h2⟩ := goal_ok hdec h
   obtain ⟨h3, h4⟩ := goalsF_ok h2
   refine ⟨fun c b hm => ?_, h4⟩
   rcases List.mem_cons.1 hm with he | hm
   ·cases he; exact h1
   ·exact h3 c b hm
end
theorem okF_at {σ : List Nat} : ∀ {Γ : Facts}, okF σ Γ = true → ∀ c b, (c, b) ∈ Γ → okT σ 1000 c = true
 | [], _, c, b, h => by simp at h
 | (c0, b0) :: Γ, h, c, b, hm => by
   unfold okF at h
   simp only [zaa] at h
   split at h
   ·rename_i h1
    rcases List.mem_cons.1 hm with he | hm
    ·cases he; exact h1
    ·exact okF_at h c b hm
   ·cases h
theorem never_not {m : Mu} (h : Holds m never) : False := by
 have := h (.bool false) true List.mem_cons_self
 simp [den] at this
noncomputable def rankN (m : Mu) (r : Value) : Nat :=
 match den m r with
 | some (.int _ n) => n.toNat
 | _ => 0
theorem cmp_inv {m : Mu} {op : BinOp} (hop : isCmp op = true) {x y : Value} {b : Bool} (h : den m (sy (opc (binCode op) 8) [x, y]) = some (.bool b)) : ∃ x' y', den m x = some x' ∧ den m y = some y' ∧ zam op x' y' = some (.bool b) := by
 obtain ⟨l', h1, h2, _⟩ := den_sy_inv (by decide) (by cases op <;> decide) h
 obtain ⟨x', y', h3, h4, rfl⟩ := denL2_inv h1
 rw [stdI2] at h2
 exact ⟨x', y', h3, h4, h2⟩
theorem rank_less {m : Mu} {r r' : Value} (h1 : den m (sy (opc 12 8) [r', r]) = some (.bool true)) (h2 : den m (sy (opc 14 8) [r, .int .i64 0]) = some (.bool true)) : rankN m r' < rankN m r := by
 obtain ⟨a, b, ha, hb, h3⟩ := cmp_inv (op := .lss) rfl h1
 obtain ⟨c, z, hc, hz, h4⟩ := cmp_inv (op := .gtr) rfl h2
 rw [hb] at hc; cases hc
 simp [den] at hz; subst hz
 unfold rankN
 rw [ha, hb]
 cases b with
 | int k j =>
   cases a with
   | int k' i =>
     simp only [zam, isShift, Bool.false_eq_true, if_false] at h3 h4
     split at h3
     ·split at h4
      ·simp [intBin] at h3 h4
       show i.toNat < j.toNat
       omega
      ·cases h4
     ·cases h3
   | _ => simp [zam] at h3
 | _ => simp [zam] at h4
def Done (P : Program) (B : Base) (fr : Frame) (CS : List Frame) (w : World) (f : FuncId) : Prop :=
 ∃ w' fr1, Steps P (lone fr CS w) (lone fr1 CS w') ∧ fr1.fn = f ∧ fr1.leaving P w' (.returned (.bool true)) ∧ Below B.w.heap.size B.w w'
theorem Done.trans {P : Program} {B : Base} {fr fr1 : Frame} {CS : List Frame} {w w1 : World} {f : FuncId} (hs : Steps P (lone fr CS w) (lone fr1 CS w1)) (h : Done P B fr1 CS w1 f) : Done P B fr CS w f := by
 obtain ⟨w', fr2, h1, h2⟩ := h
 exact ⟨w', fr2, hs.trans h1, h2⟩
theorem WR.below {P : Program} {B : Base} (hB : B.n = 0) {e : Env} {n : Nat} {hp : Hp} {w : World} (h : WR P B e n hp w) : Below B.w.heap.size B.w w :=
 ⟨h.os, h.tape, h.output, h.size, fun k hk => h.old k hk fun i hi => by omega⟩
def Cls (m0 m : Mu) : Prop := m.K = m0.K ∧ ∀ op l, op / 16 < 8192 → m.I op l = m0.I op l
theorem Cls.refl (m : Mu) : Cls m m := ⟨rfl, fun _ _ _ => rfl⟩
theorem Cls.sub {m0 m : Mu} (h : Cls m0 m) (τ : List Value) (D : Nat → Value) : Cls m0 (subM m τ D) := by
 refine ⟨h.1, fun op l hl => ?_⟩
 rw [← h.2 op l hl]
 show subI m τ D op l = m.I op l
 unfold subI
 rw [if_neg (by omega), if_neg (by omega)]
section
variable {P : Program} (hP : Small P) {sm : Sm} {m0 : Mu} (hsm : ∀ m, Cls m0 m → SmOk P sm m) {mk : Facts → Value → Option Bool} (hmk : ∀ m, Cls m0 m → MkOk m mk) {hd : S → Bool} {fuel d : Nat}
 {live gens : List Nat} {X0 : X} {T : List AI} {heads : List Head}
include hP hmk
theorem leaf_done {first : Bool} {r : Value} {Γ : Facts} {a : Ans} {m : Mu} (hm : Cls m0 m) (hΓ : Holds m Γ) (hg : Holds m (leafGoals P live gens (mk Γ) first r heads a)) (hst : ∀ s, a = .stop s → s.x = X0 ∧ s.todo = T)
  {B : Base} (hB : B.n = 0) {e : Env} {n : Nat} {fr : Frame} {CS : List Frame} {w : World} (hem : e.m = m) (h : Goes P B e n fr [] CS w (none, X0.fn) a)
  (next : ∀ (h : Head) (m2 : Mu), h ∈ heads → Cls m0 m2 → Holds m2 h.Γ → (first = false → rankN m2 h.rank < rankN m r) → ∀ (e2 : Env) (w2 : World) (fr2 : Frame), e2.m = m2 → WR P B e2 (mkS X0 T h.slots h.objs).n (mkS X0 T h.slots h.objs).hp w2 → RF e2 (mkS X0 T h.slots h.objs).n ⟨X0, .run, T, (mkS X0 T h.slots h.objs).tm⟩ fr2 → Done P B fr2 CS w2 X0.fn) :
  Done P B fr CS w X0.fn := by
 have hdec := hmk m hm Γ hΓ
 cases a with
 | ok v n' hp' =>
   obtain ⟨e', w', v', g1, g2, g3, _, g5⟩ := h
   obtain ⟨fr1, g6, g7, g8⟩ := g5 rfl
   have hv : den m v = some (.bool true) := by
    unfold leafGoals at hg
    simp only at hg
    split at hg
    ·rename_i b
     cases b with
     | true => simp [den]
     | false => exact (never_not hg).elim
    ·exact (goal_ok hdec hg).1
   have : v' = .bool true := g3.den (by rw [g1.m, hem]; exact hv) rfl
   subst this
   exact ⟨w', fr1, g6, g7, g8, g2.below hB⟩
 | stop s =>
   obtain ⟨e', w', fr', cs2, g1, g2, g3, g4, g5, g6⟩ := h
   obtain ⟨hx, htd⟩ := hst s rfl
   have hg : Holds m (match tryHeads P live (mk Γ) first r (nrm live gens s) s heads with
    | some g => g
    | none => never) := hg
   split at hg
   ·rename_i g hth
    obtain ⟨h, hh, hth⟩ : ∃ h ∈ heads, tryHead P live (mk Γ) first r (nrm live gens s) s h = some g := by
     have : ∀ (l : List Head), tryHeads P live (mk Γ) first r (nrm live gens s) s l = some g → ∃ h ∈ l, tryHead P live (mk Γ) first r (nrm live gens s) s h = some g := by
      intro l
      induction l with
      | nil => intro h; cases h
      | cons h l ih =>
        intro h1
        unfold tryHeads at h1
        split at h1
        ·rename_i g' hg'; cases h1; exact ⟨h, List.mem_cons_self, hg'⟩
        ·obtain ⟨h2, k1, k2⟩ := ih h1; exact ⟨h2, List.mem_cons_of_mem _ k1, k2⟩
     exact this heads hth
    unfold tryHead at hth
    generalize nrm live gens s = q at hth
    obtain ⟨qs, qo, ⟨ts, bs⟩⟩ := q
    obtain ⟨slots, objs, Γh, rank⟩ := h
    simp only [zaa] at hth
    split at hth
    ·rename_i hck
     simp only [Bool.and_eq_true] at hck
     split at hth
     ·rename_i σ hσ
      split at hth
      ·rename_i hok
       cases hth
       simp only [Bool.and_eq_true] at hok
       have hτ := sortsOf_ok hdec hσ
       obtain ⟨D, e2, k1, k2, k3, k4, k5⟩ := head_inst hP hck.1 (zar hck.2) hB g2 g3 g4
       rw [hx, htd] at k2 k3
       subst k4
       obtain ⟨f1, f2⟩ := goalsF_ok hdec hg
       rw [g1.m, hem] at k1
       refine Done.trans g6 (next ⟨slots, objs, Γh, rank⟩ (subM m ts D) hh (hm.sub ts D) (fun c b hc => ?_) (fun hf => ?_) e2 w' fr' k1 k2 k3)
       ·rw [subT_den hτ 1000 c (okF_at hok.1 c b hc)]; exact f1 c b hc
       ·subst hf
        have f2 : Holds m (goal (mk Γ) (sy (opc 12 8) [subT ts 1000 rank, r]) true (goal (mk Γ) (sy (opc 14 8) [r, .int .i64 0]) true [])) := f2
        obtain ⟨r1, r2⟩ := goal_ok hdec f2
        obtain ⟨r3, _⟩ := goal_ok hdec r2
        have : rankN (subM m ts D) rank = rankN m (subT ts 1000 rank) := by
         unfold rankN; rw [subT_den hτ 1000 rank hok.2]
        show rankN (subM m ts D) rank < rankN m r
        rw [this]
        exact rank_less r1 r3
      ·cases hth
     ·cases hth
    ·cases hth
   ·exact (never_not hg).elim
 | need => exact (never_not hg).elim
 | bad => exact (never_not hg).elim
 | out => exact (never_not hg).elim
include hsm
theorem loop_done (hrn : X0.rnd = none)
  (hob : ∀ h ∈ heads, ∀ m, Cls m0 m → Holds m h.Γ → ∀ o ∈ oblsOf P live gens mk false h.rank heads (expl P sm mk hd fuel d h.Γ (mkS X0 T h.slots h.objs)), Holds m o.Γ → Holds m o.goals)
  (hst : ∀ h ∈ heads, ∀ x ∈ expl P sm mk hd fuel d h.Γ (mkS X0 T h.slots h.objs), ∀ s, x.2 = .stop s → s.x = X0 ∧ s.todo = T) :
  ∀ (N : Nat) (h : Head) (m : Mu), h ∈ heads → Cls m0 m → Holds m h.Γ → rankN m h.rank ≤ N → ∀ (B : Base) (e : Env) (w : World) (fr : Frame) (CS : List Frame), B.n = 0 → B.lt = true → e.m = m →
    WR P B e (mkS X0 T h.slots h.objs).n (mkS X0 T h.slots h.objs).hp w → RF e (mkS X0 T h.slots h.objs).n ⟨X0, .run, T, (mkS X0 T h.slots h.objs).tm⟩ fr → Done P B fr CS w X0.fn := by
 intro N
 induction N with
 | zero =>
   intro h m hh hm hΓ hN B e w fr CS hB hl hem hw hf
   obtain ⟨x, k1, k2, k3⟩ := expl_goes hP (hsm m hm) (hmk m hm) (head := hd) (fuel := fuel) d h.Γ (mkS X0 T h.slots h.objs) B e w fr [] CS hΓ hem hl hw hf .nil
   rw [show bot (mkS X0 T h.slots h.objs).x (mkS X0 T h.slots h.objs).cs = (none, X0.fn) by rw [← hrn]; rfl] at k3
   have hg : Holds m (leafGoals P live gens (mk x.1) false h.rank heads x.2) := by
    rcases obl_or (P := P) (live := live) (gens := gens) (mk := mk) (first := false) (r := h.rank) (heads := heads) k1 with h1 | h1
    ·rw [h1]; intro c b hc; simp at hc
    ·exact hob h hh m hm hΓ _ h1 k2
   refine leaf_done hP hmk hm k2 hg (hst h hh x k1) hB hem k3 fun h2 m2 _ _ _ hr => ?_
   have := hr rfl
   omega
 | succ N ih =>
   intro h m hh hm hΓ hN B e w fr CS hB hl hem hw hf
   obtain ⟨x, k1, k2, k3⟩ := expl_goes hP (hsm m hm) (hmk m hm) (head := hd) (fuel := fuel) d h.Γ (mkS X0 T h.slots h.objs) B e w fr [] CS hΓ hem hl hw hf .nil
   rw [show bot (mkS X0 T h.slots h.objs).x (mkS X0 T h.slots h.objs).cs = (none, X0.fn) by rw [← hrn]; rfl] at k3
   have hg : Holds m (leafGoals P live gens (mk x.1) false h.rank heads x.2) := by
    rcases obl_or (P := P) (live := live) (gens := gens) (mk := mk) (first := false) (r := h.rank) (heads := heads) k1 with h1 | h1
    ·rw [h1]; intro c b hc; simp at hc
    ·exact hob h hh m hm hΓ _ h1 k2
   refine leaf_done hP hmk hm k2 hg (hst h hh x k1) hB hem k3 fun h2 m2 hh2 hm2 hΓ2 hr e2 w2 fr2 he2 hw2 hf2 => ?_
   have := hr rfl
   exact ih h2 m2 hh2 hm2 hΓ2 (by omega) B e2 w2 fr2 CS hB hl he2 hw2 hf2
theorem loop_calls {f : FuncId} {args args' : List Value} {Γ : Facts} {x : X} {mode : FrameMode} {todo : List AI} {tm : Tm} (he : enterF P f args .normal = some ⟨x, mode, todo, tm⟩) (hrn : X0.rnd = none) (hfn : X0.fn = f)
  (hob0 : ∀ o ∈ oblsOf P live gens mk true undef heads (expl P sm mk hd fuel d Γ ⟨x, mode, todo, tm, [], 0, .none⟩), Holds m0 o.Γ → Holds m0 o.goals)
  (hst0 : ∀ y ∈ expl P sm mk hd fuel d Γ ⟨x, mode, todo, tm, [], 0, .none⟩, ∀ s, y.2 = .stop s → s.x = X0 ∧ s.todo = T)
  (hob : ∀ h ∈ heads, ∀ m, Cls m0 m → Holds m h.Γ → ∀ o ∈ oblsOf P live gens mk false h.rank heads (expl P sm mk hd fuel d h.Γ (mkS X0 T h.slots h.objs)), Holds m o.Γ → Holds m o.goals)
  (hst : ∀ h ∈ heads, ∀ x ∈ expl P sm mk hd fuel d h.Γ (mkS X0 T h.slots h.objs), ∀ s, x.2 = .stop s → s.x = X0 ∧ s.todo = T)
  (hΓ : Holds m0 Γ) {w : World} (hk : KOk m0 w) (ha : RL ⟨fun _ => 0, fun _ => 0, m0⟩ 0 args args') :
  Calls P f args'.toArray w fun o w' => o = .returned (.bool true) ∧ Below w.heap.size w w' := by
 intro CS
 obtain ⟨h1, h2, h3, h4, h5, h6⟩ := enter_rel hP (e := ⟨fun _ => 0, fun _ => 0, m0⟩) (n := 0) he ha
 have hm := Cls.refl m0
 obtain ⟨y, k1, k2, k3⟩ := expl_goes hP (hsm m0 hm) (hmk m0 hm) (head := hd) (fuel := fuel) d Γ ⟨x, mode, todo, tm, [], 0, .none⟩ ⟨w, 0, fun _ => 0, true⟩ ⟨fun _ => 0, fun _ => 0, m0⟩ w _ [] CS hΓ rfl rfl (start_wr P hk) h1 .nil
 have hbt : bot x [] = (none, X0.fn) := by
  show (x.rnd, x.fn) = _
  rw [hfn]; simp only at h3 h4; rw [h3, h4]
 rw [show bot (⟨x, mode, todo, tm, [], 0, .none⟩ : S).x (⟨x, mode, todo, tm, [], 0, .none⟩ : S).cs = (none, X0.fn) from hbt] at k3
 have hg : Holds m0 (leafGoals P live gens (mk y.1) true undef heads y.2) := by
  rcases obl_or (P := P) (live := live) (gens := gens) (mk := mk) (first := true) (r := undef) (heads := heads) k1 with h1 | h1
  ·rw [h1]; intro c b hc; simp at hc
  ·exact hob0 _ h1 k2
 have := leaf_done hP hmk hm k2 hg (hst0 y k1) rfl rfl k3 fun h2 m2 hh2 hm2 hΓ2 _ e2 w2 fr2 he2 hw2 hf2 =>
  loop_done hP hsm hmk hrn hob hst (rankN m2 h2.rank) h2 m2 hh2 hm2 hΓ2 (Nat.le_refl _) _ e2 w2 fr2 CS rfl rfl he2 hw2 hf2
 obtain ⟨w', fr1, q1, q2, q3, q4⟩ := this
 exact ⟨.returned (.bool true), w', fr1, ⟨rfl, q4⟩, q1, q2.trans hfn, q3⟩
end
end Go.Gz
