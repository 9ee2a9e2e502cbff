/- The evaluator that the kernel runs: a state that is an instance of one over variables stands for what that stands for. -/
import Derived.Test.YtaocajiojjomnabGreatGzLp
namespace Go.Gz
open Go Go.Gx Go.RowKit
theorem nth_get {α : Type} : ∀ (l : List α) (k : Nat), nth l k = l[k]?
 | [], _ => by simp [nth]
 | a :: l, 0 => rfl
 | a :: l, k + 1 => by
   show nth l k = _
   rw [nth_get l k]; simp
noncomputable def subI (m : Mu) (τ : List Value) (D : Nat → Value) (op : Nat) (l : List Value) : Value :=
 match (if 8192 ≤ op / 16 then τ[op / 16 - 8192]? else none) with
 | some t => (den m t).getD undef
 | none => if 1048576 ≤ op / 16 then D (op / 16 - 1048576) else m.I op l
noncomputable def subM (m : Mu) (τ : List Value) (D : Nat → Value) : Mu := ⟨subI m τ D, m.K⟩
noncomputable def reEnv (e : Env) (τ : List Value) (bs : List Nat) (D : Nat → Value) (hp : Hp) : Env :=
 ⟨fun j => e.β (bs.getD j 0), fun j => match hp.get (bs.getD j 0) with
  | .cells l _ true => 9223372036854775808 * e.tot (bs.getD j 0) + l.length
  | _ => e.tot (bs.getD j 0), subM e.m τ D⟩
theorem var_den2 {m : Mu} {τ : List Value} {D : Nat → Value} {op : Nat} {nm : String} {a c : Array Value} {t v' : Value} (ha : a.isEmpty = true) (hge : 8192 ≤ op / 16) (ht : τ[op / 16 - 8192]? = some t) (hd : den m t = some v') (hs : srtA (op % 16) v' = true) :
  den (subM m τ D) (.func (.methodOf op nm) a c) = some v' := by
 have ha : a = #[] := by simpa using ha
 subst ha
 have hI : (subM m τ D).I op [] = v' := by
  show subI m τ D op [] = v'
  unfold subI
  rw [if_pos hge, ht]
  simp [hd]
 rw [den, denA, denL]
 have h1 : ¬ op = 1016 := by omega
 have h2 : ¬ op / 16 < 64 := by omega
 simp only [if_neg h1, itp, if_neg h2, hI, fixS, if_pos hs]
theorem var_den {m : Mu} {τ : List Value} {D : Nat → Value} {op : Nat} {nm : String} {a c : Array Value} {v v' : Value} (ha : a.isEmpty = true) (h : mtVar τ op v = true) (hd : den m v = some v') (hs : srtA (op % 16) v' = true) :
  den (subM m τ D) (.func (.methodOf op nm) a c) = some v' := by
 unfold mtVar at h
 rw [zaa] at h
 split at h
 ·rename_i hge
  split at h
  ·rename_i t ht
   rw [nth_get] at ht
   have := veq_eq _ _ _ h
   subst this
   exact var_den2 ha (zar hge) ht hd hs
  ·cases h
 ·cases h
theorem sub_den {m : Mu} {τ : List Value} {D : Nat → Value} {op : Nat} {nm : String} {l : List Value} {c : Array Value} (h3 : op / 16 < 8192) (hl : denL (subM m τ D) l = denL m l) :
  den (subM m τ D) (.func (.methodOf op nm) ⟨l⟩ c) = den m (.func (.methodOf op nm) ⟨l⟩ c) := by
 rw [den, den, denA, denA, hl]
 have hi : ∀ r, itp (subM m τ D) op r = itp m op r := by
  intro r
  unfold itp
  have hI : (subM m τ D).I op r = m.I op r := by
   show subI m τ D op r = _
   unfold subI
   rw [if_neg (by omega)]
   show (if 1048576 ≤ op / 16 then _ else _) = _
   rw [if_neg (by omega)]
  rw [hI]
  have hs : stdI (subM m τ D) (op / 16) (op % 16) r = stdI m (op / 16) (op % 16) r := rfl
  rw [hs]
 simp only [hi]
theorem rigL_den {m : Mu} {τ : List Value} {D : Nat → Value} {f : Value → Bool} (ih : ∀ v, f v = true → den (subM m τ D) v = den m v) : ∀ {l : List Value}, allB f l = true → denL (subM m τ D) l = denL m l
 | [], _ => rfl
 | v :: l, h => by
   unfold allB at h
   rw [zaa] at h
   split at h
   ·rename_i h1
    simp only [denL, ih v h1, rigL_den ih h]
   ·cases h
theorem rigT_den {m : Mu} {τ : List Value} {D : Nat → Value} : ∀ (d : Nat) (v : Value), rigT d v = true → den (subM m τ D) v = den m v
 | 0, _, h => by cases h
 | d + 1, v, h => by
   cases v with
   | func fn a c =>
     cases fn with
     | methodOf op nm =>
       obtain ⟨l⟩ := a
       have h : cnd (Nat.blt (Nat.div op 16) 8192 && !(Nat.beq (Nat.div op 16) 40)) (allB (rigT d) l) false = true := h
       rw [zaa] at h
       split at h
       ·rename_i hc
        obtain ⟨h1, _⟩ := zab hc
        have h1 : op / 16 < 8192 := blt_lt h1
        exact sub_den h1 (rigL_den (rigT_den d) h)
       ·cases h
     | _ => cases h
   | agg a =>
     obtain ⟨l⟩ := a
     have h : allB (rigT d) l = true := h
     rw [den, den, denA, denA, rigL_den (rigT_den d) h]
   | int k n => rw [den, den]
   | bool b => rw [den, den]
   | string b => rw [den, den]
   | _ => cases h
theorem rigid_den {m : Mu} {τ : List Value} {D : Nat → Value} {op : Nat} {nm : String} {a c : Array Value} (h : rigid op a = true) :
  den (subM m τ D) (.func (.methodOf op nm) a c) = den m (.func (.methodOf op nm) a c) := by
 obtain ⟨l⟩ := a
 unfold rigid at h
 obtain ⟨h1, h2⟩ := zab h
 obtain ⟨_, h3⟩ := zab h2
 have h1 : op / 16 < 8192 := blt_lt h1
 exact sub_den h1 (rigL_den (rigT_den 40) h3)
theorem isNth_get {l : List Nat} {i j : Nat} (h : isNth l i j = true) : l[i]? = some j := by
 unfold isNth at h
 rw [nth_get] at h
 split at h
 ·rename_i k hk; rw [hk, zae h]
 ·cases h
section
variable {e : Env} {n : Nat} {τ : List Value} {bs : List Nat} {D : Nat → Value} {hp : Hp}
theorem nth_β {i j : Nat} (h : bs[i]? = some j) : (reEnv e τ bs D hp).β i = e.β j ∧ i < bs.length := by
 refine ⟨?_, (List.getElem?_eq_some_iff.1 h).1⟩
 show e.β (bs.getD i 0) = e.β j
 rw [List.getD_eq_getElem?_getD, h]; rfl
theorem nth_tot {i j : Nat} (h : bs[i]? = some j) : (reEnv e τ bs D hp).tot i = (match hp.get j with
  | .cells l _ true => 9223372036854775808 * e.tot j + l.length
  | _ => e.tot j) := by
 have : bs.getD i 0 = j := by rw [List.getD_eq_getElem?_getD, h]; rfl
 show (match hp.get (bs.getD i 0) with
  | .cells l _ true => 9223372036854775808 * e.tot (bs.getD i 0) + l.length
  | _ => e.tot (bs.getD i 0)) = _
 rw [this]
theorem mtL_ok {f : Value → Value → Bool} (ih : ∀ p v v', f p v = true → RV e n v v' → RV (reEnv e τ bs D hp) bs.length p v') : ∀ {l r r' : List Value}, mtL f l r = true → RL e n r r' → RL (reEnv e τ bs D hp) bs.length l r'
 | [], [], _, _, .nil => .nil
 | a :: l, b :: r, _, h, .cons _ b' _ r' hb hr => by
   unfold mtL at h
   rw [zaa] at h
   split at h
   ·rename_i h1; exact .cons _ _ _ _ (ih _ _ _ h1 hb) (mtL_ok ih h hr)
   ·cases h
 | [], _ :: _, _, h, _ => by simp [mtL] at h
 | _ :: _, [], _, h, _ => by simp [mtL] at h
theorem mtV_ok : ∀ (d : Nat) (p v v' : Value), mtV τ bs hp d p v = true → RV e n v v' → RV (reEnv e τ bs D hp) bs.length p v'
 | 0, _, _, _, h, _ => by cases h
 | d + 1, p, v, v', h, hv => by
   have ih := mtV_ok d
   have plain : ∀ p : Value, (zaq p && veq 50 p v) = true → RV (reEnv e τ bs D hp) bs.length p v' := by
    intro p h
    obtain ⟨h1, h2⟩ := zab h
    have := veq_eq _ _ _ h2
    subst this
    rw [hv.plainI h1]
    exact .plain _ h1
   cases p with
   | func fn a c =>
     cases fn with
     | methodOf op nm =>
       have h : cnd (rigid op a) (veq 1000 (.func (.methodOf op nm) a c) v && (zas v).isSome) (a.isEmpty && (mtVar τ op v && (match (generalizing := false) zas v with
        | some s => Nat.beq s (Nat.mod op 16)
        | none => false))) = true := h
       rw [zaa] at h
       split at h
       ·rename_i hr
        obtain ⟨h1, h2⟩ := zab h
        have := veq_eq _ _ _ h1
        subst this
        obtain ⟨s, hs⟩ := Option.isSome_iff_exists.1 h2
        have hs' : s = op % 16 := by cases hs; rfl
        obtain ⟨g1, g2⟩ := hv.leaf hs
        rw [hs'] at g2
        exact .sym _ _ _ _ _ ((rigid_den (m := e.m) (τ := τ) (D := D) hr).trans g1) g2
       obtain ⟨h1, h2⟩ := zab h
       obtain ⟨h2, h3⟩ := zab h2
       split at h3
       ·rename_i s hs
        have h3 : s = op % 16 := zae h3
        obtain ⟨g1, g2⟩ := hv.leaf hs
        rw [h3] at g2
        exact .sym _ _ _ _ _ (var_den h1 h2 g1 (srt_srtA g2)) g2
       ·cases h3
     | func g =>
       have h : (match (generalizing := false) v with
        | .func (.func g') a' c' => Nat.beq g g' && (mtL (mtV τ bs hp d) a.toList a'.toList && mtL (mtV τ bs hp d) c.toList c'.toList)
        | _ => false) = true := h
       split at h
       ·rename_i g' a' c'
        obtain ⟨h1, h2⟩ := zab h
        obtain ⟨h2, h3⟩ := zab h2
        obtain ⟨a2, c2, rfl, h4, h5⟩ := hv.funcI
        rw [zae h1]
        exact .func _ _ _ _ _ (mtL_ok ih h2 h4) (mtL_ok ih h3 h5)
       ·cases h
     | yield l =>
       have h : (match (generalizing := false) v with
        | .func (.yield l') a' c' => a.isEmpty && (c.isEmpty && (a'.isEmpty && isNth bs l l'))
        | _ => false) = true := h
       split at h
       ·rename_i l' a' c'
        obtain ⟨h1, h2⟩ := zab h
        obtain ⟨h2, h3⟩ := zab h2
        obtain ⟨h4, h3⟩ := zab h3
        obtain ⟨rfl, _⟩ := hv.yieldI h4
        have e1 : a = #[] := by simpa using h1
        have e2 : c = #[] := by simpa using h2
        obtain ⟨g1, g2⟩ := nth_β (e := e) (τ := τ) (D := D) (hp := hp) (isNth_get h3)
        rw [e1, e2, ← g1]
        exact .yield _ g2
       ·cases h
     | _ => cases h
   | pointer a =>
     match a, h with
     | some ⟨j, o, none⟩, h =>
       have h : (match (generalizing := false) v with
        | .pointer (some ⟨j', o', none⟩) => isNth bs j j' && Nat.beq o o'
        | _ => false) = true := h
       split at h
       ·rename_i j' o'
        obtain ⟨h1, h2⟩ := zab h
        obtain ⟨rfl, _⟩ := hv.ptrI
        obtain ⟨g1, g2⟩ := nth_β (e := e) (τ := τ) (D := D) (hp := hp) (isNth_get h1)
        rw [← g1, zae h2]
        exact .ptr _ _ g2
       ·cases h
     | some ⟨j, o, some z⟩, h => exact plain _ h
     | none, h => exact plain _ h
   | slice a len cap =>
     match a, h with
     | some ⟨j, o, some z⟩, h =>
       have q : cnd (Nat.beq z 7 && (Nat.beq o 0 && (Nat.beq len 0 && Nat.beq cap CAPU))) (match (generalizing := false) v with
        | .slice (some ⟨j', _, sp'⟩) len' cap' => isNth bs j j' && (match (generalizing := false) sp' with
          | some _ => isGarr hp j' && Nat.beq cap' CAPU
          | none => grownLen hp j' len' && Nat.beq cap' CAPU)
        | _ => false) false = true := h
       clear h
       rw [zaa] at q
       split at q
       ·rename_i hz
        obtain ⟨z1, z2⟩ := zab hz
        obtain ⟨z2, z3⟩ := zab z2
        obtain ⟨z3, z4⟩ := zab z3
        have z1 := zae z1
        have z2 := zae z2
        have z3 := zae z3
        have z4 := zae z4
        subst z1 z2 z3 z4
        split at q
        ·rename_i j' o' sp' len' cap'
         obtain ⟨h1, h2⟩ := zab q
         have h1 := isNth_get h1
         obtain ⟨g1, g2⟩ := nth_β (e := e) (τ := τ) (D := D) (hp := hp) h1
         have g3 := nth_tot (e := e) (τ := τ) (D := D) (hp := hp) h1
         split at h2
         ·rename_i z'
          obtain ⟨h2, h3⟩ := zab h2
          have h3 := zae h3
          subst h3
          unfold isGarr at h2
          split at h2
          ·rename_i hg
           rw [hg] at g3
           have g3 : (reEnv e τ bs D hp).tot j = e.tot j' := g3
           cases hv with
           | plain _ h => simp [zaq] at h
           | sliceG _ hj =>
             rw [← g1, ← g3]
             exact .sliceG j g2
          ·cases h2
         ·obtain ⟨kg, h3⟩ := zab h2
          clear h2
          have h3 := zae h3
          subst h3
          unfold grownLen at kg
          split at kg
          ·rename_i l t g hg
           rw [zaa] at kg
           split at kg
           ·rename_i hgt
            subst hgt
            obtain ⟨k2, k4⟩ := zab kg
            have k2 := zae k2
            have h4 := zar k4
            rw [hg] at g3
            have g3 : (reEnv e τ bs D hp).tot j = 9223372036854775808 * e.tot j' + l.length := g3
            obtain ⟨_, cap2, rfl, hcap⟩ := hv.slI
            rcases hcap with ⟨hc, _⟩ | ⟨_, ho, hc, _⟩ | ⟨hc, _⟩
            ·exact absurd hc (Nat.lt_irrefl _)
            ·subst ho hc
             have e1 : len' = (reEnv e τ bs D hp).tot j % 9223372036854775808 := by rw [g3]; omega
             have e2 : e.tot j' = (reEnv e τ bs D hp).tot j / 9223372036854775808 := by rw [g3]; omega
             rw [e2, e1, ← g1]
             exact .sliceG j g2
            ·exact absurd hc (by decide)
           ·cases kg
          ·cases kg
        ·cases q
       ·cases q
     | some ⟨j, o, none⟩, h =>
       have h : (match (generalizing := false) v with
        | .slice (some ⟨j', o', none⟩) len' cap' => isNth bs j j' && (Nat.beq o o' && (Nat.beq len len' && (Nat.beq cap cap' && (Nat.blt cap CAPU || (Nat.beq cap CAPV)))))
        | _ => false) = true := h
       split at h
       ·rename_i j' o' len' cap'
        obtain ⟨h1, h2⟩ := zab h
        obtain ⟨h2, h3⟩ := zab h2
        obtain ⟨h3, h4⟩ := zab h3
        obtain ⟨h4, h5⟩ := zab h4
        have h2 := zae h2
        have h3 := zae h3
        have h4 := zae h4
        subst h2 h3 h4
        obtain ⟨g1, g2⟩ := nth_β (e := e) (τ := τ) (D := D) (hp := hp) (isNth_get h1)
        obtain ⟨_, cap2, rfl, hcap⟩ := hv.slI
        simp only [Bool.or_eq_true] at h5
        rcases hcap with ⟨hc, rfl⟩ | ⟨hc, _⟩ | ⟨hc, hl⟩
        ·rw [← g1]; exact .slice _ _ _ _ g2 hc
        ·exfalso
         rcases h5 with h5 | h5
         ·have := blt_lt h5; omega
         ·have := zae h5; rw [hc] at this; exact absurd this (by decide)
        ·rw [hc, ← g1]; exact .sliceV _ _ _ _ g2 hl
       ·cases h
     | none, h => exact plain _ h
   | map r =>
     match r, h with
     | some j, h =>
       have h : (match (generalizing := false) v with
        | .map (some j') => isNth bs j j'
        | _ => false) = true := h
       split at h
       ·rename_i j'
        obtain ⟨rfl, _⟩ := hv.mapI
        obtain ⟨g1, g2⟩ := nth_β (e := e) (τ := τ) (D := D) (hp := hp) (isNth_get h)
        rw [← g1]
        exact .map _ g2
       ·cases h
     | none, h => exact plain _ h
   | iface t u =>
     have h : (match (generalizing := false) v with
      | .iface t' u' => Nat.beq t t' && mtV τ bs hp d u u'
      | _ => false) = true := h
     split at h
     ·rename_i t' u'
      obtain ⟨h1, h2⟩ := zab h
      obtain ⟨u2, rfl, h3⟩ := hv.ifaceI
      rw [zae h1]
      exact .iface _ _ _ (ih _ _ _ h2 h3)
     ·cases h
   | agg a =>
     have h : (match (generalizing := false) v with
      | .agg a' => mtL (mtV τ bs hp d) a.toList a'.toList
      | _ => false) = true := h
     split at h
     ·obtain ⟨a2, rfl, h3⟩ := hv.aggI
      exact .agg _ _ (mtL_ok ih h h3)
     ·cases h
   | tuple a =>
     have h : (match (generalizing := false) v with
      | .tuple a' => mtL (mtV τ bs hp d) a.toList a'.toList
      | _ => false) = true := h
     split at h
     ·obtain ⟨a2, rfl, h3⟩ := hv.tupleI
      exact .tuple _ _ (mtL_ok ih h h3)
     ·cases h
   | _ => exact plain _ h
theorem mtM_ok : ∀ {l r r' : List MapEntry}, mtM τ bs hp l r = true → RM e n r r' → RM (reEnv e τ bs D hp) bs.length l r'
 | [], [], _, _, .nil => .nil
 | ⟨k, v, b⟩ :: l, ⟨k', v', b'⟩ :: r, _, h, .cons _ x' _ r' hk hv hb hr => by
   unfold mtM at h
   rw [zaa] at h
   split at h
   ·rename_i h1
    obtain ⟨h1, h2⟩ := zab h1
    obtain ⟨h2, h3⟩ := zab h2
    exact .cons _ _ _ _ (mtV_ok 50 _ _ _ h1 hk) (mtV_ok 50 _ _ _ h2 hv) (by rw [← hb]; exact zae h3) (mtM_ok h hr)
   ·cases h
 | [], _ :: _, _, h, _ => by simp [mtM] at h
 | ⟨_, _, _⟩ :: _, [], _, h, _ => by simp [mtM] at h
theorem srtA_agg (l : List Value) : srtA 13 (.agg ⟨l⟩) = true := rfl
theorem leaf_one : ∀ {l l' : List Value}, allB (fun x => (zas x).isSome) l = true → RL e n l l' → l'.all one = true
 | [], [], _, .nil => rfl
 | v :: l, v' :: l', h, .cons _ _ _ _ hv hl => by
   unfold allB at h
   rw [zaa] at h
   split at h
   ·rename_i hs
    obtain ⟨s, hs⟩ := Option.isSome_iff_exists.1 hs
    rw [List.all_cons, srt_one (hv.leaf hs).2, leaf_one h hl]; rfl
   ·cases h
theorem mtO_ok {P : Program} (hP : Small P) {i b : Nat} (hib : bs[i]? = some b) {p o : AObj} {o' : Obj} (h : mtO P τ bs hp p o = true) (ho : hp.get b = o) (hr : RO P e n b o o') : RO P (reEnv e τ bs D hp) bs.length i p o' := by
 have htot := nth_tot (e := e) (τ := τ) (D := D) (hp := hp) hib
 unfold mtO at h
 split at h
 ·rename_i l t g
  split at h
  ·rename_i l' t' g'
   simp only [zaa] at h
   cases g with
   | true => cases h
   | false =>
     cases g' with
     | true => cases h
     | false =>
       simp only [Bool.false_eq_true, if_false] at h
       obtain ⟨h1, h2⟩ := zab h
       rw [zae h1]
       cases hr with
       | cells _ l2 _ hl => exact .cells _ _ _ (mtL_ok (mtV_ok 50) h2 hl)
  ·cases h
 ·rename_i op nm a c t
  obtain ⟨h1, hq⟩ := zab h
  obtain ⟨hq2, h3⟩ := zab hq
  have e13 : op % 16 = 13 := zae hq2
  clear hq hq2 h
  split at h3
  ·rename_i v t'
   obtain ⟨h3, h4⟩ := zab h3
   rw [zae h3]
   cases hr with
   | garr _ l x _ hd hl hs hc hone hzl =>
     rw [ho] at htot
     have htot : (reEnv e τ bs D hp).tot i = e.tot b := htot
     exact .garr _ l x _ (var_den h1 h4 hd (by rw [e13]; exact srtA_agg l)) (by rw [htot]; exact hl) (by rw [htot]; exact hs) hc hone hzl
  ·rename_i l t' g
   rw [zaa] at h3
   split at h3
   ·rename_i hg
    subst hg
    obtain ⟨h3, h4⟩ := zab h3
    obtain ⟨h4, h5⟩ := zab h4
    obtain ⟨h5, h6⟩ := zab h5
    obtain ⟨h6, h7⟩ := zab h6
    obtain ⟨h7, h8⟩ := zab h7
    have h3 := zae h3
    subst h3
    have h6 := zae h6
    have h8 := zar h8
    obtain ⟨ti, hti⟩ := Option.isSome_iff_exists.1 h7
    have hce : cellsOf P t = 1 := by
     rw [← h6, cellsT_of hP hti]; rfl
    cases hr with
    | grown _ l' x _ hl hs =>
      rw [ho] at htot
      have htot : (reEnv e τ bs D hp).tot i = 9223372036854775808 * e.tot b + l.length := htot
      have hden : den e.m (.agg ⟨l⟩) = some (.agg ⟨l'⟩) := by rw [den, denA, leaf_den (hasS_isSome h5) hl]
      have hll := hl.length
      rw [hce, Nat.mul_one] at hs
      exact .garr _ l' x _ (var_den h1 h4 hden (by rw [e13]; exact srtA_agg l')) (by rw [htot, ← hll]; omega) (by rw [htot, hs]; omega) hce (leaf_one (hasS_isSome h5) hl) (hasS_srt h5 hl)
   ·cases h3
  ·cases h3
 ·rename_i es c
  split at h
  ·rename_i es' c'
   obtain ⟨h1, h2⟩ := zab h
   rw [zae h1]
   cases hr with
   | map _ l' _ hl => exact .map _ _ _ (mtM_ok h2 hl)
  ·cases h
 ·cases h
end
end Go.Gz
