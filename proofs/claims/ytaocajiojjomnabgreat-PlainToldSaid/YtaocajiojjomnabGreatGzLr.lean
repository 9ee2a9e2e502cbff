/- The evaluator that the kernel runs: loops: from head to head. -/
import Derived.Test.YtaocajiojjomnabGreatGzLq
namespace Go.Gz
open Go Go.Gx Go.RowKit
def cellsX (v : Value) : List Value :=
 match v with
 | .agg a => a.toList
 | .tuple a => a.toList
 | _ => []
def deadD (t : Array Value) (c : Nat) : Value :=
 let v0 := t.getD (c / 65536) undef
 let v1 := if c / 256 % 256 = 0 then v0 else (cellsX v0).getD (c / 256 % 256 - 1) undef
 if c % 256 = 0 then v1 else (cellsX v1).getD (c % 256 - 1) undef
theorem srt12 {v : Value} (h : one v = true) : srt 12 v = true := by
 cases v with
 | int k n => cases k <;> rfl
 | pointer a => cases a <;> rfl
 | agg a => cases h
 | tuple a => cases h
 | _ => rfl
section
variable {e : Env} {n : Nat} {e2 : Env} {n2 : Nat} {m : Mu} {τ : List Value} {D : Nat → Value} (hm : e2.m = subM m τ D) (hτ : τ.length ≤ 1000000)
include hm hτ
theorem dLeaf_rv {c : Nat} {v' : Value} (h : one v' = true) (hD : D c = v') : RV e2 n2 (dLeaf c) v' := by
 subst hD
 exact rv_cell (by decide) (by omega) (by
  rw [hm]
  have e1 : opc (1048576 + c) 12 / 16 = 1048576 + c := by show (16 * (1048576 + c) + 12) / 16 = _; omega
  show subI m τ D (opc (1048576 + c) 12) [] = D c
  unfold subI
  rw [e1, if_pos (by omega), List.getElem?_eq_none (by omega), if_pos (by omega), show 1048576 + c - 1048576 = c by omega]) (srt12 h)
theorem dpl2_rl : ∀ (l l' : List Value) (c : Nat), shallow2 l = true → RL e n l l' → (∀ k v', l'[k]? = some v' → D (c + k) = v') → RL e2 n2 (dpl2 c l) l'
 | [], [], c, _, .nil, _ => .nil
 | v :: l, v' :: l', c, hs, .cons _ _ _ _ hv hl, hD => by
   unfold shallow2 at hs
   rw [zaa] at hs
   split at hs
   ·rename_i h1
    refine .cons _ _ _ _ (dLeaf_rv hm hτ (by rw [← hv.one]; exact h1) (hD 0 v' rfl)) (dpl2_rl l l' (c + 1) hs hl fun k u hk => ?_)
    rw [show c + 1 + k = c + (k + 1) by omega]; exact hD (k + 1) u (by simpa using hk)
   ·cases hs
theorem dp1_rv {c : Nat} {v v' : Value} (hs : small1 v = true) (hv : RV e n v v') (hD0 : D (c * 256) = v') (hD : ∀ k u, k < 255 → (cellsX v')[k]? = some u → D (c * 256 + (k + 1)) = u) : RV e2 n2 (dp1 c v) v' := by
 have leaf : one v = true → RV e2 n2 (dLeaf (c * 256)) v' := fun h => dLeaf_rv hm hτ (by rw [← hv.one]; exact h) hD0
 unfold dp1
 split
 ·rename_i a
  obtain ⟨a', rfl, hr⟩ := hv.aggI
  unfold small1 at hs
  obtain ⟨h1, h2⟩ := zab hs
  have h1 := zar h1
  have hl := hr.length
  refine .agg _ _ (dpl2_rl hm hτ a.toList a'.toList _ h2 hr fun k u hk => ?_)
  have hk2 : k < 255 := by
   have := (List.getElem?_eq_some_iff.1 hk).1
   simp at hl this; omega
  have := hD k u hk2 hk
  rw [show Nat.succ (Nat.mul c 256) + k = c * 256 + (k + 1) by show c * 256 + 1 + k = _; omega]
  exact this
 ·rename_i a
  obtain ⟨a', rfl, hr⟩ := hv.tupleI
  unfold small1 at hs
  obtain ⟨h1, h2⟩ := zab hs
  have h1 := zar h1
  have hl := hr.length
  refine .tuple _ _ (dpl2_rl hm hτ a.toList a'.toList _ h2 hr fun k u hk => ?_)
  have hk2 : k < 255 := by
   have := (List.getElem?_eq_some_iff.1 hk).1
   simp at hl this; omega
  have := hD k u hk2 hk
  rw [show Nat.succ (Nat.mul c 256) + k = c * 256 + (k + 1) by show c * 256 + 1 + k = _; omega]
  exact this
 ·rename_i h1 h2
  refine leaf ?_
  cases v <;> first | rfl | exact absurd rfl (h1 _) | exact absurd rfl (h2 _)
theorem dpl1_rl : ∀ (l l' : List Value) (c : Nat), allB small1 l = true → RL e n l l' → (∀ k v', l'[k]? = some v' → D ((c + k) * 256) = v' ∧ ∀ q u, q < 255 → (cellsX v')[q]? = some u → D ((c + k) * 256 + (q + 1)) = u) → RL e2 n2 (dpl1 c l) l'
 | [], [], c, _, .nil, _ => .nil
 | v :: l, v' :: l', c, hs, .cons _ _ _ _ hv hl, hD => by
   unfold allB at hs
   rw [zaa] at hs
   split at hs
   ·rename_i h1
    obtain ⟨g1, g2⟩ := hD 0 v' rfl
    refine .cons _ _ _ _ (dp1_rv hm hτ h1 hv g1 g2) (dpl1_rl l l' (c + 1) hs hl fun k u hk => ?_)
    rw [show c + 1 + k = c + (k + 1) by omega]; exact hD (k + 1) u (by simpa using hk)
   ·cases hs
end
theorem dp0_rv {e : Env} {n : Nat} {e2 : Env} {n2 : Nat} {m : Mu} {τ : List Value} {t : Array Value} (hm : e2.m = subM m τ (deadD t)) (hτ : τ.length ≤ 1000000) {i : Nat} {v : Value} (hs : small0 v = true) (hv : RV e n v (t.getD i undef)) : RV e2 n2 (dp0 i v) (t.getD i undef) := by
 generalize hv' : t.getD i undef = v' at hv
 have d1 : ∀ k u, k < 255 → (cellsX v')[k]? = some u → ∀ q w, q < 255 → (cellsX u)[q]? = some w → deadD t ((i * 256 + (k + 1)) * 256 + (q + 1)) = w := by
  intro k u hk hu q w hq hw
  unfold deadD
  have e1 : ((i * 256 + (k + 1)) * 256 + (q + 1)) / 65536 = i := by omega
  have e2 : ((i * 256 + (k + 1)) * 256 + (q + 1)) / 256 % 256 = k + 1 := by omega
  have e3 : ((i * 256 + (k + 1)) * 256 + (q + 1)) % 256 = q + 1 := by omega
  simp only [e1, e2, e3, hv', if_neg (Nat.succ_ne_zero _), Nat.add_sub_cancel]
  rw [List.getD_eq_getElem?_getD (l := cellsX v'), hu]
  simp [List.getD_eq_getElem?_getD, hw]
 have d2 : ∀ k u, k < 255 → (cellsX v')[k]? = some u → deadD t ((i * 256 + (k + 1)) * 256) = u := by
  intro k u hk hu
  unfold deadD
  have e1 : ((i * 256 + (k + 1)) * 256) / 65536 = i := by omega
  have e2 : ((i * 256 + (k + 1)) * 256) / 256 % 256 = k + 1 := by omega
  have e3 : ((i * 256 + (k + 1)) * 256) % 256 = 0 := by omega
  simp only [e1, e2, e3, hv', if_neg (Nat.succ_ne_zero _), if_true, Nat.add_sub_cancel]
  rw [List.getD_eq_getElem?_getD, hu]; rfl
 have d0 : deadD t (i * 256 * 256) = v' := by
  unfold deadD
  have e1 : (i * 256 * 256) / 65536 = i := by omega
  have e2 : (i * 256 * 256) / 256 % 256 = 0 := by omega
  have e3 : (i * 256 * 256) % 256 = 0 := by omega
  simp only [e1, e2, e3, hv', if_true]
 have leaf : one v = true → RV e2 n2 (dLeaf (i * 256 * 256)) v' := fun h => dLeaf_rv hm hτ (by rw [← hv.one]; exact h) d0
 have list : ∀ (a a' : List Value), RL e n a a' → a.length ≤ 255 → allB small1 a = true → cellsX v' = a' → RL e2 n2 (dpl1 (Nat.succ (Nat.mul i 256)) a) a' := by
  intro a a' hr h1 h2 hc
  refine dpl1_rl hm hτ a a' _ h2 hr fun k u hk => ?_
  have hl := hr.length
  have hk2 : k < 255 := by
   have := (List.getElem?_eq_some_iff.1 hk).1
   omega
  have e1 : Nat.succ (Nat.mul i 256) + k = i * 256 + (k + 1) := by show i * 256 + 1 + k = _; omega
  rw [e1]
  rw [← hc] at hk
  exact ⟨d2 k u hk2 hk, fun q w hq hw => d1 k u hk2 hk q w hq hw⟩
 unfold dp0
 split
 ·rename_i a
  obtain ⟨a', rfl, hr⟩ := hv.aggI
  unfold small0 at hs
  obtain ⟨h1, h2⟩ := zab hs
  exact .agg _ _ (list _ _ hr (by simpa using zar h1) h2 rfl)
 ·rename_i a
  obtain ⟨a', rfl, hr⟩ := hv.tupleI
  unfold small0 at hs
  obtain ⟨h1, h2⟩ := zab hs
  exact .tuple _ _ (list _ _ hr (by simpa using zar h1) h2 rfl)
 ·rename_i h1 h2
  refine leaf ?_
  cases v <;> first | rfl | exact absurd rfl (h1 _) | exact absurd rfl (h2 _)
theorem tm_ofList : ∀ (l : List Value) (t : Tm) (k i : Nat), k + l.length ≤ 512 → i < 512 → slot (Tm.ofList t k l) i = if k ≤ i ∧ i < k + l.length then (l[i - k]?).getD undef else slot t i
 | [], t, k, i, _, _ => by
   rw [Tm.ofList, if_neg]
   simp only [List.length_nil]; omega
 | v :: l, t, k, i, hk, hi => by
   simp only [List.length_cons] at hk ⊢
   rw [Tm.ofList, tm_ofList l _ (k + 1) i (by omega) hi]
   by_cases h1 : k + 1 ≤ i ∧ i < k + 1 + l.length
   ·rw [if_pos h1, if_pos (by omega), show i - k = (i - (k + 1)) + 1 by omega, List.getElem?_cons_succ]
   ·rw [if_neg h1]
    by_cases h2 : i = k
    ·subst h2
     rw [slot_set_same _ _ hi, if_pos (by omega)]; simp
    ·rw [slot_set_ne _ _ _ (by omega) hi (Ne.symm h2), if_neg (by omega)]
theorem hp_ofList : ∀ (l : List AObj) (t : Hp) (k i : Nat), k + l.length ≤ 32768 → i < 32768 → (mkS.hpOf t k l).get i = if k ≤ i ∧ i < k + l.length then (l[i - k]?).getD .dead else t.get i
 | [], t, k, i, _, _ => by
   rw [mkS.hpOf, if_neg]
   simp only [List.length_nil]; omega
 | v :: l, t, k, i, hk, hi => by
   simp only [List.length_cons] at hk ⊢
   rw [mkS.hpOf, hp_ofList l _ (k + 1) i (by omega) hi]
   by_cases h1 : k + 1 ≤ i ∧ i < k + 1 + l.length
   ·rw [if_pos h1, if_pos (by omega), show i - k = (i - (k + 1)) + 1 by omega, List.getElem?_cons_succ]
   ·rw [if_neg h1]
    by_cases h2 : i = k
    ·subst h2
     rw [zat _ _ hi, if_pos (by omega)]; simp
    ·rw [hp_set_ne _ _ _ (by omega) hi (Ne.symm h2), if_neg (by omega)]
theorem mtS_at {live : List Nat} {τ : List Value} {bs : List Nat} {tm : Tm} {hp : Hp} : ∀ {i : Nat} {l : List Value}, mtS live τ bs tm hp i l = true → ∀ {k : Nat} {p : Value}, l[k]? = some p →
  (mtV τ bs hp 50 p (slot tm (i + k)) = true ∨ (small0 (slot tm (i + k)) = true ∧ p = dp0 (i + k) (slot tm (i + k))))
 | i, [], _, k, p, hk => by simp at hk
 | i, q :: l, h, k, p, hk => by
   unfold mtS at h
   rw [zaa] at h
   split at h
   ·rename_i h1
    cases k with
    | zero =>
      simp at hk; subst hk
      rw [zaa] at h1
      split at h1
      ·exact .inl h1
      ·obtain ⟨g1, g2⟩ := zab h1
       exact .inr ⟨g1, veq_eq _ _ _ g2⟩
    | succ k =>
      have := mtS_at h (k := k) (p := p) (by simpa using hk)
      rw [show i + (k + 1) = Nat.succ i + k by omega]; exact this
   ·cases h
theorem mtOs_at {P : Program} {τ : List Value} {bs : List Nat} {hp : Hp} : ∀ {l : List AObj} {r : List Nat}, mtOs P τ bs hp l r = true → l.length = r.length ∧ ∀ {k : Nat} {p : AObj}, l[k]? = some p → ∃ b, r[k]? = some b ∧ mtO P τ bs hp p (hp.get b) = true
 | [], [], _ => ⟨rfl, fun hk => by simp at hk⟩
 | q :: l, b :: r, h => by
   unfold mtOs at h
   rw [zaa] at h
   split at h
   ·rename_i h1
    obtain ⟨g1, g2⟩ := mtOs_at h
    refine ⟨by simp [g1], fun {k p} hk => ?_⟩
    cases k with
    | zero => simp at hk; subst hk; exact ⟨b, rfl, h1⟩
    | succ k => obtain ⟨b', g3, g4⟩ := g2 (k := k) (p := p) (by simpa using hk); exact ⟨b', by simpa using g3, g4⟩
   ·cases h
 | [], _ :: _, h => by simp [mtOs] at h
 | _ :: _, [], h => by simp [mtOs] at h
theorem hasN_mem : ∀ {l : List Nat} {i : Nat}, i ∈ l → hasN i l = true
 | [], i, h => by simp at h
 | j :: l, i, h => by
   unfold hasN
   rw [zaa]
   split
   ·rfl
   ·rename_i hn
    rcases List.mem_cons.1 h with rfl | h
    ·exact absurd (Nat.beq_refl _) hn
    ·exact hasN_mem h
theorem nodupN_nodup : ∀ {l : List Nat}, nodupN l = true → l.Nodup
 | [], _ => List.nodup_nil
 | j :: l, h => by
   unfold nodupN at h
   rw [zaa] at h
   split at h
   ·cases h
   ·rename_i hn
    exact List.nodup_cons.2 ⟨fun hm => hn (hasN_mem hm), nodupN_nodup h⟩
theorem ltN_lt {n : Nat} : ∀ {l : List Nat}, ltN n l = true → ∀ j ∈ l, j < n
 | [], _, j, h => by simp at h
 | i :: l, h, j, hj => by
   unfold ltN at h
   rw [zaa] at h
   split at h
   ·rename_i h1
    rcases List.mem_cons.1 hj with rfl | hj
    ·exact blt_lt h1
    ·exact ltN_lt h j hj
   ·cases h
theorem todo_re {e e2 : Env} {n n2 nt : Nat} {k : List AI} {k' : List Item} (hr : RT e n nt k k') : todoOk k = true → RT e2 n2 nt k k' := by
 induction hr with
 | nil => intro _; exact .nil
 | code c k k' _ ih => intro h; exact .code c k k' (ih h)
 | blk c k k' _ ih => intro h; exact .blk c k k' (ih h)
 | lp c k k' _ ih => intro h; exact .lp c k k' (ih h)
 | sc c k k' _ ih => intro h; exact .sc c k k' (ih h)
 | _ => intro h; cases h
theorem head_inst {P : Program} (hP : Small P) {live : List Nat} {slots : List Value} {objs : List AObj} {τ : List Value} {bs : List Nat} {s : S} (h : chkH P live slots objs τ bs s = true) (hτ : τ.length ≤ 1000000)
  {B : Base} (hB : B.n = 0) {e : Env} {w : World} {fr : Frame} {cs' : List Frame} (hw : WR P B e s.n s.hp w) (hf : RF e s.n ⟨s.x, s.mode, s.todo, s.tm⟩ fr) (hcs : RFs e s.n s.cs cs') :
  ∃ D e2, e2.m = subM e.m τ D ∧ WR P B e2 (mkS s.x s.todo slots objs).n (mkS s.x s.todo slots objs).hp w ∧ RF e2 (mkS s.x s.todo slots objs).n ⟨s.x, .run, s.todo, (mkS s.x s.todo slots objs).tm⟩ fr ∧ cs' = [] ∧ s.cs = [] := by
 obtain ⟨x, mode, todo, tm, cs, n, hp⟩ := s
 unfold chkH at h
 simp only [Bool.and_eq_true] at h
 obtain ⟨hx, htd, hmd, hcse, hsl, h512, hbl, hnd, hlt, hms, hmo⟩ := h
 have hsl : slots.length = x.nt := zae hsl
 have h512 := zar h512
 have hbl := zar hbl
 have hnd := nodupN_nodup hnd
 have hlt := ltN_lt hlt
 obtain ⟨hol, hoa⟩ := mtOs_at hmo
 have hcs0 : cs = [] := by simpa using hcse
 subst hcs0
 cases hcs
 have hmode : mode = .run := by
  cases mode <;> first | rfl | cases hmd
 subst hmode
 obtain ⟨f, t, td, ds, md, kd, r⟩ := fr
 obtain ⟨g1, g2, g3, g4, g5, g6, g7⟩ := hf
 simp only at g1 g2 g3 g4 g5 g6 g7
 cases g5
 obtain ⟨fn, nt, dfs, kind, rnd⟩ := x
 have hx2 : dfs = [] ∧ rnd = none := by
  unfold xOk at hx
  simp only at hx
  split at hx
  ·exact ⟨rfl, rfl⟩
  ·cases hx
 obtain ⟨rfl, rfl⟩ := hx2
 cases g4
 rcases g7 with ⟨_, hr⟩ | ⟨l, hl, _⟩
 rotate_left
 ·cases hl
 simp only at hw hsl g1 g2 g6 hlt hms hmo hoa htd
 let e2 := reEnv e τ bs (deadD t) hp
 have hm2 : e2.m = subM e.m τ (deadD t) := rfl
 have hn2 : (mkS ⟨fn, nt, [], kind, none⟩ todo slots objs).n = bs.length := hol
 have hnm := hw.nmax
 have hget : ∀ i, i < bs.length → ∃ p b, objs[i]? = some p ∧ bs[i]? = some b ∧ (mkS ⟨fn, nt, [], kind, none⟩ todo slots objs).hp.get i = p ∧ mtO P τ bs hp p (hp.get b) = true := by
  intro i hi
  have hio : i < objs.length := by omega
  have hp1 := List.getElem?_eq_getElem hio
  obtain ⟨b, hb, hm⟩ := hoa hp1
  refine ⟨_, b, hp1, hb, ?_, hm⟩
  show (mkS.hpOf .none 0 objs).get i = _
  rw [hp_ofList _ _ _ _ (by omega) (by omega), if_pos (by omega), Nat.sub_zero, hp1]; rfl
 have hkb : (mkS ⟨fn, nt, [], kind, none⟩ todo slots objs).hp.get 32767 = .dead := by
  show (mkS.hpOf .none 0 objs).get 32767 = _
  rw [hp_ofList _ _ _ _ (by omega) (by omega), if_neg (by omega)]
  exact hp_none_get _
 have hlive : ∀ (i b : Nat) (p : AObj), bs[i]? = some b → mtO P τ bs hp p (hp.get b) = true → hp.get b ≠ .dead := by
  intro i b p _ hm hd
  rw [hd] at hm
  unfold mtO at hm
  split at hm
  ·cases hm
  ·rename_i op nm a c t
   obtain ⟨_, hm⟩ := zab hm
   obtain ⟨_, hm⟩ := zab hm
   cases hm
  ·cases hm
  ·cases hm
 refine ⟨deadD t, e2, hm2, ?_, ?_, rfl, rfl⟩
 ·rw [hn2]
  refine ⟨hw.os, hw.tape, hw.output, hw.size, by omega, hbl, fun j hj => by omega, ?_, hw.old, ?_, ?_, ?_, ?_, hw.kp, ?_⟩
  ·intro j _ hj
   have hb := List.getElem?_eq_getElem hj
   obtain ⟨k1, _⟩ := nth_β (e := e) (τ := τ) (D := deadD t) (hp := hp) hb
   rw [show e2.β j = e.β bs[j] from k1]
   exact hw.where_ (hlt _ (List.mem_of_getElem? hb))
  ·intro j hj _
   obtain ⟨p, b, hp1, hb, hgp, hm⟩ := hget j hj
   have hbn := hlt b (List.mem_of_getElem? hb)
   obtain ⟨o', ho, hr⟩ := hw.obj b hbn (hlive j b p hb hm)
   obtain ⟨k1, _⟩ := nth_β (e := e) (τ := τ) (D := deadD t) (hp := hp) hb
   rw [hgp, show e2.β j = e.β b from k1]
   exact ⟨o', ho, mtO_ok hP hb hm rfl hr⟩
  ·intro i j hi hj _ _ he
   obtain ⟨p1, b1, _, hb1, _, hm1⟩ := hget i hi
   obtain ⟨p2, b2, _, hb2, _, hm2⟩ := hget j hj
   obtain ⟨k1, _⟩ := nth_β (e := e) (τ := τ) (D := deadD t) (hp := hp) hb1
   obtain ⟨k2, _⟩ := nth_β (e := e) (τ := τ) (D := deadD t) (hp := hp) hb2
   have he : e.β b1 = e.β b2 := by rw [← k1, ← k2]; exact he
   have := hw.inj b1 b2 (hlt b1 (List.mem_of_getElem? hb1)) (hlt b2 (List.mem_of_getElem? hb2)) (hlive i b1 p1 hb1 hm1) (hlive j b2 p2 hb2 hm2) he
   subst this
   exact (List.getElem?_inj hi hnd).1 (hb1.trans hb2.symm)
  ·intro hl j hj
   have hb := List.getElem?_eq_getElem hj
   obtain ⟨k1, _⟩ := nth_β (e := e) (τ := τ) (D := deadD t) (hp := hp) hb
   rw [show e2.β j = e.β bs[j] from k1]
   exact hw.lt' hl _ (hlt _ (List.mem_of_getElem? hb))
  ·intro c b hc
   unfold decH at hc
   split at hc
   ·cases hc; simp [den]
   ·rw [hkb] at hc; cases hc
  ·intro j hj _
   obtain ⟨p, b, _, hb, _, hm⟩ := hget j hj
   obtain ⟨k1, _⟩ := nth_β (e := e) (τ := τ) (D := deadD t) (hp := hp) hb
   rw [show e2.β j = e.β b from k1]
   exact hw.kn b (hlt b (List.mem_of_getElem? hb)) (hlive j b p hb hm)
 ·rw [hn2]
  refine ⟨g1, ⟨g2.size, g2.le, fun i hi => ?_⟩, todo_re g3 htd, .nil, .run, g6, .inl ⟨rfl, hr⟩⟩
  have hi : i < nt := hi
  have his : i < slots.length := by rw [hsl]; exact hi
  have hp1 := List.getElem?_eq_getElem his
  have hslot : slot (mkS ⟨fn, nt, [], kind, none⟩ todo slots objs).tm i = slots[i] := by
   show slot (Tm.ofList .none 0 slots) i = _
   rw [tm_ofList _ _ _ _ (by omega) (by omega), if_pos (by omega), Nat.sub_zero, hp1]; rfl
  show RV e2 bs.length (slot (mkS ⟨fn, nt, [], kind, none⟩ todo slots objs).tm i) _
  rw [hslot]
  have hrv := g2.rel i hi
  have := mtS_at hms hp1
  rw [Nat.zero_add] at this
  rcases this with h1 | ⟨h1, h2⟩
  ·exact mtV_ok 50 _ _ _ h1 hrv
  ·rw [h2]; exact dp0_rv hm2 hτ h1 hrv
end Go.Gz
