/- What is known of calls, for the evaluator over terms: contracts of plans, lists, words, as entries. -/
import Derived.Test.YtofkapncgmjcfaaGreatL10
import Derived.Test.YtofkapncgmjcfaaGreatGzEnt
namespace Go.Proofs.YtofkapncgmjcfaaGreat
open Go Go.Gz Go.RowKit

/-- What the terms of the law's first two arguments mean, and what contracts say of them. -/
structure Ctx (m : Mu) (T S t : Int) (L : List ByteArray) (p : Option Addr) (k c : Nat) : Prop where
  i0 : m.I (opc 64 3) [] = .int .i64 T
  i1 : m.I (opc 65 3) [] = .int .i64 S
  i2 : m.I (opc 66 11) [] = .slice p k c
  i3 : m.I (opc 192 3) [] = .int .i64 t
  w0 : wfK .i64 T = true
  w1 : wfK .i64 S = true
  w2 : k < 9223372036854775808
  w3 : wfK .i64 t = true
  shp : ∀ w, KOk m w → Shp w p k L
  few : m.I (opc 4096 8) [] = .bool (fewB L)
  right : m.I (opc 4097 8) [] = .bool (okPlan T S L)
  list : (1 ≤ T ∧ T ≤ 8 ∧ 0 ≤ t ∧ t < T) → m.I (opc 4098 3) [] = .int .i64 (3 + T + t)
  fit : ∀ x, m.I (opc 4099 8) [.int .u64 x] = .bool (fitB T S L x)
  addr : ∀ x, 0 ≤ x ∧ x ≤ 18446744073709551615 → m.I (opc 4100 3) [.int .u64 x] = .int .i64 (if kindW x = 2 then x / 8 else 0)
  isA : ∀ x, m.I (opc 4101 8) [.int .u64 x] = .bool (decide (kindW x = 2))
theorem Ctx.cls {m0 m : Mu} {T S t : Int} {L : List ByteArray} {p : Option Addr} {k c : Nat} (h : Ctx m0 T S t L p k c) (hm : Cls m0 m) : Ctx m T S t L p k c := by
  have e : ∀ op l, op / 16 < 8192 → m.I op l = m0.I op l := hm.2
  have hk : ∀ w, KOk m w → KOk m0 w := fun w h r o hr => h r o (by rw [hm.1]; exact hr)
  exact ⟨by rw [e _ _ (by decide)]; exact h.i0, by rw [e _ _ (by decide)]; exact h.i1, by rw [e _ _ (by decide)]; exact h.i2, by rw [e _ _ (by decide)]; exact h.i3, h.w0, h.w1, h.w2, h.w3, fun w hw => h.shp w (hk w hw),
    by rw [e _ _ (by decide)]; exact h.few, by rw [e _ _ (by decide)]; exact h.right, fun hh => by rw [e _ _ (by decide)]; exact h.list hh, fun x => by rw [e _ _ (by decide)]; exact h.fit x, fun x hx => by rw [e _ _ (by decide)]; exact h.addr x hx, fun x => by rw [e _ _ (by decide)]; exact h.isA x⟩

theorem rlc {e : Env} {n : Nat} {a : Value} {r l : List Value} (h : RL e n (a :: r) l) : ∃ a' l', l = a' :: l' ∧ RV e n a a' ∧ RL e n r l' := by
  cases h with
  | cons _ x _ l h1 hl => exact ⟨x, l, rfl, h1, hl⟩
theorem den_u1 {m : Mu} {c s : Nat} {w vx v : Value} (hs : s < 16) (hc : 64 ≤ c) (hw : den m w = some vx) (hI : m.I (opc c s) [vx] = v) (hv : srt s v = true) : den m (sy (opc c s) [w]) = some v := by
  have e1 : opc c s / 16 = c := by show (16 * c + s) / 16 = c; omega
  have e2 : opc c s % 16 = s := by show (16 * c + s) % 16 = s; omega
  unfold sy
  rw [den_1 (by have : opc c s = 16 * c + s := rfl; omega) hw]
  unfold itp
  rw [if_neg (by omega), e2, hI]
  have hf : fixS s v = v := by unfold fixS; exact if_pos (srt_srtA hv)
  simp only [hf]
  exact if_pos (srt_srtA hv)
section
variable {m : Mu} {T S t : Int} {L : List ByteArray} {p : Option Addr} {k c : Nat} (h : Ctx m T S t L p k c)
include h
theorem d0 : den m (sy (opc 64 3) []) = some (.int .i64 T) := den_cell (by decide) (by decide) h.i0 (srt_int (k := .i64) h.w0)
theorem d1 : den m (sy (opc 65 3) []) = some (.int .i64 S) := den_cell (by decide) (by decide) h.i1 (srt_int (k := .i64) h.w1)
theorem d2 : den m (sy (opc 66 11) []) = some (.slice p k c) := den_cell (by decide) (by decide) h.i2 (by show Nat.ble (k + 1) 9223372036854775808 = true; exact Nat.ble_eq_true_of_le h.w2)
theorem d3 : den m tThr = some (.int .i64 t) := den_cell (by decide) (by decide) h.i3 (srt_int (k := .i64) h.w3)
theorem dFew : den m tFew = some (.bool (fewB L)) := den_cell (by decide) (by decide) h.few rfl
theorem dRight : den m tRight = some (.bool (okPlan T S L)) := den_cell (by decide) (by decide) h.right rfl
theorem dList (hh : 1 ≤ T ∧ T ≤ 8 ∧ 0 ≤ t ∧ t < T) : den m tList = some (.int .i64 (3 + T + t)) :=
  den_cell (by decide) (by decide) (h.list hh) (srt_int (k := .i64) (by rw [wfK_iff]; simp only; omega))
theorem dNeg : den m tNeg = some (.bool (decide (t < 0))) := by
  unfold tNeg sy
  rw [den_2 (by decide) (d3 h) (by rw [den])]
  exact itp_cmp (.inl ⟨rfl, rfl⟩) rfl
theorem dMany : den m tMany = some (.bool (decide (t ≥ T))) := by
  show den m (.func (.methodOf (opc 15 8) "") ⟨[tThr, sy (opc 64 3) []]⟩ #[]) = _
  rw [den_2 (by decide) (d3 h) (d0 h)]
  exact itp_cmp (.inr (.inr ⟨rfl, rfl⟩)) rfl
theorem argP {e : Env} {n : Nat} {v : Value} (hem : e.m = m) (hv : RV e n tPlan v) : v = .agg #[.int .i64 T, .int .i64 S, .slice p k c] := by
  obtain ⟨a, rfl, hl⟩ := hv.aggI
  obtain ⟨al⟩ := a
  have hl : RL e n [sy (opc 64 3) [], sy (opc 65 3) [], sy (opc 66 11) []] al := hl
  obtain ⟨x, l1, rfl, h1, hl⟩ := rlc hl
  obtain ⟨y, l2, rfl, h2, hl⟩ := rlc hl
  obtain ⟨z, l3, rfl, h3, hl⟩ := rlc hl
  cases hl
  have e1 := h1.symI
  have e2 := h2.symI
  have e3 := h3.symI
  rw [hem] at e1 e2 e3
  have e1 : some (Value.int .i64 T) = some x := (d0 h).symm.trans e1
  have e2 : some (Value.int .i64 S) = some y := (d1 h).symm.trans e2
  have e3 : some (Value.slice p k c) = some z := (d2 h).symm.trans e3
  cases e1
  cases e2
  cases e3
  rfl
theorem argT {e : Env} {n : Nat} {v : Value} (hem : e.m = m) (hv : RV e n tThr v) : v = .int .i64 t := by
  have e1 := hv.symI
  rw [hem] at e1
  have e1 : some (Value.int .i64 t) = some v := (d3 h).symm.trans e1
  cases e1; rfl
end
theorem argW {e : Env} {n : Nat} {w v : Value} (hw : isWord w = true) (hv : RV e n w v) : ∃ x, v = .int .u64 x ∧ (0 ≤ x ∧ x ≤ 18446744073709551615) ∧ den e.m w = some (.int .u64 x) := by
  unfold isWord at hw
  split at hw
  · rename_i s hs
    have e1 := beq_eq hw
    subst e1
    obtain ⟨g1, g2⟩ := hv.leaf hs
    obtain ⟨k, x, rfl, hk, hx⟩ := srt_num (by decide) g2
    have : k = .u64 := by cases k <;> first | rfl | cases hk
    subst this
    rw [wfK_iff] at hx
    simp only at hx
    exact ⟨x, rfl, by omega, g1⟩
  · cases hw
theorem known_den {m : Mu} {hp : Hp} (hd : ∀ c b, decH hp c = some b → den m c = some (.bool b)) {c : Value} {b : Bool} (hk : known hp c b = true) : den m c = some (.bool b) := by
  unfold known at hk
  split at hk
  · rename_i b' hb
    rw [cnd_ite] at hk
    have := hd _ _ hb
    cases b <;> cases b' <;> first | exact this | cases hk
  · cases hk
theorem rv_sy {e : Env} {n : Nat} {op : Nat} {l : List Value} {v : Value} (hd : den e.m (sy op l) = some v) (hs : srt (op % 16) v = true) : RV e n (sy op l) v := .sym _ _ _ _ _ hd hs
theorem askd_ans {m : Mu} {hp : Hp} (hd : ∀ c b, decH hp c = some b → den m c = some (.bool b)) {c v : Value} {y n : EntR} (hk : askd hp c y n = .ans v) : (den m c = some (.bool true) ∧ y = .ans v) ∨ (den m c = some (.bool false) ∧ n = .ans v) := by
  unfold askd at hk
  split at hk
  · rename_i b hb
    rw [cnd_ite] at hk
    have := hd _ _ hb
    cases b
    · right; exact ⟨this, by simpa using hk⟩
    · left; exact ⟨this, by simpa using hk⟩
  · cases hk
theorem rl1 {e : Env} {n : Nat} {a : Value} {l : List Value} (h : RL e n [a] l) : ∃ a', l = [a'] ∧ RV e n a a' := by
  cases h with
  | cons _ x _ l h1 hl => cases hl; exact ⟨x, rfl, h1⟩
theorem rl2 {e : Env} {n : Nat} {a b : Value} {l : List Value} (h : RL e n [a, b] l) : ∃ a' b', l = [a', b'] ∧ RV e n a a' ∧ RV e n b b' := by
  cases h with
  | cons _ x _ l h1 hl =>
    obtain ⟨b', rfl, h2⟩ := rl1 hl
    exact ⟨x, b', rfl, h1, h2⟩
theorem rv_two {e : Env} {n : Nat} {a b a' b' : Value} (h1 : RV e n a a') (h2 : RV e n b b') : RV e n (two a b) (.tuple #[a', b']) := .tuple _ _ (.cons _ _ _ _ h1 (.cons _ _ _ _ h2 .nil))
theorem rv_int (e : Env) (n : Nat) (k : IntKind) (a : Int) : RV e n (.int k a) (.int k a) := .plain _ rfl
theorem few_small {L : List ByteArray} (h : fewB L = true) : (∀ s ∈ L, s.size ≤ 1000) ∧ L.length ≤ 1000 := by
  unfold fewB at h
  rw [Bool.and_eq_true] at h
  refine ⟨fun s hs => ?_, by have := of_decide_eq_true h.1; omega⟩
  have := of_decide_eq_true (List.all_eq_true.1 h.2 s hs)
  omega
section
variable {m : Mu} {T S t : Int} {L : List ByteArray} {p : Option Addr} {k c : Nat} (h : Ctx m T S t L p k c)
include h
theorem eFew : EntOk Tryz.prog m ⟨6, rFew⟩ := by
  refine ⟨by kernel_rfl, fun args hp v hd hv e n w args' hem hk ha => ?_⟩
  have hv : rFew args hp = .ans v := hv
  unfold rFew at hv
  split at hv
  · rename_i a
    rw [cnd_ite] at hv
    split at hv
    · rename_i hq
      have := veq_eq _ _ _ hq
      subst this
      cases hv
      obtain ⟨_, rfl, h1⟩ := rl1 ha
      rw [argP h hem h1]
      exact ⟨_, rv_sy (by rw [hem]; exact dFew h) rfl, c_few T S L p k c w (h.shp w hk)⟩
    · cases hv
  · cases hv
theorem eRight : EntOk Tryz.prog m ⟨32, rRight⟩ := by
  refine ⟨by kernel_rfl, fun args hp v hd hv e n w args' hem hk ha => ?_⟩
  have hv : rRight args hp = .ans v := hv
  unfold rRight at hv
  split at hv
  · rename_i a
    rw [cnd_ite] at hv
    split at hv
    · rename_i hq
      obtain ⟨h1, h2⟩ := and_split hq
      have := veq_eq _ _ _ h1
      subst this
      cases hv
      have hf := (dFew h).symm.trans (known_den hd h2)
      have hf : fewB L = true := by cases hf' : fewB L <;> rw [hf'] at hf <;> first | rfl | cases hf
      obtain ⟨_, rfl, h1⟩ := rl1 ha
      rw [argP h hem h1]
      have hs := h.shp w hk
      exact ⟨_, rv_sy (by rw [hem]; exact dRight h) rfl, c_right6 T S L p k c w hs (few_small hf).1 (by rw [← hs.len]; exact (few_small hf).2)⟩
    · cases hv
  · cases hv
omit h in
theorem b_inj {x y : Bool} {v : Option Value} (h1 : v = some (.bool x)) (h2 : v = some (.bool y)) : x = y := by
  rw [h1] at h2; cases h2; rfl
theorem eList : EntOk Tryz.prog m ⟨69, rList⟩ := by
  refine ⟨by kernel_rfl, fun args hp v hd hv e n w args' hem hk ha => ?_⟩
  have hv : rList args hp = .ans v := hv
  unfold rList at hv
  split at hv
  · rename_i a b
    rw [cnd_ite] at hv
    split at hv
    · rename_i hq
      obtain ⟨h1, h2⟩ := and_split hq
      have := veq_eq _ _ _ h1
      subst this
      have := veq_eq _ _ _ h2
      subst this
      obtain ⟨_, _, rfl, g1, g2⟩ := rl2 ha
      rw [argP h hem g1, argT h hem g2]
      have hg := c_List T S t L p k c w (h.shp w hk)
      have zero := rv_int e n .i64 0
      rcases askd_ans hd hv with ⟨k1, hv⟩ | ⟨k1, hv⟩
      · have o1 := b_inj (dRight h) k1
        rcases askd_ans hd hv with ⟨k2, hv⟩ | ⟨k2, hv⟩
        · have o2 := of_decide_eq_true (b_inj (dNeg h) k2)
          cases hv
          have ho : ofE T S L t T = 4 := by rw [ofE, if_pos o1, if_neg (by omega)]
          rw [ho, if_neg (by decide)] at hg
          exact ⟨_, rv_two zero (rv_int e n .i64 4), hg⟩
        · have o2 := of_decide_eq_false (b_inj (dNeg h) k2)
          rcases askd_ans hd hv with ⟨k3, hv⟩ | ⟨k3, hv⟩
          · have o3 := of_decide_eq_true (b_inj (dMany h) k3)
            cases hv
            have ho : ofE T S L t T = 4 := by rw [ofE, if_pos o1, if_neg (by omega)]
            rw [ho, if_neg (by decide)] at hg
            exact ⟨_, rv_two zero (rv_int e n .i64 4), hg⟩
          · have o3 := of_decide_eq_false (b_inj (dMany h) k3)
            cases hv
            have ho : ofE T S L t T = 0 := by rw [ofE, if_pos o1, if_pos (by omega)]
            rw [ho, if_pos rfl] at hg
            have hb := okPlan_b o1
            exact ⟨_, rv_two (rv_sy (by rw [hem]; exact dList h (by omega)) (srt_int (k := .i64) (by rw [wfK_iff]; simp only; omega))) zero, hg⟩
      · have o1 := b_inj (dRight h) k1
        cases hv
        have ho : ofE T S L t T = 2 := by rw [ofE, if_neg (by rw [o1]; decide)]
        rw [ho, if_neg (by decide)] at hg
        exact ⟨_, rv_two zero (rv_int e n .i64 2), hg⟩
    · cases hv
  · cases hv
theorem eRList : EntOk Tryz.prog m ⟨35, rRList⟩ := by
  refine ⟨by kernel_rfl, fun args hp v hd hv e n w args' hem hk ha => ?_⟩
  have hv : rRList args hp = .ans v := hv
  unfold rRList at hv
  split at hv
  · rename_i a b
    rw [cnd_ite] at hv
    split at hv
    · rename_i hq
      obtain ⟨h1, h2⟩ := and_split hq
      obtain ⟨h2, h3⟩ := and_split h2
      obtain ⟨h3, h4⟩ := and_split h3
      obtain ⟨h4, h5⟩ := and_split h4
      have := veq_eq _ _ _ h1
      subst this
      have := veq_eq _ _ _ h2
      subst this
      cases hv
      obtain ⟨_, _, rfl, g1, g2⟩ := rl2 ha
      rw [argP h hem g1, argT h hem g2]
      have o1 := b_inj (dRight h) (known_den hd h3)
      have o2 := of_decide_eq_false (b_inj (dNeg h) (known_den hd h4))
      have o3 := of_decide_eq_false (b_inj (dMany h) (known_den hd h5))
      have hb := okPlan_b o1
      exact ⟨_, rv_sy (by rw [hem]; exact dList h (by omega)) (srt_int (k := .i64) (by rw [wfK_iff]; simp only; omega)), c_rlist T S t (by omega) (by omega) p k c w⟩
    · cases hv
  · cases hv
theorem eFit : EntOk Tryz.prog m ⟨28, rFit⟩ := by
  refine ⟨by kernel_rfl, fun args hp v hd hv e n w args' hem hk ha => ?_⟩
  have hv : rFit args hp = .ans v := hv
  unfold rFit at hv
  split at hv
  · rename_i a b
    rw [cnd_ite] at hv
    split at hv
    · rename_i hq
      obtain ⟨h1, h2⟩ := and_split hq
      have := veq_eq _ _ _ h1
      subst this
      cases hv
      obtain ⟨_, _, rfl, g1, g2⟩ := rl2 ha
      obtain ⟨x, rfl, hx, g3⟩ := argW h2 g2
      rw [argP h hem g1]
      rw [hem] at g3
      exact ⟨_, rv_sy (by rw [hem]; exact den_u1 (by decide) (by decide) g3 (h.fit x) rfl) rfl, c_Fit T S x hx L p k c w (h.shp w hk)⟩
    · cases hv
  · cases hv
theorem eRFit : EntOk Tryz.prog m ⟨47, rRFit⟩ := by
  refine ⟨by kernel_rfl, fun args hp v hd hv e n w args' hem hk ha => ?_⟩
  have hv : rRFit args hp = .ans v := hv
  unfold rRFit at hv
  split at hv
  · rename_i a b
    rw [cnd_ite] at hv
    split at hv
    · rename_i hq
      obtain ⟨h1, h2⟩ := and_split hq
      obtain ⟨h2, h3⟩ := and_split h2
      have := veq_eq _ _ _ h1
      subst this
      cases hv
      obtain ⟨_, _, rfl, g1, g2⟩ := rl2 ha
      obtain ⟨x, rfl, hx, g3⟩ := argW h2 g2
      rw [argP h hem g1]
      rw [hem] at g3
      have o1 := b_inj (dRight h) (known_den hd h3)
      exact ⟨_, rv_sy (by rw [hem]; exact den_u1 (by decide) (by decide) g3 (h.fit x) rfl) rfl, c_rfit T S x hx L o1 p k c w⟩
    · cases hv
  · cases hv
omit h in
theorem addr_wf {x : Int} (hx : 0 ≤ x ∧ x ≤ 18446744073709551615) : srt 3 (.int .i64 (if kindW x = 2 then x / 8 else 0)) = true := by
  refine srt_int (k := .i64) ?_
  rw [wfK_iff]
  simp only
  split <;> omega
theorem eAddr : EntOk Tryz.prog m ⟨103, rAddr⟩ := by
  refine ⟨by kernel_rfl, fun args hp v hd hv e n w args' hem hk ha => ?_⟩
  have hv : rAddr args hp = .ans v := hv
  unfold rAddr at hv
  split at hv
  · rename_i a
    rw [cnd_ite] at hv
    split at hv
    · rename_i hq
      cases hv
      obtain ⟨_, rfl, g2⟩ := rl1 ha
      obtain ⟨x, rfl, hx, g3⟩ := argW hq g2
      rw [hem] at g3
      exact ⟨_, rv_two (rv_sy (by rw [hem]; exact den_u1 (by decide) (by decide) g3 (h.addr x hx) (addr_wf hx)) (addr_wf hx)) (rv_sy (by rw [hem]; exact den_u1 (by decide) (by decide) g3 (h.isA x) rfl) rfl), c_Address x hx w⟩
    · cases hv
  · cases hv
end

/-- The second number that is handed in, as an address. -/
structure CtxA (m : Mu) (T S a : Int) (L : List ByteArray) : Prop where
  i4 : m.I (opc 320 3) [] = .int .i64 a
  w4 : wfK .i64 a = true
  ins : m.I (opc 4102 8) [] = .bool (insideB T S L a)
theorem CtxA.cls {m0 m : Mu} {T S a : Int} {L : List ByteArray} (h : CtxA m0 T S a L) (hm : Cls m0 m) : CtxA m T S a L :=
  ⟨by rw [hm.2 _ _ (by decide)]; exact h.i4, h.w4, by rw [hm.2 _ _ (by decide)]; exact h.ins⟩
section
variable {m : Mu} {T S t a : Int} {L : List ByteArray} {p : Option Addr} {k c : Nat} (h : Ctx m T S t L p k c) (g : CtxA m T S a L)
include g
theorem dAt : den m tAt = some (.int .i64 a) := den_cell (by decide) (by decide) g.i4 (srt_int (k := .i64) g.w4)
theorem dIn : den m tIn = some (.bool (insideB T S L a)) := den_cell (by decide) (by decide) g.ins rfl
theorem argA {e : Env} {n : Nat} {v : Value} (hem : e.m = m) (hv : RV e n tAt v) : v = .int .i64 a := by
  have e1 := hv.symI
  rw [hem] at e1
  have e1 : some (Value.int .i64 a) = some v := (dAt g).symm.trans e1
  cases e1; rfl
omit g in
theorem inside_b {T S a : Int} {L : List ByteArray} (hi : insideB T S L a = true) : 1 ≤ a ∧ a ≤ 16777215 := by
  unfold insideB at hi
  rw [Bool.and_eq_true] at hi
  have hb := okPlan_b hi.1
  have := of_decide_eq_true hi.2
  omega
theorem dPtr (hi : insideB T S L a = true) : den m tPtr = some (.int .u64 (a * 8)) := by
  have hb := inside_b hi
  have h1 : den m (sy (opc 20 7) [tAt]) = some (.int .u64 a) := by
    refine den_sy (by decide) (by decide) (l' := [.int .i64 a]) (by rw [denL, dAt g, denL]) ?_ (srt_int (k := .u64) (by rw [wfK_iff]; simp only; omega))
    have hw : wfK .u64 a = true := by rw [wfK_iff]; simp only; omega
    unfold wfK at hw
    show some (Value.int .u64 (IntKind.wrap .u64 a)) = _
    rw [of_decide_eq_true hw]
  have hw : wfK .u64 (a * 8) = true := by rw [wfK_iff]; simp only; omega
  refine den_sy (by decide) (by decide) (l' := [.int .u64 8, .int .u64 a]) (by rw [denL, den, denL, h1, denL]) ?_ (srt_int (k := .u64) hw)
  show leafBin .mul (.int .u64 8) (.int .u64 a) = _
  rw [leaf_int _ _ _ rfl]
  show some (Value.int .u64 (IntKind.wrap .u64 (8 * a))) = _
  unfold wfK at hw
  rw [Int.mul_comm, of_decide_eq_true hw]
include h
theorem eInside : EntOk Tryz.prog m ⟨30, rInside⟩ := by
  refine ⟨by kernel_rfl, fun args hp v hd hv e n w args' hem hk ha => ?_⟩
  have hv : rInside args hp = .ans v := hv
  unfold rInside at hv
  split at hv
  · rename_i x y
    rw [cnd_ite] at hv
    split at hv
    · rename_i hq
      obtain ⟨h1, h2⟩ := and_split hq
      have := veq_eq _ _ _ h1
      subst this
      have := veq_eq _ _ _ h2
      subst this
      cases hv
      obtain ⟨_, _, rfl, g1, g2⟩ := rl2 ha
      rw [argP h hem g1, argA g hem g2]
      exact ⟨_, rv_sy (by rw [hem]; exact dIn g) rfl, c_inside T S a L p k c w (h.shp w hk)⟩
    · cases hv
  · cases hv
theorem eRInside : EntOk Tryz.prog m ⟨33, rRInside⟩ := by
  refine ⟨by kernel_rfl, fun args hp v hd hv e n w args' hem hk ha => ?_⟩
  have hv : rRInside args hp = .ans v := hv
  unfold rRInside at hv
  split at hv
  · rename_i x y
    rw [cnd_ite] at hv
    split at hv
    · rename_i hq
      obtain ⟨h1, h2⟩ := and_split hq
      obtain ⟨h2, h3⟩ := and_split h2
      have := veq_eq _ _ _ h1
      subst this
      have := veq_eq _ _ _ h2
      subst this
      cases hv
      obtain ⟨_, _, rfl, g1, g2⟩ := rl2 ha
      rw [argP h hem g1, argA g hem g2]
      have o1 := b_inj (dRight h) (known_den hd h3)
      exact ⟨_, rv_sy (by rw [hem]; exact dIn g) rfl, c_rinside T S a L o1 p k c w⟩
    · cases hv
  · cases hv
omit h in
theorem ePointer : EntOk Tryz.prog m ⟨108, rPointer⟩ := by
  refine ⟨by kernel_rfl, fun args hp v hd hv e n w args' hem hk ha => ?_⟩
  have hv : rPointer args hp = .ans v := hv
  unfold rPointer at hv
  split at hv
  · rename_i x
    rw [cnd_ite] at hv
    split at hv
    · rename_i hq
      obtain ⟨h1, h2⟩ := and_split hq
      have := veq_eq _ _ _ h1
      subst this
      cases hv
      obtain ⟨_, rfl, g2⟩ := rl1 ha
      rw [argA g hem g2]
      have o1 := b_inj (dIn g) (known_den hd h2)
      have hb := inside_b o1
      exact ⟨_, rv_two (rv_sy (by rw [hem]; exact dPtr g o1) (srt_int (k := .u64) (by rw [wfK_iff]; simp only; omega))) (rv_int e n .i64 0), c_Pointer a hb w⟩
    · cases hv
  · cases hv
end
end Go.Proofs.YtofkapncgmjcfaaGreat
