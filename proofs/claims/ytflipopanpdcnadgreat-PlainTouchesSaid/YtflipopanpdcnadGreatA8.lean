/- Words of arenas where a thread's state is known: what is told is laid beside what is known; fields' places. -/
import Derived.Test.YtflipopanpdcnadGreatTr
import Derived.Test.YtflipopanpdcnadGreatA7
set_option linter.unusedSimpArgs false
set_option linter.unusedVariables false
namespace Go.Proofs.YtflipopanpdcnadGreat
open Go Go.Gz Go.RowKit
set_option maxRecDepth 100000
noncomputable def exF (d : Value → Option Bool) : List Value → Facts
 | [] => []
 | c :: l => match d c with
   | some b => (c, b) :: exF d l
   | none => exF d l
noncomputable def exM (cand : Facts → List Value) (d1 d2 : Facts → Value → Option Bool) (Γ : Facts) (c : Value) : Option Bool := d2 (exF (d1 Γ) (cand Γ) ++ Γ) c
theorem exF_ok {m : Mu} {d : Value → Option Bool} (hd : ∀ c b, d c = some b → den m c = some (.bool b)) : ∀ l, Holds m (exF d l)
 | [], c, b, h => by cases h
 | x :: l, c, b, h => by
   have ih := exF_ok hd l
   replace h : (c, b) ∈ (match d x with
    | some b => (x, b) :: exF d l
    | none => exF d l) := h
   split at h
   ·rename_i b0 hb
    rcases List.mem_cons.1 h with he | h
    ·cases he; exact hd _ _ hb
    ·exact ih c b h
   ·exact ih c b h
theorem exM_ok {m : Mu} {cand : Facts → List Value} {d1 d2 : Facts → Value → Option Bool} (h1 : MkOk m d1) (h2 : MkOk m d2) : MkOk m (exM cand d1 d2) := by
 intro Γ hΓ c b h
 refine h2 _ (fun c b hc => ?_) c b h
 rcases List.mem_append.1 hc with hc | hc
 ·exact exF_ok (h1 Γ hΓ) _ c b hc
 ·exact hΓ c b hc
noncomputable def inC (T S w : Value) (r : Bool) : List (Value × Value × Value) → List Cd
 | [] => []
 | x :: l => match x with
   | ⟨T', S', L⟩ => cnd (veq 100 T T' && veq 100 S S') (⟨[(w, 7), (T, 3), (S, 3)], (sy 65560 [T, S, L], true) :: (sy 65624 [w], true) :: fitC T S L w, r⟩ :: inC T S w r l) (inC T S w r l)
noncomputable def ruleA : Rul := fun Γ c =>
 match c with
 | .func (.methodOf 248 _) ⟨[.func (.methodOf 65603 _) ⟨[w]⟩ _, .func (.methodOf 19 _) ⟨[.func (.methodOf 19 _) ⟨[.int .i64 3, .func (.methodOf 51 _) ⟨[.int .i64 2, T]⟩ _]⟩ _, .func (.methodOf 51 _) ⟨[.int .i64 2, S]⟩ _]⟩ _]⟩ _ => inC T S w false (plansOf Γ)
 | .func (.methodOf 200 _) ⟨[.func (.methodOf 65603 _) ⟨[w]⟩ _, .func (.methodOf 19 _) ⟨[.func (.methodOf 19 _) ⟨[.int .i64 3, .func (.methodOf 51 _) ⟨[.int .i64 2, T]⟩ _]⟩ _, .func (.methodOf 51 _) ⟨[.int .i64 0, S]⟩ _]⟩ _]⟩ _ => inC T S w false (plansOf Γ)
 | _ => []
theorem inC_ok {m : Mu} (hm : Glob m) {T S w : Value} {r : Bool} {y : Cd} : ∀ {l : List (Value × Value × Value)}, y ∈ inC T S w r l → Typed m y.ts → Holds m y.G → y.b = r ∧
  ∃ t z x, den m T = some (.int .i64 t) ∧ den m S = some (.int .i64 z) ∧ (1 ≤ t ∧ t ≤ 8 ∧ 32 ≤ z ∧ z ≤ 4096) ∧ den m (sy 65603 [w]) = some (.int .i64 x) ∧ 3 + 2 * t ≤ x ∧ x < 3 + 2 * t + 2 * z ∧ (x - (3 + 2 * t)) % z < z - 1
 | [], h, _, _ => by cases h
 | (T', S', L) :: l, h, ht, hG => by
   have ih := @inC_ok m hm T S w r y l
   replace h : y ∈ cnd (veq 100 T T' && veq 100 S S') (⟨[(w, 7), (T, 3), (S, 3)], (sy 65560 [T, S, L], true) :: (sy 65624 [w], true) :: fitC T S L w, r⟩ :: inC T S w r l) (inC T S w r l) := h
   rw [zaa] at h
   split at h
   ·rcases List.mem_cons.1 h with rfl | h
    ·refine ⟨rfl, ?_⟩
     obtain ⟨kT, t, kS, z, p, k, c, g1, g2, g3, g4⟩ := plan_yes hm (hG _ _ List.mem_cons_self)
     have hb := okPlan_b g4
     obtain ⟨kT', t', kS', z', p', k', c', v, e1, e2, e3, e4, e5, e6⟩ := fitC_ok hm (ht _ List.mem_cons_self) (fun c b hc => hG c b (List.mem_cons_of_mem _ (List.mem_cons_of_mem _ hc)))
     rw [g1] at e1
     cases e1
     rw [g2] at e2
     cases e2
     rw [g3] at e3
     cases e3
     simp only at e4
     have f1 := hG (sy 65624 [w]) true (by simp)
     rw [show sy 65624 [w] = .func (.methodOf 65624 "") ⟨[w]⟩ #[] from rfl, isptr_den hm e4] at f1
     have hk : kindW v = 2 := by simpa using f1
     have hin : insideB t z (tl m.K p k) (v / 8) = true := by
      rcases fit_or e6 with h0 | h0
      ·rw [h0] at hk; simp [kindW, plainW] at hk
      ·exact h0.2
     unfold insideB at hin
     rw [Bool.and_eq_true] at hin
     have hin2 := of_decide_eq_true hin.2
     have ha := addr_den hm e4 e5
     rw [if_pos hk] at ha
     obtain ⟨vT, tT, sT⟩ := ht (T, 3) (by simp)
     obtain ⟨vS, tS, sS⟩ := ht (S, 3) (by simp)
     obtain ⟨t2, rfl, _⟩ := s_int (k := .i64) (zar (by decide) sT)
     obtain ⟨z2, rfl, _⟩ := s_int (k := .i64) (zar (by decide) sS)
     simp only at tT tS
     rw [g1] at tT
     rw [g2] at tS
     cases tT
     cases tS
     exact ⟨t, z, v / 8, g1, g2, hb, ha, hin2.1, hin2.2.1, hin2.2.2⟩
    ·exact ih h ht hG
   ·exact ih h ht hG
theorem mulK {m : Mu} {nm : String} {c : Array Value} {a b : Int} {x : Value} {k : IntKind} {v : Value} (hx : den m x = some (.int k b)) (h : den m (.func (.methodOf 51 nm) ⟨[.int .i64 a, x]⟩ c) = some v) : k = .i64 := by
 obtain ⟨u1, u2, f1, f2, f3⟩ := den_2I (by decide) h
 rw [den] at f1
 cases f1
 rw [hx] at f2
 cases f2
 have f3 : (match zah .mul (.int .i64 a) (.int k b) with | some v => if srtA 3 v = true then some v else none | none => none) = some v := f3
 unfold zah at f3
 simp only [isShift, Bool.false_eq_true, if_false] at f3
 split at f3
 ·rename_i hw
  split at hw
  ·rename_i hk; exact (kEq_eq hk).symm
  ·cases hw
 ·cases f3
noncomputable def hFor (T S X : Value) : Facts → List (Value × Value)
 | [] => []
 | x :: l => match x with
   | ⟨c, b⟩ => match c with
     | .func (.methodOf op _) ⟨[.func (.methodOf op2 _) ⟨[L, h]⟩ _, .func (.methodOf op3 _) ⟨[S', .func (.methodOf op4 _) ⟨[T', S2, X']⟩ _]⟩ _]⟩ _ => cnd (Nat.beq op 232 && (Nat.beq op2 65795 && (Nat.beq op3 35 && (Nat.beq op4 65779 && (!b && (veq 100 S S' && (veq 100 T T' && (veq 100 S S2 && veq 1000 X X')))))))) ((L, h) :: hFor T S X l) (hFor T S X l)
     | _ => hFor T S X l
noncomputable def fldC (T S X f : Value) (r : Bool) : List (Value × Value) → List Cd
 | [] => []
 | x :: l => match x with
   | ⟨L, h⟩ => ⟨[], [(sy 65560 [T, S, L], true), (sy 200 [X, baseT T S], false), (sy 248 [X, sizeT T S], false), (sy 232 [sy 65795 [L, h], sy 35 [S, sy 65779 [T, S, X]]], false), (sy 200 [f, .int .i64 0], false), (sy 248 [f, sy 691 [sy 649 [sy 714 [L, h, .int .i64 1]]]], false)], r⟩ :: fldC T S X f r l
noncomputable def fldN (X f : Value) (r : Bool) (Γ : Facts) : List (Value × Value × Value) → List Cd
 | [] => []
 | x :: l => match x with
   | ⟨T, S, _⟩ => fldC T S X f r (hFor T S X Γ) ++ fldN X f r Γ l
noncomputable def ruleA2 : Rul := fun Γ c =>
 match c with
 | .func (.methodOf op _) ⟨[.func (.methodOf 19 _) ⟨[.func (.methodOf 19 _) ⟨[X, .int .i64 2]⟩ _, f]⟩ _, y]⟩ _ => cnd (Nat.beq op 200 || Nat.beq op 248) (match y with
   | .int .i64 0 => cnd (Nat.beq op 200) (fldN X f false Γ (plansOf Γ)) []
   | .func (.methodOf 19 _) ⟨[.func (.methodOf 19 _) ⟨[.int .i64 3, .func (.methodOf 51 _) ⟨[.int .i64 2, T]⟩ _]⟩ _, .func (.methodOf 51 _) ⟨[.int .i64 2, S]⟩ _]⟩ _ => fldC T S X f (Nat.beq op 200) (hFor T S X Γ)
   | _ => []) []
 | _ => []
theorem elem_inv2 {m : Mu} {L i : Value} {l3 : List Value} {b o : Nat} (h1 : denL m [L, i, .int .i64 1] = some l3) (h2 : stdI m 44 10 l3 = some (.pointer (some ⟨b, o, none⟩))) :
  ∃ k c ii off kd, den m L = some (.slice (some ⟨b, off, none⟩) k c) ∧ ii < k ∧ o = off + ii ∧ den m i = some (.int kd ((ii : Nat) : Int)) := by
 obtain ⟨vL, e1, d1⟩ : ∃ v, l3[0]? = some v ∧ den m L = some v := by
  have hl := denL_size h1
  obtain ⟨t, q1, q2⟩ := denL_get h1 0 (l3[0]'(by rw [hl]; simp)) (List.getElem?_eq_getElem _)
  cases q1
  exact ⟨_, List.getElem?_eq_getElem _, q2⟩
 obtain ⟨vi, e2, d2⟩ : ∃ v, l3[1]? = some v ∧ den m i = some v := by
  have hl := denL_size h1
  obtain ⟨t, q1, q2⟩ := denL_get h1 1 (l3[1]'(by rw [hl]; simp)) (List.getElem?_eq_getElem _)
  cases q1
  exact ⟨_, List.getElem?_eq_getElem _, q2⟩
 have d3 : den m (.int .i64 1) = some (.int .i64 1) := by rw [den]
 simp only [denL, d1, d2, d3, Option.some.injEq] at h1
 subst h1
 have h2 : (match vL, vi, Value.int .i64 1 with
  | .slice (some ⟨b, off, none⟩) len _, .int _ i, .int _ e => if 0 ≤ i ∧ i < len ∧ 0 ≤ e then some (Value.pointer (some ⟨b, off + i.toNat * e.toNat, none⟩)) else none
  | _, _, _ => none) = some (.pointer (some ⟨b, o, none⟩)) := h2
 split at h2
 ·rename_i b0 off len cc k1 ii k2 e he _
  split at h2
  ·rename_i hc
   cases h2
   cases he
   exact ⟨len, cc, ii.toNat, off, k1, d1, by omega, by simp, by rw [d2]; congr 2; omega⟩
  ·cases h2
 ·cases h2
theorem shape_len {m : Mu} {L h : Value} {p : Option Addr} {k c : Nat} {kk : IntKind} {n : Int} (hL : den m L = some (.slice p k c)) (hok : okShapes (tl m.K p k) = true) (hd : den m (sy 691 [sy 649 [sy 714 [L, h, .int .i64 1]]]) = some (.int kk n)) :
  ∃ kd s, den m h = some (.int kd s) ∧ sizeL (tl m.K p k) s = 2 + n := by
 obtain ⟨vs, b0, a3⟩ := den_1Inv (by decide) (show den m (.func (.methodOf 691 "") ⟨[sy 649 [sy 714 [L, h, .int .i64 1]]]⟩ #[]) = some (.int kk n) from hd)
 obtain ⟨s, rfl, hn⟩ : ∃ s : ByteArray, vs = .string s ∧ n = s.size := by
  cases vs with
  | string s =>
    have a3 : (match some (Value.int .i64 s.size) with | some v => if srtA 3 v = true then some v else none | none => none) = some (.int kk n) := a3
    simp only at a3
    split at a3
    ·simp only [Option.some.injEq, Value.int.injEq] at a3
     exact ⟨s, rfl, a3.2.symm⟩
    ·cases a3
  | _ => cases a3
 obtain ⟨va, b1, b2⟩ := den_1Inv (by decide) (show den m (.func (.methodOf 649 "") ⟨[sy 714 [L, h, .int .i64 1]]⟩ #[]) = some (.string s) from b0)
 obtain ⟨blk, o, cs, ty, z, rfl, hK, hcs⟩ := load_inv2 b2
 obtain ⟨l3, c1, c2, _⟩ := den_sy_inv (c := 44) (s := 10) (by decide) (by decide) (show den m (sy 714 [L, h, .int .i64 1]) = _ from b1)
 obtain ⟨kq, cc, ii, off, kd, e1, e2, rfl, e3⟩ := elem_inv2 c1 c2
 rw [hL] at e1
 cases e1
 refine ⟨kd, ii, e3, ?_⟩
 have hne : (txt m.K (some ⟨blk, off, none⟩) k).isSome = true := by
  unfold tl at hok
  cases ht : txt m.K (some ⟨blk, off, none⟩) k with
  | some _ => rfl
  | none => rw [ht] at hok; have := okShapes_len hok; simp at this
 obtain ⟨L', hL'⟩ := Option.isSome_iff_exists.1 hne
 have hT : tl m.K (some ⟨blk, off, none⟩) k = L' := by unfold tl; rw [hL']; rfl
 rw [hT]
 obtain ⟨g1, g2⟩ := txt_get hL'
 rcases g2 with g2 | ⟨bb, off2, cs2, ty2, z2, f1, f2, f3⟩
 ·omega
 ·cases f1
  rw [f2] at hK
  cases hK
  have hii : ii < L'.length := by omega
  have h5 := f3 ii hii
  have hs : L'[ii] = s := by
   have h8 := h5.symm.trans hcs
   cases h8; rfl
  unfold sizeL
  rw [Int.toNat_natCast, List.getElem?_eq_getElem hii, hs, hn]
  rfl
theorem fld_den {m : Mu} (hm : Glob m) {T S X f L h : Value} (hG : Holds m [(sy 65560 [T, S, L], true), (sy 200 [X, baseT T S], false), (sy 248 [X, sizeT T S], false), (sy 232 [sy 65795 [L, h], sy 35 [S, sy 65779 [T, S, X]]], false), (sy 200 [f, .int .i64 0], false), (sy 248 [f, sy 691 [sy 649 [sy 714 [L, h, .int .i64 1]]]], false)]) :
  ∃ y n, den m (sy 19 [sy 19 [X, .int .i64 2], f]) = some (.int .i64 y) ∧ den m (sizeT T S) = some (.int .i64 n) ∧ 0 ≤ y ∧ y < n := by
 obtain ⟨kT, t, kS, z, p, k, c, g1, g2, g3, g4⟩ := plan_yes hm (hG _ _ List.mem_cons_self)
 have hb := okPlan_b g4
 obtain ⟨k1, x, n1, d1, d2, d3⟩ := lss_inv (hG (sy 200 [X, baseT T S]) false (by simp))
 obtain ⟨k2, x2, n2, e1, e2, e3⟩ := geq_inv (hG (sy 248 [X, sizeT T S]) false (by simp))
 obtain ⟨u1, u2, f1, f2, _⟩ := den_2I (by decide) d2
 obtain ⟨u3, u4, f3, f4, _⟩ := den_2I (by decide) f1
 have hkT := mulK g1 f4
 have hkS := mulK g2 f2
 subst hkT hkS
 obtain ⟨s1, s2⟩ := size_den g1 g2 ⟨by omega, by omega, by omega, by omega⟩
 rw [s2] at d2
 cases d2
 rw [s1] at e2
 cases e2
 rw [d1] at e1
 cases e1
 have z1 := of_decide_eq_false d3.symm
 have z2 := of_decide_eq_false e3.symm
 have z2 : ¬ x ≥ 3 + 2 * t + 2 * z := z2
 obtain ⟨k3, fv, n3, q1, q2, q3⟩ := lss_inv (hG (sy 200 [f, .int .i64 0]) false (by simp))
 rw [den] at q2
 cases q2
 have z3 := of_decide_eq_false q3.symm
 obtain ⟨k4, fv', n4, r1, r2, r3⟩ := geq_inv (hG (sy 248 [f, sy 691 [sy 649 [sy 714 [L, h, .int .i64 1]]]]) false (by simp))
 rw [q1] at r1
 cases r1
 have z4 := of_decide_eq_false r3.symm
 have z4 : ¬ fv ≥ n4 := z4
 have hokS : okShapes (tl m.K p k) = true := by
  simp only [okPlan, Bool.and_eq_true] at g4
  exact g4.2
 obtain ⟨kd, s, hh, hsz⟩ := shape_len g3 hokS r2
 have hszb := sizeL_b hokS s
 have hN : den m (sy 65795 [L, h]) = some (.int .i64 (sizeL (tl m.K p k) s)) := by
  rw [show sy 65795 [L, h] = .func (.methodOf 65795 "") ⟨[L, h]⟩ #[] from rfl, zat (by decide) g3 hh]
  exact code_val hm (by decide) (by decide) (i64S (by omega)) (by show Value.int .i64 _ = _; rw [if_pos hokS])
 have hM : den m (sy 65779 [T, S, X]) = some (.int .i64 (partAt t z x)) := by
  have hpb := part_b t z x
  rw [show sy 65779 [T, S, X] = .func (.methodOf 65779 "") ⟨[T, S, X]⟩ #[] from rfl, den_3 (by decide) g1 g2 d1]
  exact code_val hm (by decide) (by decide) (i64S (by omega)) rfl
 have hin : inA t z x = true := by
  unfold inA
  exact decide_eq_true ⟨by omega, by omega, by omega, by omega, by omega, by omega⟩
 have hpa : partAt t z x = (x - (3 + 2 * t)) % z := by unfold partAt; rw [if_pos hin]
 have m1 := Int.emod_nonneg (x - (3 + 2 * t)) (b := z) (by omega)
 have m2 := Int.emod_lt_of_pos (x - (3 + 2 * t)) (b := z) (by omega)
 have b1 : den m (sy 35 [S, sy 65779 [T, S, X]]) = some (.int .i64 (z - partAt t z x)) := arith_den (c := #[]) (nm := "") (o := .sub) rfl (.inr (.inl rfl)) g2 hM (by simp [zao]) (by omega) (by omega)
 have w1 := hG (sy 232 [sy 65795 [L, h], sy 35 [S, sy 65779 [T, S, X]]]) false (by simp)
 rw [show sy 232 [sy 65795 [L, h], sy 35 [S, sy 65779 [T, S, X]]] = .func (.methodOf 232 "") ⟨[sy 65795 [L, h], sy 35 [S, sy 65779 [T, S, X]]]⟩ #[] from rfl, zat (by decide) hN b1, itp_cmp (o := .gtr) (.inr (.inl ⟨rfl, rfl⟩)) rfl] at w1
 have w1 : ¬ sizeL (tl m.K p k) s > z - partAt t z x := by simpa using w1
 have b2 : den m (sy 19 [X, .int .i64 2]) = some (.int .i64 (x + 2)) := arith_den (c := #[]) (nm := "") (o := .add) rfl (.inl rfl) d1 (by rw [den]) (by simp [zao]) (by omega) (by omega)
 have b3 : den m (sy 19 [sy 19 [X, .int .i64 2], f]) = some (.int .i64 (x + 2 + fv)) := arith_den (c := #[]) (nm := "") (o := .add) rfl (.inl rfl) b2 q1 (by simp [zao]) (by omega) (by omega)
 refine ⟨_, _, b3, s1, by omega, ?_⟩
 by_cases hc : x - (3 + 2 * t) < z
 ·rw [Int.emod_eq_of_lt (by omega) hc] at hpa
  omega
 ·have h5 : (x - (3 + 2 * t)) % z = x - (3 + 2 * t) - z := by
    rw [← Int.sub_emod_right, Int.emod_eq_of_lt (by omega) (by omega)]
  omega
theorem fldC_ok {m : Mu} (hm : Glob m) {T S X f : Value} {r : Bool} {y : Cd} : ∀ {l : List (Value × Value)}, y ∈ fldC T S X f r l → Holds m y.G → y.b = r ∧ ∃ v n, den m (sy 19 [sy 19 [X, .int .i64 2], f]) = some (.int .i64 v) ∧ den m (sizeT T S) = some (.int .i64 n) ∧ 0 ≤ v ∧ v < n
 | [], h, _ => by cases h
 | (L, h0) :: l, h, hG => by
   rcases List.mem_cons.1 h with rfl | h
   ·exact ⟨rfl, fld_den hm hG⟩
   ·exact fldC_ok hm (l := l) h hG
theorem fldN_ok {m : Mu} (hm : Glob m) {X f : Value} {r : Bool} {Γ : Facts} {y : Cd} : ∀ {l : List (Value × Value × Value)}, y ∈ fldN X f r Γ l → Holds m y.G → y.b = r ∧ ∃ v, den m (sy 19 [sy 19 [X, .int .i64 2], f]) = some (.int .i64 v) ∧ 0 ≤ v
 | [], h, _ => by cases h
 | (T, S, L) :: l, h, hG => by
   rcases List.mem_append.1 (show y ∈ fldC T S X f r (hFor T S X Γ) ++ fldN X f r Γ l from h) with h | h
   ·obtain ⟨h1, v, n, h2, _, h3, _⟩ := fldC_ok hm h hG
    exact ⟨h1, v, h2, h3⟩
   ·exact fldN_ok hm h hG
theorem ruleA2_ok {m : Mu} (hm : Glob m) : RulOk m ruleA2 := by
 intro Γ c y hy _ hG
 unfold ruleA2 at hy
 split at hy
 rotate_left
 ·cases hy
 rename_i op n0 n1 n2 X k2 f k1 yv k0
 rw [zaa] at hy
 split at hy
 rotate_left
 ·cases hy
 rename_i hop
 rw [Bool.or_eq_true] at hop
 have hY : ∀ {v : Value}, den m (sy 19 [sy 19 [X, .int .i64 2], f]) = some v → den m (.func (.methodOf 19 n1) ⟨[.func (.methodOf 19 n2) ⟨[X, .int .i64 2]⟩ k2, f]⟩ k1) = some v := fun h => by
  rw [← h]
  simp only [sy, den, denA, denL]
 split at hy
 ·rw [zaa] at hy
  split at hy
  ·rename_i ho
   have ho := zae ho
   subst ho
   obtain ⟨h1, v, h2, h3⟩ := fldN_ok hm hy hG
   rw [h1, zat (by decide) (hY h2) (show den m (.int .i64 0) = some (.int .i64 0) by rw [den]), itp_cmp (o := .lss) (.inl ⟨rfl, rfl⟩) rfl]
   simp; omega
  ·cases hy
 ·rename_i nm nm2 nm3 T k3 k4 nm4 S k5 k6
  obtain ⟨h1, v, n, h2, h3, h4, h5⟩ := fldC_ok hm hy hG
  have hS : den m (.func (.methodOf 19 nm) ⟨[.func (.methodOf 19 nm2) ⟨[.int .i64 3, .func (.methodOf 51 nm3) ⟨[.int .i64 2, T]⟩ k3]⟩ k4, .func (.methodOf 51 nm4) ⟨[.int .i64 2, S]⟩ k5]⟩ k6) = some (.int .i64 n) := by
   rw [← h3]
   simp only [sizeT, sy, den, denA, denL]
  rw [h1]
  rcases hop with ho | ho
  ·have ho := zae ho
   subst ho
   rw [zat (by decide) (hY h2) hS, itp_cmp (o := .lss) (.inl ⟨rfl, rfl⟩) rfl]
   simp; omega
  ·have ho := zae ho
   subst ho
   rw [zat (by decide) (hY h2) hS, itp_cmp (o := .geq) (.inr (.inr ⟨rfl, rfl⟩)) rfl]
   have : decide (v ≥ n) = false := decide_eq_false (by omega)
   rw [this]; rfl
 ·cases hy
theorem ruleA_ok {m : Mu} (hm : Glob m) : RulOk m ruleA := by
 intro Γ c y hy hty hG
 unfold ruleA at hy
 split at hy
 ·rename_i n0 n1 w k1 nm nm2 nm3 T k3 k4 nm4 S k5 k6 k0
  obtain ⟨h1, t, z, x, g1, g2, hb, hx, b1, b2, _⟩ := inC_ok hm hy hty hG
  obtain ⟨s1, s2⟩ := size_den g1 g2 hb
  rw [h1, zat (by decide) (show den m (.func (.methodOf 65603 n1) ⟨[w]⟩ k1) = some (.int .i64 x) by rw [den_anyname (nm2 := "") (c2 := #[])]; exact hx) (show den m (.func (.methodOf 19 nm) ⟨[.func (.methodOf 19 nm2) ⟨[.int .i64 3, .func (.methodOf 51 nm3) ⟨[.int .i64 2, T]⟩ k3]⟩ k4, .func (.methodOf 51 nm4) ⟨[.int .i64 2, S]⟩ k5]⟩ k6) = some (.int .i64 (3 + 2 * t + 2 * z)) by
   rw [← s1]
   simp only [sizeT, sy, den, denA, denL]), itp_cmp (o := .geq) (.inr (.inr ⟨rfl, rfl⟩)) rfl]
  have : decide (x ≥ 3 + 2 * t + 2 * z) = false := decide_eq_false (by omega)
  rw [this]
 ·rename_i n0 n1 w k1 nm nm2 nm3 T k3 k4 nm4 S k5 k6 k0
  obtain ⟨h1, t, z, x, g1, g2, hb, hx, b1, b2, _⟩ := inC_ok hm hy hty hG
  obtain ⟨s1, s2⟩ := size_den g1 g2 hb
  rw [h1, zat (by decide) (show den m (.func (.methodOf 65603 n1) ⟨[w]⟩ k1) = some (.int .i64 x) by rw [den_anyname (nm2 := "") (c2 := #[])]; exact hx) (show den m (.func (.methodOf 19 nm) ⟨[.func (.methodOf 19 nm2) ⟨[.int .i64 3, .func (.methodOf 51 nm3) ⟨[.int .i64 2, T]⟩ k3]⟩ k4, .func (.methodOf 51 nm4) ⟨[.int .i64 0, S]⟩ k5]⟩ k6) = some (.int .i64 (3 + 2 * t)) by
   rw [← s2]
   simp only [baseT, sy, den, denA, denL]), itp_cmp (o := .lss) (.inl ⟨rfl, rfl⟩) rfl]
  have : decide (x < 3 + 2 * t) = false := decide_eq_false (by omega)
  rw [this]
 ·cases hy
noncomputable def base0 : Facts → Value → Option Bool := orM (tellM tabT) anyM
theorem base0_ok {m : Mu} (h : GA m) : MkOk m base0 := orM_ok (tabT_tells h) (anyM_ok h.g.tx)
noncomputable def candP : List (Value × Value × Value) → List Value
 | [] => []
 | x :: l => match x with
   | ⟨T, S, L⟩ => sy 65560 [T, S, L] :: candP l
noncomputable def anyLT : Facts → Value → Option Bool := orM (linM rgS2) (orM (ruleM (dec1 base0) ruleA2) base0)
noncomputable def anyGT : Facts → Value → Option Bool := orM anyLT (ruleM (dec1 anyLT) (catR [rulesG, ruleV]))
theorem anyLT_ok {m : Mu} (h : GA m) : MkOk m anyLT := orM_ok (linM_ok (rgS2_ok h.g)) (orM_ok (ruleM_ok (dec1_ok (base0_ok h)) (ruleA2_ok h.g)) (base0_ok h))
theorem rulesGV_ok {m : Mu} (hm : Glob m) : RulOk m (catR [rulesG, ruleV]) := catR_ok fun r hr => by
 simp only [List.mem_cons, List.not_mem_nil, or_false] at hr
 rcases hr with rfl | rfl
 ·exact rulesG_ok hm
 ·exact ruleV_ok
theorem anyGT_ok {m : Mu} (h : GA m) : MkOk m anyGT := orM_ok (anyLT_ok h) (ruleM_ok (dec1_ok (anyLT_ok h)) (rulesGV_ok h.g))
noncomputable def rulesT : Rul := catR [rulesS]
theorem rulesT_ok {m : Mu} (hm : Glob m) : RulOk m rulesT := catR_ok fun r hr => by
 simp only [List.mem_cons, List.not_mem_nil, or_false] at hr
 rcases hr with rfl
 exact rulesS_ok hm
noncomputable def mkBT : Facts → Value → Option Bool := orM anyGT (ruleM (dec1 anyGT) rulesT)
theorem mkBT_ok {m : Mu} (h : GA m) : MkOk m mkBT := orM_ok (anyGT_ok h) (ruleM_ok (dec1_ok (anyGT_ok h)) (rulesT_ok h.g))
noncomputable def mkA : Facts → Value → Option Bool := orM anyGT (ruleM (dec1 anyGT) ruleA)
theorem mkA_ok {m : Mu} (h : GA m) : MkOk m mkA := orM_ok (anyGT_ok h) (ruleM_ok (dec1_ok (anyGT_ok h)) (ruleA_ok h.g))
noncomputable def candN : Facts → List Value
 | [] => []
 | x :: l => match x with
   | ⟨c, _⟩ => match c with
     | .func (.methodOf op _) ⟨[c]⟩ _ => cnd (Nat.beq op 296) (c :: candN l) (candN l)
     | _ => candN l
noncomputable def ptrs : Facts → List Value
 | [] => []
 | x :: l => match x with
   | ⟨c, b⟩ => match c with
     | .func (.methodOf op _) ⟨[w]⟩ _ => cnd (Nat.beq op 65624 && b) (w :: ptrs l) (ptrs l)
     | _ => ptrs l
noncomputable def candW (T S : Value) : List Value → List Value
 | [] => []
 | w :: l => sy 248 [sy 65603 [w], sizeT T S] :: sy 200 [sy 65603 [w], baseT T S] :: candW T S l
noncomputable def candA (Γ : Facts) : List (Value × Value × Value) → List Value
 | [] => []
 | x :: l => match x with
   | ⟨T, S, _⟩ => candW T S (ptrs Γ) ++ candA Γ l
noncomputable def onePl (l : List (Value × Value × Value)) : List (Value × Value × Value) :=
 match l with
 | [] => []
 | x :: _ => [x]
noncomputable def cand1 (Γ : Facts) : List Value := candA Γ (onePl (plansOf Γ))
noncomputable def cand0 (Γ : Facts) : List Value := candP (onePl (plansOf Γ))
noncomputable def mkPT : Facts → Value → Option Bool := exM candN (dec1 anyM) (dec1 (exM cand0 (dec1 base0) (dec1 (exM cand1 (dec1 mkA) (dec1 mkBT)))))
theorem mkPT_ok {m : Mu} (h : GA m) : MkOk m mkPT := exM_ok (dec1_ok (anyM_ok h.g.tx)) (dec1_ok (exM_ok (dec1_ok (base0_ok h)) (dec1_ok (exM_ok (dec1_ok (mkA_ok h)) (dec1_ok (mkBT_ok h))))))
end Go.Proofs.YtflipopanpdcnadGreat
