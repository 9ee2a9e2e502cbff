/- What is known of headers, sizes, parts: entries; rules of words that are fit. -/
import Derived.Test.YteglommbdpaokaaGreatG1
import Derived.Test.YteglommbdpaokaaGreatGzRl
set_option linter.unusedSimpArgs false
set_option linter.unusedVariables false
namespace Go.Proofs.YteglommbdpaokaaGreat
open Go Go.Gz Go.RowKit
section
variable {m : Mu} (hm : Glob m)
include hm
theorem gHdr {x : Int} : itp m 65720 [.int .u64 x] = some (.bool (isHdr x)) ∧ itp m 65731 [.int .u64 x] = some (.int .i64 (hShape x)) ∧ itp m 65747 [.int .u64 x] = some (.int .i64 (hMark x)) := by
 have h1 := hShape_b x
 have h2 := hMark_b x
 exact ⟨code_val hm (by decide) (by decide) rfl rfl, code_val hm (by decide) (by decide) (i64S (by omega)) rfl, code_val hm (by decide) (by decide) (i64S (by omega)) rfl⟩
end
section
variable {m : Mu} (hm : Glob m)
include hm
theorem gIsF {k : Int} : itp m 65864 [.int .i64 k] = some (.bool (isF k)) ∧ itp m 65843 [.int .i64 k] = some (.int .i64 (fieldN k)) := by
 have h1 := fieldN_b k
 exact ⟨code_val hm (by decide) (by decide) rfl rfl, code_val hm (by decide) (by decide) (i64S (by omega)) rfl⟩
end
theorem part_b (T S a : Int) : (0 ≤ partNo T S a ∧ partNo T S a ≤ 1) ∧ 0 ≤ partAt T S a ∧ partAt T S a ≤ 4095 ∧ (a = baseOf T S a + partAt T S a) := by
 unfold partNo partAt baseOf
 split
 ·rename_i h
  have h := of_decide_eq_true h
  have h1 := Int.emod_nonneg (a - (3 + 2 * T)) (show S ≠ 0 by omega)
  have h2 := Int.emod_lt_of_pos (a - (3 + 2 * T)) (show 0 < S by omega)
  have h3 := Int.emod_add_mul_ediv (a - (3 + 2 * T)) S
  have h4 : 0 ≤ (a - (3 + 2 * T)) / S := Int.ediv_nonneg (by omega) (by omega)
  have h5 : (a - (3 + 2 * T)) / S < 2 := Int.ediv_lt_of_lt_mul (by omega) (by omega)
  have h6 : S * ((a - (3 + 2 * T)) / S) = (a - (3 + 2 * T)) / S * S := Int.mul_comm _ _
  omega
 ·omega
theorem base_b {T S a : Int} (h : -9223372036854775808 ≤ a ∧ a < 9223372036854775808) : -9223372036854775808 ≤ baseOf T S a ∧ baseOf T S a < 9223372036854775808 := by
 unfold baseOf
 split
 ·rename_i h2
  have h2 := of_decide_eq_true h2
  have h4 : 0 ≤ (a - (3 + 2 * T)) / S := Int.ediv_nonneg (by omega) (by omega)
  have h5 : (a - (3 + 2 * T)) / S < 2 := Int.ediv_lt_of_lt_mul (by omega) (by omega)
  have : (a - (3 + 2 * T)) / S = 0 ∨ (a - (3 + 2 * T)) / S = 1 := by omega
  rcases this with h | h <;> rw [h] <;> omega
 ·exact h
section
variable {m : Mu} (hm : Glob m)
include hm
theorem gPartV {T S a : Int} : itp m 65763 [.int .i64 T, .int .i64 S, .int .i64 a] = some (.int .i64 (partNo T S a)) ∧ itp m 65779 [.int .i64 T, .int .i64 S, .int .i64 a] = some (.int .i64 (partAt T S a)) := by
 have := part_b T S a
 exact ⟨code_val hm (by decide) (by decide) (i64S (by omega)) rfl, code_val hm (by decide) (by decide) (i64S (by omega)) rfl⟩
end
theorem gi_fit {K : Nat → Option Obj} {vs : List Value} (h : GI K 65592 vs = .bool true) : ∃ kT T kS S p k c kx x, vs = [.int kT T, .int kS S, .slice p k c, .int kx x] ∧ fitB T S (tl K p k) x = true := by
 unfold GI at h
 split at h <;> first
  | (rename_i he; cases he; done)
  | cases h
  | (rename_i he _; cases he; done)
  | skip
 exact ⟨_, _, _, _, _, _, _, _, _, rfl, Value.bool.inj h⟩
theorem gi_plan {K : Nat → Option Obj} {vs : List Value} (h : GI K 65560 vs = .bool true) : ∃ kT T kS S p k c, vs = [.int kT T, .int kS S, .slice p k c] ∧ okPlan T S (tl K p k) = true := by
 unfold GI at h
 split at h <;> first
  | (rename_i he; cases he; done)
  | cases h
  | (rename_i he _; cases he; done)
  | skip
 exact ⟨_, _, _, _, _, _, _, rfl, Value.bool.inj h⟩
noncomputable def planOf1 (op : Nat) (a : Array Value) (r : List (Value × Value × Value)) : List (Value × Value × Value) := cnd (Nat.beq op 65560 || (Nat.beq op 96024 || Nat.beq op 96008)) (match a.toList with
 | T :: S :: L :: _ => ⟨T, S, L⟩ :: r
 | _ => r) r
noncomputable def plansOf : Facts → List (Value × Value × Value)
 | [] => []
 | x :: l => match x with
   | ⟨e, b⟩ => match e with
     | .func (.methodOf op _) a _ => cnd b (planOf1 op a (plansOf l)) (cnd (Nat.beq op 296) (match a.toList with
       | [.func (.methodOf op2 _) a2 _] => planOf1 op2 a2 (plansOf l)
       | _ => plansOf l) (plansOf l))
     | _ => plansOf l
noncomputable def fitAll (T S L : Value) : List Value → Facts
 | [] => []
 | r :: l => (sy 65592 [T, S, L, r], true) :: fitAll T S L l
noncomputable def fitC (T S L x : Value) : Facts :=
 match x with
 | .func (.methodOf 791 _) ⟨[.agg ⟨l⟩, _]⟩ _ => fitAll T S L l
 | x => [(sy 65592 [T, S, L, x], true)]
theorem fitAll_mem {T S L t : Value} {b : Bool} : ∀ {l : List Value}, t ∈ l → (sy 65592 [T, S, L, t], true) ∈ fitAll T S L l
 | r :: l, h => by
   rcases List.mem_cons.1 h with rfl | h
   ·exact List.mem_cons_self
   ·exact List.mem_cons_of_mem _ (fitAll_mem (b := b) h)
section
variable {m : Mu} (hm : Glob m)
include hm
theorem fit_yes {T S L x : Value} (h : den m (sy 65592 [T, S, L, x]) = some (.bool true)) : ∃ kT t kS s p k c kx v, den m T = some (.int kT t) ∧ den m S = some (.int kS s) ∧ den m L = some (.slice p k c) ∧ den m x = some (.int kx v) ∧ fitB t s (tl m.K p k) v = true := by
 obtain ⟨vs, h1, h2⟩ := code_yes (by decide) (by decide) (by decide) h
 rw [hm _ _ (by decide) (by decide)] at h2
 obtain ⟨kT, t, kS, s, p, k, c, kx, v, rfl, h3⟩ := gi_fit h2
 refine ⟨kT, t, kS, s, p, k, c, kx, v, ?_⟩
 obtain ⟨_, e1, g1⟩ := denL_get h1 0 _ rfl
 obtain ⟨_, e2, g2⟩ := denL_get h1 1 _ rfl
 obtain ⟨_, e3, g3⟩ := denL_get h1 2 _ rfl
 obtain ⟨_, e4, g4⟩ := denL_get h1 3 _ rfl
 cases e1; cases e2; cases e3; cases e4
 exact ⟨g1, g2, g3, g4, h3⟩
theorem plan_yes {T S L : Value} (h : den m (sy 65560 [T, S, L]) = some (.bool true)) : ∃ kT t kS s p k c, den m T = some (.int kT t) ∧ den m S = some (.int kS s) ∧ den m L = some (.slice p k c) ∧ okPlan t s (tl m.K p k) = true := by
 obtain ⟨vs, h1, h2⟩ := code_yes (by decide) (by decide) (by decide) h
 rw [hm _ _ (by decide) (by decide)] at h2
 obtain ⟨kT, t, kS, s, p, k, c, rfl, h3⟩ := gi_plan h2
 refine ⟨kT, t, kS, s, p, k, c, ?_⟩
 obtain ⟨_, e1, g1⟩ := denL_get h1 0 _ rfl
 obtain ⟨_, e2, g2⟩ := denL_get h1 1 _ rfl
 obtain ⟨_, e3, g3⟩ := denL_get h1 2 _ rfl
 cases e1; cases e2; cases e3
 exact ⟨g1, g2, g3, h3⟩
theorem fitC_ok {T S L x : Value} (ht : ∃ v, den m x = some v ∧ srtA 7 v = true) (h : Holds m (fitC T S L x)) : ∃ kT t kS s p k c v, den m T = some (.int kT t) ∧ den m S = some (.int kS s) ∧ den m L = some (.slice p k c) ∧ den m x = some (.int .u64 v) ∧ (0 ≤ v ∧ v ≤ 18446744073709551615) ∧ fitB t s (tl m.K p k) v = true := by
 obtain ⟨xv, hx, hs⟩ := ht
 obtain ⟨v, rfl, hw⟩ := s_int (k := .u64) (zat (s := 7) (by decide) hs)
 rw [wfK_iff] at hw
 have hb : 0 ≤ v ∧ v ≤ 18446744073709551615 := by simp only at hw; omega
 have key : ∃ t, den m t = some (.int .u64 v) ∧ (sy 65592 [T, S, L, t], true) ∈ fitC T S L x := by
  unfold fitC
  split
  ·rename_i nm l i k
   obtain ⟨t, h1, h2⟩ := sel_inv hx
   exact ⟨t, h2, fitAll_mem (b := true) h1⟩
  ·exact ⟨x, hx, List.mem_cons_self⟩
 obtain ⟨t, h1, h2⟩ := key
 obtain ⟨kT, tv, kS, s, p, k, c, kx, v2, g1, g2, g3, g4, g5⟩ := fit_yes hm (h _ _ h2)
 rw [h1] at g4
 cases g4
 exact ⟨kT, tv, kS, s, p, k, c, v, g1, g2, g3, hx, hb, g5⟩
omit hm in
theorem fit_or {t s : Int} {L : List ByteArray} {v : Int} (h : fitB t s L v = true) : v = 0 ∨ kindW v = 2 ∧ insideB t s L (v / 8) = true := by
 unfold fitB at h
 rw [Bool.and_eq_true, Bool.or_eq_true] at h
 rcases h.2 with h2 | h2
 ·exact .inl (of_decide_eq_true h2)
 ·rw [Bool.and_eq_true, Bool.and_eq_true] at h2
  exact .inr ⟨of_decide_eq_true h2.1.1, h2.2⟩
theorem isptr_den {x : Value} {v : Int} {nm : String} {k : Array Value} (h : den m x = some (.int .u64 v)) : den m (.func (.methodOf 65624 nm) ⟨[x]⟩ k) = some (.bool (decide (kindW v = 2))) := by
 rw [den_1 (by decide) h, gIsV hm]
omit hm in
theorem zero_den {x : Value} {v : Int} {nm : String} {k : Array Value} (h : den m x = some (.int .u64 v)) : den m (.func (.methodOf 264 nm) ⟨[x, .int .u64 0]⟩ k) = some (.bool (v == 0)) := by
 rw [zau (by decide) h (show den m (.int .u64 0) = some (.int .u64 0) by rw [den])]; rfl
end
noncomputable def isPtrC (x : Value) : List (Value × Value × Value) → List Cd
 | [] => []
 | p :: l => ⟨[(x, 7)], (sy 264 [x, .int .u64 0], false) :: fitC p.1 p.2.1 p.2.2 x, true⟩ :: isPtrC x l
noncomputable def ruleP : Rul := fun Γ c =>
 match c with
 | .func (.methodOf 65624 _) ⟨[x]⟩ _ => ⟨[(x, 7)], [(sy 264 [x, .int .u64 0], true)], false⟩ :: isPtrC x (plansOf Γ)
 | _ => []
noncomputable def zeroC (x : Value) : List (Value × Value × Value) → List Cd
 | [] => []
 | p :: l => ⟨[(x, 7)], (sy 65624 [x], false) :: fitC p.1 p.2.1 p.2.2 x, true⟩ :: zeroC x l
noncomputable def ruleZ : Rul := fun Γ c =>
 match c with
 | .func (.methodOf 264 _) ⟨[x, .int .u64 0]⟩ _ => ⟨[(x, 7)], [(sy 65624 [x], true)], false⟩ :: zeroC x (plansOf Γ)
 | _ => []
noncomputable def ruleI : Rul := fun _ c =>
 match c with
 | .func (.methodOf 65640 _) ⟨[T, S, L, .func (.methodOf 65603 _) ⟨[x]⟩ _]⟩ _ => [⟨[(x, 7)], (sy 65624 [x], true) :: fitC T S L x, true⟩]
 | _ => []
noncomputable def ruleF : Rul := fun _ c =>
 match c with
 | .func (.methodOf 65592 _) ⟨[T, S, L, .func (.methodOf 791 nm) ⟨[.agg ⟨l⟩, i]⟩ k]⟩ _ => [⟨[(.func (.methodOf 791 nm) ⟨[.agg ⟨l⟩, i]⟩ k, 7)], fitAll T S L l, true⟩]
 | _ => []
noncomputable def shpC (L : Value) : List (Value × Value × Value) → List Cd
 | [] => []
 | p :: l => cnd (veq 1000 L p.2.2) [⟨[], [(sy 65560 [p.1, p.2.1, L], true)], true⟩] (shpC L l)
noncomputable def ruleS : Rul := fun Γ c =>
 match c with
 | .func (.methodOf 80024 _) ⟨[L]⟩ _ => shpC L (plansOf Γ)
 | _ => []
noncomputable def ruleL : Rul := fun _ c =>
 match c with
 | .func (.methodOf 232 _) ⟨[.func (.methodOf 19 _) ⟨[.func (.methodOf 35 _) ⟨[a, .func (.methodOf 65811 _) ⟨[T, S, a']⟩ _]⟩ _, .func (.methodOf 65795 nm) na nk]⟩ _, S']⟩ _ =>
   cnd (veq 1000 a a' && veq 1000 S S') (let n := Value.func (.methodOf 65795 nm) na nk
    [⟨[(a, 3), (T, 3), (S, 3), (n, 3)], [(sy 232 [n, sy 35 [S, sy 65779 [T, S, a]]], true)], true⟩, ⟨[(a, 3), (T, 3), (S, 3), (n, 3)], [(sy 232 [n, sy 35 [S, sy 65779 [T, S, a]]], false)], false⟩]) []
 | _ => []
section
variable {m : Mu} (hm : Glob m)
include hm
theorem ruleP_ok : RulOk m ruleP := by
 intro Γ c y hy hty hG
 unfold ruleP at hy
 split at hy
 ·rename_i nm x k _
  rcases List.mem_cons.1 hy with rfl | hy
  ·obtain ⟨v, h1, h2⟩ := hty _ List.mem_cons_self
   obtain ⟨n, rfl, _⟩ := s_int (k := .u64) (zat (s := 7) (by decide) h2)
   have h3 := hG _ _ List.mem_cons_self
   unfold sy at h3
   rw [zero_den h1] at h3
   rw [isptr_den hm h1]
   have h3 : n = 0 := by simpa using h3
   subst h3
   rfl
  ·generalize plansOf Γ = l at hy
   induction l with
   | nil => simp [isPtrC] at hy
   | cons p l ih =>
     unfold isPtrC at hy
     rcases List.mem_cons.1 hy with rfl | hy
     ·obtain ⟨kT, t, kS, s, q, k2, c2, v, g1, g2, g3, g4, g5, g6⟩ := fitC_ok hm (hty _ List.mem_cons_self) (fun c b h => hG c b (List.mem_cons_of_mem _ h))
      have h3 := hG _ _ List.mem_cons_self
      unfold sy at h3
      rw [zero_den g4] at h3
      have h3 : v ≠ 0 := by simpa using h3
      rw [isptr_den hm g4]
      rcases fit_or g6 with h | h
      ·exact absurd h h3
      ·rw [decide_eq_true h.1]
     ·exact ih hy
 ·simp at hy
theorem ruleZ_ok : RulOk m ruleZ := by
 intro Γ c y hy hty hG
 unfold ruleZ at hy
 split at hy
 ·rename_i nm x k _
  rcases List.mem_cons.1 hy with rfl | hy
  ·obtain ⟨v, h1, h2⟩ := hty _ List.mem_cons_self
   obtain ⟨n, rfl, _⟩ := s_int (k := .u64) (zat (s := 7) (by decide) h2)
   have h3 := hG _ _ List.mem_cons_self
   unfold sy at h3
   rw [isptr_den hm h1] at h3
   rw [zero_den h1]
   have h3 : kindW n = 2 := by simpa using h3
   have : n ≠ 0 := by rintro rfl; revert h3; decide
   simp [this]
  ·generalize plansOf Γ = l at hy
   induction l with
   | nil => simp [zeroC] at hy
   | cons p l ih =>
     unfold zeroC at hy
     rcases List.mem_cons.1 hy with rfl | hy
     ·obtain ⟨kT, t, kS, s, q, k2, c2, v, g1, g2, g3, g4, g5, g6⟩ := fitC_ok hm (hty _ List.mem_cons_self) (fun c b h => hG c b (List.mem_cons_of_mem _ h))
      have h3 := hG _ _ List.mem_cons_self
      unfold sy at h3
      rw [isptr_den hm g4] at h3
      have h3 : ¬ kindW v = 2 := by simpa using h3
      rw [zero_den g4]
      rcases fit_or g6 with h | h
      ·simp [h]
      ·exact absurd h.1 h3
     ·exact ih hy
 ·simp at hy
theorem ruleI_ok : RulOk m ruleI := by
 intro Γ c y hy hty hG
 unfold ruleI at hy
 split at hy
 ·rename_i nm T S L nm2 x k2 k
  have hy := List.mem_singleton.1 hy
  subst hy
  obtain ⟨kT, t, kS, s, p, q, c2, v, g1, g2, g3, g4, g5, g6⟩ := fitC_ok hm (hty _ List.mem_cons_self) (fun c b h => hG c b (List.mem_cons_of_mem _ h))
  have h3 := hG _ _ List.mem_cons_self
  unfold sy at h3
  rw [isptr_den hm g4] at h3
  have h3 : kindW v = 2 := by simpa using h3
  rcases fit_or g6 with h | h
  ·exfalso; rw [h] at h3; revert h3; decide
  ·rw [den, denA]
   simp only [denL, g1, g2, g3]
   rw [den_1 (by decide) g4, gAddrV hm g5, if_pos h3]
   simp only
   rw [if_neg (by decide)]
   exact code_val hm (by decide) (by decide) rfl (by show Value.bool _ = _; rw [h.2])
 ·simp at hy
theorem ruleF_ok : RulOk m ruleF := by
 intro Γ c y hy hty hG
 unfold ruleF at hy
 split at hy
 ·rename_i nm0 T S L nm l i k k0
  have hy := List.mem_singleton.1 hy
  subst hy
  obtain ⟨kT, t, kS, s, p, q, c2, v, g1, g2, g3, g4, g5, g6⟩ := fitC_ok hm (T := T) (S := S) (L := L) (hty _ List.mem_cons_self) hG
  rw [den, denA]
  simp only [denL, g1, g2, g3, g4]
  rw [if_neg (by decide)]
  exact code_val hm (by decide) (by decide) rfl (by show Value.bool _ = _; rw [g6])
 ·simp at hy
theorem ruleS_ok : RulOk m ruleS := by
 intro Γ c y hy hty hG
 unfold ruleS at hy
 split at hy
 ·rename_i nm L k
  generalize plansOf Γ = l at hy
  induction l with
  | nil => simp [shpC] at hy
  | cons p l ih =>
    unfold shpC at hy
    rw [zaa] at hy
    split at hy
    ·have hy := List.mem_singleton.1 hy
     subst hy
     obtain ⟨kT, t, kS, s, q, k2, c2, g1, g2, g3, g4⟩ := plan_yes hm (hG _ _ List.mem_cons_self)
     rw [den_1 (by decide) g3]
     have hok : okShapes (tl m.K q k2) = true := by
      unfold okPlan at g4
      rw [Bool.and_eq_true] at g4
      exact g4.2
     exact code_val hm (by decide) (by decide) rfl (by show Value.bool _ = _; rw [hok])
    ·exact ih hy
 ·simp at hy
omit hm in
theorem itp_add (i j : Int) : itp m 19 [.int .i64 i, .int .i64 j] = some (.int .i64 (IntKind.i64.wrap (i + j))) := by
 show (match zag .add (.int .i64 i) (.int .i64 j) with | some v => if srtA 3 v = true then some v else none | none => none) = _
 rw [zap _ _ _ rfl]
 show (if srtA 3 (.int .i64 (IntKind.i64.wrap (i + j))) = true then _ else _) = _
 exact if_pos (zaq (zav (k := .i64) (wfK_wrap .i64 _)))
omit hm in
theorem itp_sub (i j : Int) : itp m 35 [.int .i64 i, .int .i64 j] = some (.int .i64 (IntKind.i64.wrap (i - j))) := by
 show (match zag .sub (.int .i64 i) (.int .i64 j) with | some v => if srtA 3 v = true then some v else none | none => none) = _
 rw [zap _ _ _ rfl]
 show (if srtA 3 (.int .i64 (IntKind.i64.wrap (i - j))) = true then _ else _) = _
 exact if_pos (zaq (zav (k := .i64) (wfK_wrap .i64 _)))
omit hm in
theorem itp_mul (i j : Int) : itp m 51 [.int .i64 i, .int .i64 j] = some (.int .i64 (IntKind.i64.wrap (i * j))) := by
 show (match zag .mul (.int .i64 i) (.int .i64 j) with | some v => if srtA 3 v = true then some v else none | none => none) = _
 rw [zap _ _ _ rfl]
 show (if srtA 3 (.int .i64 (IntKind.i64.wrap (i * j))) = true then _ else _) = _
 exact if_pos (zaq (zav (k := .i64) (wfK_wrap .i64 _)))
omit hm in
theorem itp_le (i j : Int) : itp m 216 [.int .i64 i, .int .i64 j] = some (.bool (decide (i ≤ j))) := by
 show (match zag .leq (.int .i64 i) (.int .i64 j) with | some v => if srtA 8 v = true then some v else none | none => none) = _
 rw [zap _ _ _ rfl]; rfl
theorem rgTab : RgOk m [⟨65731, 0, 15⟩, ⟨65747, 0, 2⟩, ⟨65763, 0, 1⟩, ⟨65779, 0, 4095⟩, ⟨65795, 0, 10⟩, ⟨65843, 0, 1⟩] := by
 intro x hx nm a k n h
 simp only [List.mem_cons, List.not_mem_nil, or_false] at hx
 rcases hx with rfl | rfl | rfl | rfl | rfl | rfl
 ·obtain ⟨vs, h | rfl⟩ := code_num (by decide) (by decide) (by decide) h
  ·rw [hm _ _ (by decide) (by decide)] at h
   unfold GI at h
   split at h <;> first
    | (rename_i he; cases he; done)
    | (rename_i he _; cases he; done)
    | (cases h; done)
    | skip
   cases h
   exact hShape_b _
  ·decide
 ·obtain ⟨vs, h | rfl⟩ := code_num (by decide) (by decide) (by decide) h
  ·rw [hm _ _ (by decide) (by decide)] at h
   unfold GI at h
   split at h <;> first
    | (rename_i he; cases he; done)
    | (rename_i he _; cases he; done)
    | (cases h; done)
    | skip
   cases h
   exact hMark_b _
  ·decide
 ·obtain ⟨vs, h | rfl⟩ := code_num (by decide) (by decide) (by decide) h
  ·rw [hm _ _ (by decide) (by decide)] at h
   unfold GI at h
   split at h <;> first
    | (rename_i he; cases he; done)
    | (rename_i he _; cases he; done)
    | (cases h; done)
    | skip
   cases h
   exact (part_b _ _ _).1
  ·decide
 ·obtain ⟨vs, h | rfl⟩ := code_num (by decide) (by decide) (by decide) h
  ·rw [hm _ _ (by decide) (by decide)] at h
   unfold GI at h
   split at h <;> first
    | (rename_i he; cases he; done)
    | (rename_i he _; cases he; done)
    | (cases h; done)
    | skip
   cases h
   exact ⟨(part_b _ _ _).2.1, (part_b _ _ _).2.2.1⟩
  ·decide
 ·obtain ⟨vs, h | rfl⟩ := code_num (by decide) (by decide) (by decide) h
  ·rw [hm _ _ (by decide) (by decide)] at h
   unfold GI at h
   split at h <;> first
    | (rename_i he; cases he; done)
    | (rename_i he _; cases he; done)
    | (cases h; done)
    | skip
   cases h
   split
   ·rename_i ho
    exact ⟨Int.le_trans (by decide) (sizeL_b ho _).1, (sizeL_b ho _).2⟩
   ·decide
  ·decide
 ·obtain ⟨vs, h | rfl⟩ := code_num (by decide) (by decide) (by decide) h
  ·rw [hm _ _ (by decide) (by decide)] at h
   unfold GI at h
   split at h <;> first
    | (rename_i he; cases he; done)
    | (rename_i he _; cases he; done)
    | (cases h; done)
    | skip
   cases h
   exact fieldN_b _
  ·decide
theorem ruleL_ok : RulOk m ruleL := by
 intro Γ c y hy hty hG
 unfold ruleL at hy
 split at hy
 ·rename_i c0 n1 n2 n3 a n4 T S a' k4 k3 nm na nk k2 S' k1
  rw [zaa] at hy
  split at hy
  ·rename_i hv
   simp only [Bool.and_eq_true] at hv
   have e1 := veq_eq _ _ _ hv.1
   have e2 := veq_eq _ _ _ hv.2
   subst e1 e2
   have key : ∀ b, Typed m [(a, 3), (T, 3), (S, 3), (Value.func (.methodOf 65795 nm) na nk, 3)] → den m (sy 232 [.func (.methodOf 65795 nm) na nk, sy 35 [S, sy 65779 [T, S, a]]]) = some (.bool b) →
     den m (.func (.methodOf 232 n1) ⟨[.func (.methodOf 19 n2) ⟨[.func (.methodOf 35 n3) ⟨[a, .func (.methodOf 65811 n4) ⟨[T, S, a]⟩ k4]⟩ k3, .func (.methodOf 65795 nm) na nk]⟩ k2, S]⟩ k1) = some (.bool b) := by
    intro b ht hc
    obtain ⟨va, a1, a2⟩ := ht (a, 3) (by simp)
    obtain ⟨vT, t1, t2⟩ := ht (T, 3) (by simp)
    obtain ⟨vS, s1, s2⟩ := ht (S, 3) (by simp)
    obtain ⟨vn, q1, q2⟩ := ht (Value.func (.methodOf 65795 nm) na nk, 3) (by simp)
    obtain ⟨x, rfl, wx⟩ := s_int (k := .i64) (zat (s := 3) (by decide) a2)
    obtain ⟨t, rfl, wt⟩ := s_int (k := .i64) (zat (s := 3) (by decide) t2)
    obtain ⟨z, rfl, wz⟩ := s_int (k := .i64) (zat (s := 3) (by decide) s2)
    obtain ⟨u, rfl, wu⟩ := s_int (k := .i64) (zat (s := 3) (by decide) q2)
    rw [wfK_iff] at wx wz
    simp only at a1 t1 s1 q1 wx wz
    have hu := rgTab hm ⟨65795, 0, 10⟩ (by simp) nm na nk u q1
    simp only at hu
    have hp := part_b t z x
    have hbs := base_b (T := t) (S := z) (a := x) (by omega)
    have hz : partAt t z x = 0 ∨ 32 ≤ z := by
     unfold partAt
     split
     ·rename_i h; have := of_decide_eq_true h; omega
     ·exact .inl rfl
    have d1 : ∀ {nm k}, den m (.func (.methodOf 65811 nm) ⟨[T, S, a]⟩ k) = some (.int .i64 (baseOf t z x)) := by
     intro nm k
     rw [den, denA]
     simp only [denL, a1, t1, s1]
     rw [if_neg (by decide)]
     exact code_val hm (by decide) (by decide) (i64S hbs) rfl
    have d2 : den m (sy 65779 [T, S, a]) = some (.int .i64 (partAt t z x)) := by
     unfold sy
     rw [den, denA]
     simp only [denL, a1, t1, s1]
     rw [if_neg (by decide), (gPartV hm).2]
    have sub : ∀ {p q : Value} {nm k} {i j : Int}, den m p = some (.int .i64 i) → den m q = some (.int .i64 j) → den m (.func (.methodOf 35 nm) ⟨[p, q]⟩ k) = some (.int .i64 (IntKind.i64.wrap (i - j))) := by
     intro p q nm k i j h1 h2
     rw [zau (by decide) h1 h2]
     exact itp_sub i j
    have add : ∀ {p q : Value} {nm k} {i j : Int}, den m p = some (.int .i64 i) → den m q = some (.int .i64 j) → den m (.func (.methodOf 19 nm) ⟨[p, q]⟩ k) = some (.int .i64 (IntKind.i64.wrap (i + j))) := by
     intro p q nm k i j h1 h2
     rw [zau (by decide) h1 h2]
     exact itp_add i j
    have gt : ∀ {p q : Value} {nm k} {i j : Int}, den m p = some (.int .i64 i) → den m q = some (.int .i64 j) → den m (.func (.methodOf 232 nm) ⟨[p, q]⟩ k) = some (.bool (decide (i > j))) := by
     intro p q nm k i j h1 h2
     rw [zau (by decide) h1 h2, itp_cmp (o := .gtr) (.inr (.inl ⟨rfl, rfl⟩)) rfl]
    have h1 := gt (nm := n1) (k := k1) (add (nm := n2) (k := k2) (sub (nm := n3) (k := k3) a1 (d1 (nm := n4) (k := k4))) q1) s1
    have h2 : den m (sy 232 [.func (.methodOf 65795 nm) na nk, sy 35 [S, sy 65779 [T, S, a]]]) = _ := gt (nm := "") (k := #[]) q1 (sub (nm := "") (k := #[]) s1 d2)
    rw [h2] at hc
    rw [h1]
    have w1 : IntKind.i64.wrap (x - baseOf t z x) = partAt t z x := by rw [Gx.wrap_i _ (by omega)]; omega
    rw [w1, Gx.wrap_i (partAt t z x + u) (by omega)]
    rw [Gx.wrap_i (z - partAt t z x) (by omega)] at hc
    rw [← hc]
    congr 2
    exact decide_eq_decide.2 (by omega)
   simp only [List.mem_cons, List.not_mem_nil, or_false] at hy
   rcases hy with rfl | rfl
   ·exact key true hty (hG _ _ List.mem_cons_self)
   ·exact key false hty (hG _ _ List.mem_cons_self)
  ·simp at hy
 ·simp at hy
end
noncomputable def bufC (at_ B T sp S n : Value) : List (Value × Value × Value) → List Cd
 | [] => []
 | p :: l =>
   let G : Facts := [(sy 65560 [T, S, p.2.2], true), (sy 200 [sp, .int .i64 0], false), (sy 232 [sp, .int .i64 1], false), (sy 248 [at_, B], true), (sy 200 [n, .int .i64 0], false), (sy 216 [n, S], true)]
   let c : Value := sy 216 [at_, sy 35 [sy 19 [B, S], n]]
   let ts : List (Value × Nat) := [(at_, 3), (T, 3), (sp, 3), (S, 3), (n, 3)]
   ⟨ts, (c, true) :: G, true⟩ :: ⟨ts, (c, false) :: G, false⟩ :: bufC at_ B T sp S n l
noncomputable def ruleB : Rul := fun Γ c =>
 match c with
 | .func (.methodOf 216 _) ⟨[.func (.methodOf 35 _) ⟨[at_, B]⟩ _, .func (.methodOf 35 _) ⟨[S, n]⟩ _]⟩ _ => match B with
   | .func (.methodOf 19 _) ⟨[.func (.methodOf 19 _) ⟨[.int .i64 3, .func (.methodOf 51 _) ⟨[.int .i64 2, T]⟩ _]⟩ _, .func (.methodOf 51 _) ⟨[sp, S']⟩ _]⟩ _ => cnd (veq 1000 S S') (bufC at_ B T sp S n (plansOf Γ)) []
   | _ => []
 | _ => []
noncomputable def ruleY : Rul := fun _ c =>
 match c with
 | .func (.methodOf 264 _) ⟨[.func (.methodOf 322 _) ⟨[.func (.methodOf 804 nm) ⟨[.func (.methodOf 649 nm2) ⟨[.func (.methodOf 714 nm3) ⟨[L, i, .int .i64 1]⟩ k3]⟩ k2, f]⟩ k]⟩ _, .int .i32 112]⟩ _ =>
   let b := Value.func (.methodOf 804 nm) ⟨[.func (.methodOf 649 nm2) ⟨[.func (.methodOf 714 nm3) ⟨[L, i, .int .i64 1]⟩ k3]⟩ k2, f]⟩ k
   [⟨[(b, 4)], [(sy 80008 [L], true), (sy 80024 [L], true), (sy 264 [b, .int .u8 115], false)], true⟩]
 | _ => []
noncomputable def ruleW : Rul := fun _ c =>
 match c with
 | .func (.methodOf 264 _) ⟨[.func (.methodOf 23 _) ⟨[.func (.methodOf 55 _) ⟨[.int .u64 8, u]⟩ _, .int .u64 4]⟩ _, .func (.methodOf 119 _) ⟨[.func (.methodOf 55 _) ⟨[u', .int .u64 8]⟩ _, .int .u64 4]⟩ _]⟩ _ => cnd (veq 1000 u u') [⟨[(u, 7)], [], true⟩] []
 | _ => []
section
variable {m : Mu} (hm : Glob m)
include hm
theorem ruleY_ok : RulOk m ruleY := by
 intro Γ c y hy hty hG
 unfold ruleY at hy
 split at hy
 ·rename_i n1 n2 nm nm2 nm3 L i k3 k2 f k kk1 kk2
  have hy := List.mem_singleton.1 hy
  subst hy
  obtain ⟨v, h1, h2⟩ := hty _ List.mem_cons_self
  have t1 := hG (sy 80008 [L]) true (by simp)
  have t2 := hG (sy 80024 [L]) true (by simp)
  have t3 := hG (sy 264 [Value.func (.methodOf 804 nm) ⟨[.func (.methodOf 649 nm2) ⟨[.func (.methodOf 714 nm3) ⟨[L, i, .int .i64 1]⟩ k3]⟩ k2, f]⟩ k, .int .u8 115]) false (by simp)
  simp only at h1 h2
  obtain ⟨vs, vf, a1, a2, a3⟩ := den_2I (by decide) h1
  obtain ⟨s, a, rfl, ha, hv⟩ := byte_inv a3
  obtain ⟨va, b1, b2⟩ := den_1Inv (by decide) a1
  obtain ⟨blk, o, cs, ty, z, rfl, hK, hcs⟩ := load_inv2 b2
  obtain ⟨l3, c1, c2, _⟩ := den_sy_inv (c := 44) (s := 10) (by decide) (by decide) (show den m (sy 714 [L, i, .int .i64 1]) = _ from by rw [← b1]; exact den_anyname)
  obtain ⟨kk, cc, ii, off, e1, e2, rfl⟩ := elem_inv c1 c2
  have t1 := (den_1 (c := #[]) (nm := "") (by decide) e1).symm.trans t1
  have t2 := (den_1 (c := #[]) (nm := "") (by decide) e1).symm.trans t2
  obtain ⟨L', hL⟩ := hm.tx _ kk cc t1
  have hok : okShapes (tl m.K (some ⟨blk, off, none⟩) kk) = true := code_bool hm t2 (by decide) (by decide) rfl rfl
  have hT : tl m.K (some ⟨blk, off, none⟩) kk = L' := by unfold tl; rw [hL]; rfl
  rw [hT] at hok
  obtain ⟨g1, g2⟩ := txt_get hL
  rcases g2 with g2 | ⟨bb, off2, cs2, ty2, z2, f1, f2, f3⟩
  ·omega
  ·cases f1
   rw [f2] at hK
   cases hK
   have hii : ii < L'.length := by omega
   have h5 := f3 ii hii
   have hs : L'[ii] = s := by
    have h8 := h5.symm.trans hcs
    cases h8; rfl
   have hall : okLetter (s.data.toList[a]) = true := by
    simp only [okShapes, Bool.and_eq_true, Bool.not_eq_true'] at hok
    have := List.any_eq_false.1 hok.2 _ (List.getElem_mem hii)
    rw [hs] at this
    unfold badS at this
    simp only [Bool.or_eq_true, not_or, Bool.not_eq_true, Bool.not_eq_false'] at this
    exact List.all_eq_true.1 this.1 _ (List.getElem_mem ha)
   have hb : den m (Value.func (.methodOf 804 nm) ⟨[.func (.methodOf 649 nm2) ⟨[.func (.methodOf 714 nm3) ⟨[L, i, .int .i64 1]⟩ k3]⟩ k2, f]⟩ k) = some (.int .u8 (s.data.toList[a]).toNat) := by rw [h1, hv]
   have h6 : den m (sy 264 [Value.func (.methodOf 804 nm) ⟨[.func (.methodOf 649 nm2) ⟨[.func (.methodOf 714 nm3) ⟨[L, i, .int .i64 1]⟩ k3]⟩ k2, f]⟩ k, .int .u8 115]) = _ := zau (c := #[]) (nm := "") (by decide) hb (show den m (.int .u8 115) = some (.int .u8 115) by rw [den])
   rw [h6] at t3
   generalize s.data.toList[a] = q at hall hb t3
   have hq : q.toNat = 112 := by
    unfold okLetter at hall
    rw [Bool.or_eq_true, beq_iff_eq, beq_iff_eq] at hall
    rcases hall with rfl | rfl
    ·rfl
    ·exfalso
     rw [show itp m 264 [.int .u8 ((UInt8.toNat 115 : Nat) : Int), .int .u8 115] = some (.bool true) from rfl] at t3
     cases t3
   rw [hq] at hb
   have h7 : den m (.func (.methodOf 322 n2) ⟨[Value.func (.methodOf 804 nm) ⟨[.func (.methodOf 649 nm2) ⟨[.func (.methodOf 714 nm3) ⟨[L, i, .int .i64 1]⟩ k3]⟩ k2, f]⟩ k]⟩ kk1) = _ := den_1 (by decide) hb
   rw [zau (by decide) (h7.trans (show itp m 322 [.int .u8 ((112 : Nat) : Int)] = some (.int .i32 112) from rfl)) (show den m (.int .i32 112) = some (.int .i32 112) by rw [den])]
   rfl
 ·simp at hy
omit hm in
theorem or_four (x : Int) : IntKind.u64.wrap (Gx.bitsN .or .u64 (IntKind.u64.wrap (x * 8)) 4) = IntKind.u64.wrap (IntKind.u64.wrap (8 * x) + 4) := by
 have hw : ∀ n : Int, IntKind.u64.wrap n = n % 18446744073709551616 := by intro n; simp [IntKind.wrap, IntKind.bits, IntKind.signed]
 obtain ⟨k, hk, hk2⟩ : ∃ k : Nat, IntKind.u64.wrap (x * 8) = ((k <<< 3 : Nat) : Int) ∧ k < 2305843009213693952 := by
  refine ⟨(x % 2305843009213693952).toNat, ?_, by omega⟩
  rw [hw, Nat.shiftLeft_eq]
  omega
 have h8 : IntKind.u64.wrap (8 * x) = ((k <<< 3 : Nat) : Int) := by rw [Int.mul_comm]; exact hk
 rw [hk, h8]
 have hlt : k <<< 3 < 2 ^ 64 := by rw [Nat.shiftLeft_eq]; omega
 have h1 : (BitVec.ofInt IntKind.u64.bits ((k <<< 3 : Nat) : Int)).toNat = k <<< 3 := by
  simp only [BitVec.ofInt_natCast, BitVec.toNat_ofNat]; exact Nat.mod_eq_of_lt hlt
 have h2 : (BitVec.ofInt IntKind.u64.bits 4).toNat = 4 := by decide
 have : Gx.bitsN .or .u64 ((k <<< 3 : Nat) : Int) 4 = ((k <<< 3 + 4 : Nat) : Int) := by
  simp only [Gx.bitsN]
  rw [BitVec.toNat_or, h1, h2, Nat.shiftLeft_add_eq_or_of_lt (by decide)]
 rw [this]
 rfl
theorem ruleB_ok : RulOk m ruleB := by
 intro Γ c y hy hty hG
 unfold ruleB at hy
 split at hy
 ·rename_i n1 n2 at_ B k2 n3 S n k3 k1
  split at hy
  ·rename_i n4 n5 n6 T k6 k5 n7 sp S' k7 k4
   rw [zaa] at hy
   split at hy
   ·rename_i hv
    have e1 := veq_eq _ _ _ hv
    subst e1
    generalize plansOf Γ = l at hy
    induction l with
    | nil => simp [bufC] at hy
    | cons p l ih =>
      have key : ∀ b, Typed m [(at_, 3), (T, 3), (sp, 3), (S, 3), (n, 3)] → Holds m [(sy 216 [at_, sy 35 [sy 19 [.func (.methodOf 19 n4) ⟨[.func (.methodOf 19 n5) ⟨[.int .i64 3, .func (.methodOf 51 n6) ⟨[.int .i64 2, T]⟩ k6]⟩ k5, .func (.methodOf 51 n7) ⟨[sp, S]⟩ k7]⟩ k4, S], n]], b), (sy 65560 [T, S, p.2.2], true), (sy 200 [sp, .int .i64 0], false), (sy 232 [sp, .int .i64 1], false),
        (sy 248 [at_, .func (.methodOf 19 n4) ⟨[.func (.methodOf 19 n5) ⟨[.int .i64 3, .func (.methodOf 51 n6) ⟨[.int .i64 2, T]⟩ k6]⟩ k5, .func (.methodOf 51 n7) ⟨[sp, S]⟩ k7]⟩ k4], true), (sy 200 [n, .int .i64 0], false), (sy 216 [n, S], true)] →
        den m (.func (.methodOf 216 n1) ⟨[.func (.methodOf 35 n2) ⟨[at_, .func (.methodOf 19 n4) ⟨[.func (.methodOf 19 n5) ⟨[.int .i64 3, .func (.methodOf 51 n6) ⟨[.int .i64 2, T]⟩ k6]⟩ k5, .func (.methodOf 51 n7) ⟨[sp, S]⟩ k7]⟩ k4]⟩ k2, .func (.methodOf 35 n3) ⟨[S, n]⟩ k3]⟩ k1) = some (.bool b) := by
       intro b ht h
       obtain ⟨va, a1, a2⟩ := ht (at_, 3) (by simp)
       obtain ⟨vT, t1, t2⟩ := ht (T, 3) (by simp)
       obtain ⟨vp, p1, p2⟩ := ht (sp, 3) (by simp)
       obtain ⟨vS, s1, s2⟩ := ht (S, 3) (by simp)
       obtain ⟨vn, q1, q2⟩ := ht (n, 3) (by simp)
       obtain ⟨x, rfl, wx⟩ := s_int (k := .i64) (zat (s := 3) (by decide) a2)
       obtain ⟨t, rfl, wt⟩ := s_int (k := .i64) (zat (s := 3) (by decide) t2)
       obtain ⟨q, rfl, wq⟩ := s_int (k := .i64) (zat (s := 3) (by decide) p2)
       obtain ⟨z, rfl, wz⟩ := s_int (k := .i64) (zat (s := 3) (by decide) s2)
       obtain ⟨u, rfl, wu⟩ := s_int (k := .i64) (zat (s := 3) (by decide) q2)
       simp only at a1 t1 p1 s1 q1
       rw [wfK_iff] at wx
       simp only at wx
       have cst : ∀ {i : Int}, den m (.int .i64 i) = some (.int .i64 i) := by intro i; rw [den]
       obtain ⟨kT, t', kS, z', _, _, _, g1, g2, _, g4⟩ := plan_yes hm (h (sy 65560 [T, S, p.2.2]) true (by simp))
       rw [t1] at g1
       rw [s1] at g2
       cases g1
       cases g2
       have hb := okPlan_b g4
       have f1 := h (sy 200 [sp, .int .i64 0]) false (by simp)
       have f2 := h (sy 232 [sp, .int .i64 1]) false (by simp)
       have f3 := h _ true (List.mem_cons_of_mem _ (List.mem_cons_of_mem _ (List.mem_cons_of_mem _ (List.mem_cons_of_mem _ List.mem_cons_self))))
       have f4 := h (sy 200 [n, .int .i64 0]) false (by simp)
       have f5 := h (sy 216 [n, S]) true (by simp)
       have f6 := h _ b List.mem_cons_self
       unfold sy at f1 f2 f3 f4 f5 f6
       rw [zau (by decide) p1 cst, itp_cmp (o := .lss) (.inl ⟨rfl, rfl⟩) rfl] at f1
       rw [zau (by decide) p1 cst, itp_cmp (o := .gtr) (.inr (.inl ⟨rfl, rfl⟩)) rfl] at f2
       rw [zau (by decide) q1 cst, itp_cmp (o := .lss) (.inl ⟨rfl, rfl⟩) rfl] at f4
       rw [zau (by decide) q1 s1, itp_le] at f5
       have f1 : ¬ q < 0 := by simpa using f1
       have f2 : ¬ q > 1 := by simpa using f2
       have f4 : ¬ u < 0 := by simpa using f4
       have f5 : u ≤ z := by simpa using f5
       have hqz : q * z = 0 ∨ q * z = z := by
        have : q = 0 ∨ q = 1 := by omega
        rcases this with rfl | rfl <;> simp
       have dB : den m (.func (.methodOf 19 n4) ⟨[.func (.methodOf 19 n5) ⟨[.int .i64 3, .func (.methodOf 51 n6) ⟨[.int .i64 2, T]⟩ k6]⟩ k5, .func (.methodOf 51 n7) ⟨[sp, S]⟩ k7]⟩ k4) = some (.int .i64 (3 + 2 * t + q * z)) := by
        have m1 : den m (.func (.methodOf 51 n6) ⟨[.int .i64 2, T]⟩ k6) = some (.int .i64 (2 * t)) := by
         rw [zau (by decide) cst t1, itp_mul, Gx.wrap_i _ (by omega)]
        have m2 : den m (.func (.methodOf 51 n7) ⟨[sp, S]⟩ k7) = some (.int .i64 (q * z)) := by
         rw [zau (by decide) p1 s1, itp_mul, Gx.wrap_i _ (by omega)]
        have m3 : den m (.func (.methodOf 19 n5) ⟨[.int .i64 3, .func (.methodOf 51 n6) ⟨[.int .i64 2, T]⟩ k6]⟩ k5) = some (.int .i64 (3 + 2 * t)) := by
         rw [zau (by decide) cst m1, itp_add, Gx.wrap_i _ (by omega)]
        rw [zau (by decide) m3 m2, itp_add, Gx.wrap_i _ (by omega)]
       rw [zau (by decide) a1 dB, itp_cmp (o := .geq) (.inr (.inr ⟨rfl, rfl⟩)) rfl] at f3
       have f3 : x ≥ 3 + 2 * t + q * z := by simpa using f3
       have e1 : den m (.func (.methodOf 35 n2) ⟨[at_, .func (.methodOf 19 n4) ⟨[.func (.methodOf 19 n5) ⟨[.int .i64 3, .func (.methodOf 51 n6) ⟨[.int .i64 2, T]⟩ k6]⟩ k5, .func (.methodOf 51 n7) ⟨[sp, S]⟩ k7]⟩ k4]⟩ k2) = some (.int .i64 (x - (3 + 2 * t + q * z))) := by
        rw [zau (by decide) a1 dB, itp_sub, Gx.wrap_i _ (by omega)]
       have e2 : den m (.func (.methodOf 35 n3) ⟨[S, n]⟩ k3) = some (.int .i64 (z - u)) := by
        rw [zau (by decide) s1 q1, itp_sub, Gx.wrap_i _ (by omega)]
       have e3 : ∀ {nm k}, den m (.func (.methodOf 19 nm) ⟨[.func (.methodOf 19 n4) ⟨[.func (.methodOf 19 n5) ⟨[.int .i64 3, .func (.methodOf 51 n6) ⟨[.int .i64 2, T]⟩ k6]⟩ k5, .func (.methodOf 51 n7) ⟨[sp, S]⟩ k7]⟩ k4, S]⟩ k) = some (.int .i64 (3 + 2 * t + q * z + z)) := by
        intro nm k
        rw [zau (by decide) dB s1, itp_add, Gx.wrap_i _ (by omega)]
       have e4 : ∀ {nm k nm2 k2}, den m (.func (.methodOf 35 nm) ⟨[.func (.methodOf 19 nm2) ⟨[.func (.methodOf 19 n4) ⟨[.func (.methodOf 19 n5) ⟨[.int .i64 3, .func (.methodOf 51 n6) ⟨[.int .i64 2, T]⟩ k6]⟩ k5, .func (.methodOf 51 n7) ⟨[sp, S]⟩ k7]⟩ k4, S]⟩ k2, n]⟩ k) = some (.int .i64 (3 + 2 * t + q * z + z - u)) := by
        intro nm k nm2 k2
        rw [zau (by decide) e3 q1, itp_sub, Gx.wrap_i _ (by omega)]
       rw [zau (by decide) a1 e4, itp_le] at f6
       rw [zau (by decide) e1 e2, itp_le, ← f6]
       congr 2
       exact decide_eq_decide.2 (by omega)
      unfold bufC at hy
      simp only [List.mem_cons] at hy
      rcases hy with rfl | rfl | hy
      ·exact key true hty hG
      ·exact key false hty hG
      ·exact ih hy
   ·simp at hy
  ·simp at hy
 ·simp at hy
omit hm in
theorem ruleW_ok : RulOk m ruleW := by
 intro Γ c y hy hty hG
 unfold ruleW at hy
 split at hy
 ·rename_i n1 n2 n3 u k3 k2 n4 n5 u' k5 k4 k1
  rw [zaa] at hy
  split at hy
  ·rename_i hv
   have e1 := veq_eq _ _ _ hv
   subst e1
   have hy := List.mem_singleton.1 hy
   subst hy
   obtain ⟨v, h1, h2⟩ := hty _ List.mem_cons_self
   obtain ⟨x, rfl, wx⟩ := s_int (k := .u64) (zat (s := 7) (by decide) h2)
   simp only at h1
   have cst : ∀ {i : Int}, den m (.int .u64 i) = some (.int .u64 i) := by intro i; rw [den]
   have um : ∀ i j : Int, itp m 55 [.int .u64 i, .int .u64 j] = some (.int .u64 (IntKind.u64.wrap (i * j))) := fun i j => by
    show (match zag .mul (.int .u64 i) (.int .u64 j) with | some v => if srtA 7 v = true then some v else none | none => none) = _
    rw [zap _ _ _ rfl]
    show (if srtA 7 (.int .u64 (IntKind.u64.wrap (i * j))) = true then _ else _) = _
    exact if_pos (zaq (zav (k := .u64) (wfK_wrap .u64 _)))
   have ua : ∀ i j : Int, itp m 23 [.int .u64 i, .int .u64 j] = some (.int .u64 (IntKind.u64.wrap (i + j))) := fun i j => by
    show (match zag .add (.int .u64 i) (.int .u64 j) with | some v => if srtA 7 v = true then some v else none | none => none) = _
    rw [zap _ _ _ rfl]
    show (if srtA 7 (.int .u64 (IntKind.u64.wrap (i + j))) = true then _ else _) = _
    exact if_pos (zaq (zav (k := .u64) (wfK_wrap .u64 _)))
   have uo : ∀ i j : Int, itp m 119 [.int .u64 i, .int .u64 j] = some (.int .u64 (IntKind.u64.wrap (Gx.bitsN .or .u64 i j))) := fun i j => by
    show (match zag .or (.int .u64 i) (.int .u64 j) with | some v => if srtA 7 v = true then some v else none | none => none) = _
    rw [zap _ _ _ rfl]
    show (if srtA 7 (.int .u64 (IntKind.u64.wrap (Gx.bitsN .or .u64 i j))) = true then _ else _) = _
    exact if_pos (zaq (zav (k := .u64) (wfK_wrap .u64 _)))
   have d3 : den m (.func (.methodOf 55 n3) ⟨[.int .u64 8, u]⟩ k3) = some (.int .u64 (IntKind.u64.wrap (8 * x))) := by rw [zau (by decide) cst h1, um]
   have d4 : den m (.func (.methodOf 55 n5) ⟨[u, .int .u64 8]⟩ k5) = some (.int .u64 (IntKind.u64.wrap (x * 8))) := by rw [zau (by decide) h1 cst, um]
   have d1 : den m (.func (.methodOf 23 n2) ⟨[.func (.methodOf 55 n3) ⟨[.int .u64 8, u]⟩ k3, .int .u64 4]⟩ k2) = some (.int .u64 (IntKind.u64.wrap (IntKind.u64.wrap (8 * x) + 4))) := by rw [zau (by decide) d3 cst, ua]
   have d2 : den m (.func (.methodOf 119 n4) ⟨[.func (.methodOf 55 n5) ⟨[u, .int .u64 8]⟩ k5, .int .u64 4]⟩ k4) = some (.int .u64 (IntKind.u64.wrap (IntKind.u64.wrap (8 * x) + 4))) := by rw [zau (by decide) d4 cst, uo, or_four x]
   rw [zau (by decide) d1 d2]
   generalize IntKind.u64.wrap (IntKind.u64.wrap (8 * x) + 4) = z
   show (match zag .eql (.int .u64 z) (.int .u64 z) with | some v => if srtA 8 v = true then some v else none | none => none) = _
   rw [zap _ _ _ rfl]
   show some (Value.bool (z == z)) = _
   simp
  ·simp at hy
 ·simp at hy
end
noncomputable def kEqs (k : Value) : List Int → List Cd
 | [] => []
 | v :: l => ⟨[(k, 3)], [(sy 264 [k, .int .i64 v], true)], true⟩ :: kEqs k l
noncomputable def fEqs (k : Value) (g : Int → Bool) : List Int → List Cd
 | [] => []
 | v :: l => ⟨[(k, 3)], [(sy 264 [k, .int .i64 v], true)], g (fieldN v)⟩ :: fEqs k g l
noncomputable def ruleK : Rul := fun _ c =>
 match c with
 | .func (.methodOf 65864 _) ⟨[k]⟩ _ => kEqs k [2, 3, 4, 5, 6, 7]
 | .func (.methodOf 264 _) ⟨[.func (.methodOf 65843 _) ⟨[k]⟩ _, .int .i64 n]⟩ _ => fEqs k (fun x => x == n) [2, 3, 4, 5, 6, 7]
 | .func (.methodOf 264 _) ⟨[.int .i64 n, .func (.methodOf 65843 _) ⟨[k]⟩ _]⟩ _ => fEqs k (fun x => n == x) [2, 3, 4, 5, 6, 7]
 | .func (.methodOf 264 _) ⟨[k, .int .i64 7]⟩ _ => [⟨[(k, 3)], [(sy 65864 [k], true), (sy 264 [k, .int .i64 2], false), (sy 264 [k, .int .i64 3], false), (sy 264 [k, .int .i64 4], false), (sy 264 [k, .int .i64 5], false), (sy 264 [k, .int .i64 6], false)], true⟩]
 | _ => []
theorem eq_i64 {m : Mu} {k : Value} {x n : Int} {nm : String} {kk : Array Value} (h : den m k = some (.int .i64 x)) : den m (.func (.methodOf 264 nm) ⟨[k, .int .i64 n]⟩ kk) = some (.bool (x == n)) := by
 rw [zau (by decide) h (show den m (.int .i64 n) = some (.int .i64 n) by rw [den])]
 show (match zag .eql (.int .i64 x) (.int .i64 n) with | some v => if srtA 8 v = true then some v else none | none => none) = _
 rw [zap _ _ _ rfl]; rfl
theorem ruleK_ok {m : Mu} (hm : Glob m) : RulOk m ruleK := by
 intro Γ c y hy hty hG
 unfold ruleK at hy
 split at hy
 ·rename_i nm k kk
  have key : ∀ l : List Int, (∀ v ∈ l, isF v = true) → y ∈ kEqs k l → den m (.func (.methodOf 65864 nm) ⟨[k]⟩ kk) = some (.bool y.b) := by
   intro l
   induction l with
   | nil => intro _ h; simp [kEqs] at h
   | cons v l ih =>
     intro hl h
     unfold kEqs at h
     rcases List.mem_cons.1 h with rfl | h
     ·obtain ⟨u, h1, h2⟩ := hty _ List.mem_cons_self
      obtain ⟨x, rfl, _⟩ := s_int (k := .i64) (zat (s := 3) (by decide) h2)
      simp only at h1
      have h3 := hG _ _ List.mem_cons_self
      unfold sy at h3
      rw [eq_i64 h1] at h3
      have h3 : x = v := by simpa using h3
      subst h3
      rw [den_1 (by decide) h1, (gIsF hm).1, hl _ List.mem_cons_self]
     ·exact ih (fun v hv => hl v (List.mem_cons_of_mem _ hv)) h
  exact key _ (by decide) hy
 ·rename_i nm nm2 k k2 n kk
  have key : ∀ l : List Int, y ∈ fEqs k (fun x => x == n) l → den m (.func (.methodOf 264 nm) ⟨[.func (.methodOf 65843 nm2) ⟨[k]⟩ k2, .int .i64 n]⟩ kk) = some (.bool y.b) := by
   intro l
   induction l with
   | nil => intro h; simp [fEqs] at h
   | cons v l ih =>
     intro h
     unfold fEqs at h
     rcases List.mem_cons.1 h with rfl | h
     ·obtain ⟨u, h1, h2⟩ := hty _ List.mem_cons_self
      obtain ⟨x, rfl, _⟩ := s_int (k := .i64) (zat (s := 3) (by decide) h2)
      simp only at h1
      have h3 := hG _ _ List.mem_cons_self
      unfold sy at h3
      rw [eq_i64 h1] at h3
      have h3 : x = v := by simpa using h3
      subst h3
      exact eq_i64 ((den_1 (by decide) h1).trans (gIsF hm).2)
     ·exact ih h
  exact key _ hy
 ·rename_i nm n nm2 k k2 kk
  have key : ∀ l : List Int, y ∈ fEqs k (fun x => n == x) l → den m (.func (.methodOf 264 nm) ⟨[.int .i64 n, .func (.methodOf 65843 nm2) ⟨[k]⟩ k2]⟩ kk) = some (.bool y.b) := by
   intro l
   induction l with
   | nil => intro h; simp [fEqs] at h
   | cons v l ih =>
     intro h
     unfold fEqs at h
     rcases List.mem_cons.1 h with rfl | h
     ·obtain ⟨u, h1, h2⟩ := hty _ List.mem_cons_self
      obtain ⟨x, rfl, _⟩ := s_int (k := .i64) (zat (s := 3) (by decide) h2)
      simp only at h1
      have h3 := hG _ _ List.mem_cons_self
      unfold sy at h3
      rw [eq_i64 h1] at h3
      have h3 : x = v := by simpa using h3
      subst h3
      have h4 : den m (.func (.methodOf 65843 nm2) ⟨[k]⟩ k2) = _ := (den_1 (by decide) h1).trans (gIsF hm).2
      rw [zau (by decide) (show den m (.int .i64 n) = some (.int .i64 n) by rw [den]) h4]
      show (match zag .eql (.int .i64 n) (.int .i64 (fieldN x)) with | some v => if srtA 8 v = true then some v else none | none => none) = _
      rw [zap _ _ _ rfl]; rfl
     ·exact ih h
  exact key _ hy
 ·rename_i nm k kk _
  have hy := List.mem_singleton.1 hy
  subst hy
  obtain ⟨u, h1, h2⟩ := hty _ List.mem_cons_self
  obtain ⟨x, rfl, _⟩ := s_int (k := .i64) (zat (s := 3) (by decide) h2)
  simp only at h1
  have f0 := hG (sy 65864 [k]) true (by simp)
  have f2 := hG (sy 264 [k, .int .i64 2]) false (by simp)
  have f3 := hG (sy 264 [k, .int .i64 3]) false (by simp)
  have f4 := hG (sy 264 [k, .int .i64 4]) false (by simp)
  have f5 := hG (sy 264 [k, .int .i64 5]) false (by simp)
  have f6 := hG (sy 264 [k, .int .i64 6]) false (by simp)
  unfold sy at f0 f2 f3 f4 f5 f6
  rw [den_1 (by decide) h1, (gIsF hm).1] at f0
  rw [eq_i64 h1] at f2 f3 f4 f5 f6
  have f0 : isF x = true := by simpa using f0
  have f0 := of_decide_eq_true f0
  have f2 : ¬ x = 2 := by simpa using f2
  have f3 : ¬ x = 3 := by simpa using f3
  have f4 : ¬ x = 4 := by simpa using f4
  have f5 : ¬ x = 5 := by simpa using f5
  have f6 : ¬ x = 6 := by simpa using f6
  rw [eq_i64 h1, show x = 7 by omega]; rfl
 ·simp at hy
noncomputable def typ7 : List Value → List (Value × Nat)
 | [] => []
 | v :: l => (v, 7) :: typ7 l
noncomputable def ruleV : Rul := fun _ c =>
 match c with
 | .func (.methodOf 1016 _) ⟨[.func (.methodOf 791 _) ⟨[.agg ⟨l⟩, i]⟩ _]⟩ _ => [⟨typ7 l, [(sy 200 [i, .int .i64 0], false), (sy 248 [i, .int .i64 (.ofNat l.length)], false)], true⟩]
 | _ => []
theorem typ7_den {m : Mu} : ∀ {l : List Value}, Typed m (typ7 l) → ∃ vs, denL m l = some vs ∧ vs.length = l.length ∧ ∀ v ∈ vs, srtA 7 v = true
 | [], _ => ⟨[], rfl, rfl, fun _ h => by simp at h⟩
 | v :: l, h => by
   obtain ⟨vs, h1, h2, h3⟩ := typ7_den (l := l) fun x hx => h x (List.mem_cons_of_mem _ hx)
   obtain ⟨u, g1, g2⟩ := h _ List.mem_cons_self
   refine ⟨u :: vs, ?_, by simp [h2], fun w hw => ?_⟩
   ·simp only at g1
    rw [denL, g1, h1]
   ·rcases List.mem_cons.1 hw with rfl | hw
    ·exact g2
    ·exact h3 w hw
theorem ruleV_ok {m : Mu} : RulOk m ruleV := by
 intro Γ c y hy hty hG
 unfold ruleV at hy
 split at hy
 ·rename_i nm nm2 l i k k2
  have hy := List.mem_singleton.1 hy
  subst hy
  obtain ⟨vs, h1, h2, h3⟩ := typ7_den hty
  obtain ⟨k1, a, n, g1, g2, g3⟩ := lss_inv (hG (sy 200 [i, .int .i64 0]) false (by simp))
  obtain ⟨k3, a', n', q1, q2, q3⟩ := geq_inv (hG (sy 248 [i, .int .i64 (.ofNat l.length)]) false (by simp))
  rw [den] at g2 q2
  cases g2
  cases q2
  rw [g1] at q1
  cases q1
  have e1 := of_decide_eq_false g3.symm
  have e2 := of_decide_eq_false q3.symm
  have e2 : ¬ a ≥ (l.length : Int) := e2
  have hlt : a.toNat < vs.length := by omega
  have hd : den m (.func (.methodOf 791 nm2) ⟨[.agg ⟨l⟩, i]⟩ k) = some (vs[a.toNat]) := by
   rw [zau (by decide) (show den m (.agg ⟨l⟩) = some (.agg ⟨vs⟩) by rw [den, denA, h1]) g1]
   show (match (if 0 ≤ a then vs[a.toNat]? else none) with | some v => if srtA 7 v = true then some v else none | none => none) = _
   rw [if_pos (by omega), List.getElem?_eq_getElem hlt]
   simp only
   rw [if_pos (h3 _ (List.getElem_mem hlt))]
  rw [den, denA, denL, hd, denL]
  rfl
 ·simp at hy
noncomputable def rulesR : Rul := catR [ruleB, ruleY, ruleW]
theorem rulesR_ok {m : Mu} (hm : Glob m) : RulOk m rulesR := catR_ok fun r hr => by
 simp only [List.mem_cons, List.not_mem_nil, or_false] at hr
 rcases hr with rfl | rfl | rfl
 ·exact ruleB_ok hm
 ·exact ruleY_ok hm
 ·exact ruleW_ok
noncomputable def rgT : List Rg := [⟨65731, 0, 15⟩, ⟨65747, 0, 2⟩, ⟨65763, 0, 1⟩, ⟨65779, 0, 4095⟩, ⟨65795, 0, 10⟩, ⟨65843, 0, 1⟩]
noncomputable def rulesA : Rul := catR [ruleP, ruleZ, ruleI, ruleF, ruleS, ruleL, rngR rgT, ruleB, ruleY, ruleK]
theorem rulesA_ok {m : Mu} (hm : Glob m) : RulOk m rulesA := catR_ok fun r hr => by
 simp only [List.mem_cons, List.not_mem_nil, or_false] at hr
 rcases hr with rfl | rfl | rfl | rfl | rfl | rfl | rfl | rfl | rfl | rfl
 ·exact ruleP_ok hm
 ·exact ruleZ_ok hm
 ·exact ruleI_ok hm
 ·exact ruleF_ok hm
 ·exact ruleS_ok hm
 ·exact ruleL_ok hm
 ·exact rngR_ok (rgTab hm)
 ·exact ruleB_ok hm
 ·exact ruleY_ok hm
 ·exact ruleK_ok hm
noncomputable def mkR : Facts → Value → Option Bool := dec1 (orM (ruleM (dec1 anyM) rulesR) anyM)
theorem mkR_ok {m : Mu} (hm : Glob m) : MkOk m mkR := dec1_ok (orM_ok (ruleM_ok (dec1_ok (anyM_ok hm.tx)) (rulesR_ok hm)) (anyM_ok hm.tx))
end Go.Proofs.YteglommbdpaokaaGreat
