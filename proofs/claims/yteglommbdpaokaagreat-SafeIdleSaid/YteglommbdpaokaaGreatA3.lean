/- Arenas' words: rules: what an element of a list of words means. -/
import Derived.Test.YteglommbdpaokaaGreatA2
set_option linter.unusedSimpArgs false
set_option linter.unusedVariables false
namespace Go.Proofs.YteglommbdpaokaaGreat
open Go Go.Gz Go.RowKit
noncomputable def srcC (X : Value) : Option Cd :=
 match X with
 | .func (.methodOf op nm) ⟨[sl, z]⟩ c => cnd (Nat.beq op 877) (match z with
   | .int k q => cnd (decide (q = 7)) (some ⟨[], [(.func (.methodOf 1016 "") ⟨[.func (.methodOf op nm) ⟨[sl, .int k q]⟩ c]⟩ #[], true)], true⟩) none
   | _ => none) none
 | .func (.methodOf op _) ⟨[T, S, sl]⟩ _ => cnd (Nat.beq op 66093) (some ⟨[], [(sy 65560 [T, S, sl], true), (sy 65544 [sl], true)], true⟩) none
 | _ => none
noncomputable def arrC (n : Value) : Nat → Value → Option Cd :=
 @Nat.rec (fun _ => Value → Option Cd) (fun _ => none) (fun _ rec X => match X with
  | .func (.methodOf op _) ⟨[u, x, y]⟩ _ => match rec u with
    | some ⟨t, g, _⟩ => cnd (Nat.beq op 829) (some ⟨(y, 7) :: t, (sy 200 [x, .int .i64 0], false) :: (sy 200 [x, n], true) :: g, true⟩)
      (cnd (Nat.beq op 861) (match srcC y with
       | some ⟨_, g', _⟩ => some ⟨t, (sy 200 [x, .int .i64 0], false) :: (sy 248 [n, x], true) :: (g' ++ g), true⟩
       | none => none) none)
    | none => none
  | .func (.methodOf op _) ⟨[k, z]⟩ _ => cnd (Nat.beq op 845 && veq 1000 k n) (some ⟨[(z, 7)], [(sy 200 [n, .int .i64 0], false)], true⟩) none
  | _ => none)
def Arr (m : Mu) (X n : Value) : Prop := ∃ l N, den m X = some (.agg ⟨l⟩) ∧ den m n = some (.int .i64 N) ∧ 0 ≤ N ∧ l.length = N.toNat ∧ ∀ v ∈ l, srtA 7 v = true
theorem srcC_ok {m : Mu} (hm : Glob m) {X : Value} {t : List (Value × Nat)} {g : Facts} {b : Bool} (h : srcC X = some ⟨t, g, b⟩) (hG : Holds m g) : ∃ l, den m X = some (.agg ⟨l⟩) ∧ ∀ v ∈ l, srtA 7 v = true := by
 unfold srcC at h
 split at h
 ·rename_i op nm sl z c
  rw [zaa] at h
  split at h
  ·rename_i ho
   have ho := zad ho
   subst ho
   split at h
   ·rename_i k q
    rw [zaa] at h
    split at h
    ·rename_i hq
     have hq := of_decide_eq_true hq
     subst hq
     cases h
     have h1 := hG _ _ List.mem_cons_self
     obtain ⟨v, hv⟩ := Option.isSome_iff_exists.1 (den_D h1).symm
     obtain ⟨vx, vy, g1, g2, g3⟩ := den_2I (by decide) hv
     rw [den] at g2
     cases g2
     have g3 : (match heldI m vx (.int k 7) with | some v => if srtA 13 v = true then some v else none | none => none) = some v := g3
     split at g3
     ·rename_i w hw
      split at g3
      ·cases g3
       unfold heldI at hw
       split at hw
       ·split at hw
        ·cases hw
         exact ⟨[], hv, fun u hu => by cases hu⟩
        ·split at hw
         ·simp only at hw
          split at hw
          ·split at hw
           ·rename_i hc
            cases hw
            refine ⟨_, hv, fun u hu => ?_⟩
            exact zaq (List.all_eq_true.1 hc.2 u hu)
           ·cases hw
          ·cases hw
         ·cases hw
       ·cases hw
      ·cases g3
     ·cases g3
    ·cases h
   ·cases h
  ·cases h
 ·rename_i op nm T S sl c
  rw [zaa] at h
  split at h
  ·rename_i ho
   have ho := zad ho
   subst ho
   cases h
   obtain ⟨kT, t, kS, s, p, k, c', g1, g2, g3, g4⟩ := plan_yes hm (hG _ _ List.mem_cons_self)
   have f2 := hG (sy 65544 [sl]) true (by simp)
   rw [show sy 65544 [sl] = .func (.methodOf 65544 "") ⟨[sl]⟩ #[] from rfl, den_1 (by decide) g3] at f2
   have hfw : fewB (tl m.K p k) = true := code_bool hm f2 (by decide) (by decide) rfl rfl
   have hb := okPlan_b g4
   have hss : (firstT m.K p k).size ≤ 20 := by
    unfold firstT
    simp only [fewB, Bool.and_eq_true] at hfw
    cases hl : tl m.K p k with
    | nil => exact Nat.zero_le _
    | cons a l =>
      rw [hl] at hfw
      have := List.all_eq_true.1 hfw.2 a List.mem_cons_self
      simpa using this
   refine ⟨(stCells t s (firstT m.K p k) (firstT m.K p k).size).drop (3 + 2 * t).toNat, ?_, ?_⟩
   ·rw [den_3 (by decide) g1 g2 g3]
    exact code_val hm (by decide) (by decide) rfl rfl
   ·intro v hv
    have hv := List.mem_of_mem_drop hv
    simp only [stCells] at hv
    obtain ⟨q, _, rfl⟩ := List.mem_map.1 hv
    refine zaq (u64S ?_)
    unfold stAt
    split
    ·omega
    ·split
     ·decide
     ·split <;> decide
  ·cases h
 ·cases h
theorem arrC_ok {m : Mu} (hm : Glob m) {n : Value} : ∀ (f : Nat) {X : Value} {t : List (Value × Nat)} {g : Facts} {b : Bool}, arrC n f X = some ⟨t, g, b⟩ → Typed m t → Holds m g → Arr m X n
 | 0, _, _, _, _, h, _, _ => by cases h
 | f + 1, X, t, g, b, h, ht, hG => by
   have ih := @arrC_ok m hm n f
   replace h : (match (generalizing := false) X with
    | .func (.methodOf op _) ⟨[u, x, y]⟩ _ => match arrC n f u with
      | some ⟨t, g, _⟩ => cnd (Nat.beq op 829) (some ⟨(y, 7) :: t, (sy 200 [x, .int .i64 0], false) :: (sy 200 [x, n], true) :: g, true⟩)
        (cnd (Nat.beq op 861) (match srcC y with
         | some ⟨_, g', _⟩ => some ⟨t, (sy 200 [x, .int .i64 0], false) :: (sy 248 [n, x], true) :: (g' ++ g), true⟩
         | none => none) none)
      | none => none
    | .func (.methodOf op _) ⟨[k, z]⟩ _ => cnd (Nat.beq op 845 && veq 1000 k n) (some ⟨[(z, 7)], [(sy 200 [n, .int .i64 0], false)], true⟩) none
    | _ => none) = some (⟨t, g, b⟩ : Cd) := h
   split at h
   ·rename_i op nm u x y c
    split at h
    ·rename_i t1 g1 b1 hu
     rw [zaa] at h
     split at h
     ·rename_i ho
      have ho := zad ho
      subst ho
      cases h
      obtain ⟨l, N, e1, e2, e3, e4, e5⟩ := ih hu (fun z hz => ht z (List.mem_cons_of_mem _ hz)) (fun c b hc => hG c b (List.mem_cons_of_mem _ (List.mem_cons_of_mem _ hc)))
      obtain ⟨v, hv, sv⟩ := ht _ List.mem_cons_self
      obtain ⟨k1, a, n1, q1, q2, q3⟩ := lss_inv (hG (sy 200 [x, .int .i64 0]) false (by simp))
      obtain ⟨k2, a', n2, r1, r2, r3⟩ := lss_inv (hG (sy 200 [x, n]) true (by simp))
      rw [den] at q2
      cases q2
      rw [q1] at r1
      cases r1
      rw [e2] at r2
      cases r2
      have z1 := of_decide_eq_false q3.symm
      have z2 := of_decide_eq_true r3.symm
      refine ⟨l.set a.toNat v, N, ?_, e2, e3, by rw [List.length_set, e4], fun w hw => ?_⟩
      ·simp only at hv
       rw [den_3 (by decide) e1 q1 hv]
       show (match (if 0 ≤ a ∧ a.toNat < l.length then some (Value.agg ⟨l.set a.toNat v⟩) else none) with | some v => if srtA 13 v = true then some v else none | none => none) = _
       rw [if_pos ⟨by omega, by omega⟩]
       rfl
      ·rcases List.mem_or_eq_of_mem_set hw with hw | rfl
       ·exact e5 _ hw
       ·exact sv
     ·rw [zaa] at h
      split at h
      ·rename_i ho
       have ho := zad ho
       subst ho
       split at h
       ·rename_i t2 g2 b2 hs
        cases h
        obtain ⟨l, N, e1, e2, e3, e4, e5⟩ := ih hu ht (fun c b hc => hG c b (List.mem_cons_of_mem _ (List.mem_cons_of_mem _ (List.mem_append_right _ hc))))
        obtain ⟨r, d1, d2⟩ := srcC_ok hm hs (fun c b hc => hG c b (List.mem_cons_of_mem _ (List.mem_cons_of_mem _ (List.mem_append_left _ hc))))
        obtain ⟨k1, a, n1, q1, q2, q3⟩ := lss_inv (hG (sy 200 [x, .int .i64 0]) false (by simp))
        obtain ⟨k2, a', n2, r1, r2, r3⟩ := geq_inv (hG (sy 248 [n, x]) true (by simp))
        rw [den] at q2
        cases q2
        rw [q1] at r2
        cases r2
        rw [e2] at r1
        cases r1
        have z1 := of_decide_eq_false q3.symm
        have z2 := of_decide_eq_true r3.symm
        refine ⟨l.take a.toNat ++ (r.take (l.length - a.toNat) ++ l.drop (a.toNat + r.length)), N, ?_, e2, e3, ?_, fun w hw => ?_⟩
        ·rw [den_3 (by decide) e1 q1 d1]
         show (match (if 0 ≤ a ∧ a.toNat ≤ l.length then some (Value.agg ⟨l.take a.toNat ++ (r.take (l.length - a.toNat) ++ l.drop (a.toNat + r.length))⟩) else none) with | some v => if srtA 13 v = true then some v else none | none => none) = _
         rw [if_pos ⟨by omega, by omega⟩]
         rfl
        ·rw [List.length_append, List.length_append, List.length_take, List.length_take, List.length_drop]
         omega
        ·rcases List.mem_append.1 hw with hw | hw
         ·exact e5 _ (List.mem_of_mem_take hw)
         ·rcases List.mem_append.1 hw with hw | hw
          ·exact d2 _ (List.mem_of_mem_take hw)
          ·exact e5 _ (List.mem_of_mem_drop hw)
       ·cases h
      ·cases h
    ·cases h
   ·rename_i op nm k z c
    rw [zaa] at h
    split at h
    ·rename_i ho
     obtain ⟨o1, o2⟩ := zac ho
     have o1 := zad o1
     have o2 := veq_eq _ _ _ o2
     subst o1 o2
     cases h
     obtain ⟨v, hv, sv⟩ := ht _ List.mem_cons_self
     obtain ⟨k1, a, n1, q1, q2, q3⟩ := lss_inv (hG (sy 200 [k, .int .i64 0]) false (by simp))
     rw [den] at q2
     cases q2
     have z1 := of_decide_eq_false q3.symm
     refine ⟨List.replicate a.toNat v, a, ?_, q1, by omega, List.length_replicate, fun w hw => ?_⟩
     ·simp only at hv
      rw [zau (by decide) q1 hv]
      show (match (if 0 ≤ a then some (Value.agg ⟨List.replicate a.toNat v⟩) else none) with | some v => if srtA 13 v = true then some v else none | none => none) = _
      rw [if_pos (by omega)]
      rfl
     ·rw [(List.mem_replicate.1 hw).2]
      exact sv
    ·cases h
   ·cases h
noncomputable def ruleX : Rul := fun _ c =>
 match c with
 | .func (.methodOf 1016 _) ⟨[X]⟩ _ => match arrC (lenGT 200 X) 200 X with
   | some ⟨t, g, _⟩ => [⟨t, g, true⟩]
   | none => []
 | _ => []
theorem ruleX_ok {m : Mu} (hm : Glob m) : RulOk m ruleX := by
 intro Γ c y hy hty hG
 unfold ruleX at hy
 split at hy
 ·rename_i nm X k
  split at hy
  ·rename_i t g b hX
   have hy := List.mem_singleton.1 hy
   subst hy
   obtain ⟨l, N, e1, _⟩ := arrC_ok hm 200 hX hty hG
   rw [den, denA, denL, e1, denL]
   rfl
  ·simp at hy
 ·simp at hy
noncomputable def ruleG : Rul := fun _ c =>
 match c with
 | .func (.methodOf 1016 _) ⟨[.func (.methodOf 791 _) ⟨[X, i]⟩ _]⟩ _ => match arrC (lenGT 200 X) 200 X with
   | some ⟨t, g, _⟩ => [⟨t, (sy 200 [i, .int .i64 0], false) :: (sy 200 [i, lenGT 200 X], true) :: g, true⟩]
   | none => []
 | _ => []
theorem ruleG_ok {m : Mu} (hm : Glob m) : RulOk m ruleG := by
 intro Γ c y hy hty hG
 unfold ruleG at hy
 split at hy
 ·rename_i nm nm2 X i k k2
  split at hy
  ·rename_i t g b hX
   have hy := List.mem_singleton.1 hy
   subst hy
   obtain ⟨l, N, e1, e2, e3, e4, e5⟩ := arrC_ok hm 200 hX hty (fun c b hc => hG c b (List.mem_cons_of_mem _ (List.mem_cons_of_mem _ hc)))
   obtain ⟨k1, a, n1, q1, q2, q3⟩ := lss_inv (hG (sy 200 [i, .int .i64 0]) false (by simp))
   obtain ⟨k3, a', n', r1, r2, r3⟩ := lss_inv (hG (sy 200 [i, lenGT 200 X]) true (by simp))
   rw [den] at q2
   cases q2
   rw [q1] at r1
   cases r1
   rw [e2] at r2
   cases r2
   have z1 := of_decide_eq_false q3.symm
   have z2 := of_decide_eq_true r3.symm
   have hlt : a.toNat < l.length := by omega
   have hd : den m (.func (.methodOf 791 nm2) ⟨[X, i]⟩ k) = some (l[a.toNat]) := by
    rw [zau (by decide) e1 q1]
    show (match (if 0 ≤ a then l[a.toNat]? else none) with | some v => if srtA 7 v = true then some v else none | none => none) = _
    rw [if_pos (by omega), List.getElem?_eq_getElem hlt]
    simp only
    rw [if_pos (e5 _ (List.getElem_mem hlt))]
   rw [den, denA, denL, hd, denL]
   rfl
  ·simp at hy
 ·simp at hy
end Go.Proofs.YteglommbdpaokaaGreat
