/- The evaluator that the kernel runs: all ways that a run may go, where what is asked is not known; what they come to. -/
import Derived.Test.YteglommbdpaokaaGreatGzZ
namespace Go.Gz
open Go Go.Gx Go.RowKit
noncomputable def wtBin (dec : Value → Option Bool) (c s : Nat) (y : Value) (s1 s2 : Nat) : Bool :=
 match codeBin c with
 | some op => cnd (isCmp op) (cnd (Nat.beq s1 s2 && Nat.beq s 8) (cnd (Nat.blt s1 8) true (Nat.ble 16 c && (Nat.beq s1 8 || Nat.beq s1 9))) false)
   (cnd (Nat.beq s s1 && Nat.blt s1 8) (cnd (isTot op) (Nat.beq s1 s2) (cnd (isShift op)
    (match y with
    | .int _ b => Nat.blt s2 8 && !decide (b < 0)
    | _ => false)
    (match y with
    | .int _ b => Nat.beq s1 s2 && !decide (b = 0)
    | y => match codeK s2 with
      | some k => Nat.beq s1 s2 && (match dec (sy (opc 16 8) [y, .int k 0]) with
        | some b => !b
        | none => false)
      | none => false))) false)
 | none => cnd (Nat.beq c 21) (Nat.beq s 8 && (Nat.beq s1 8 && Nat.beq s2 8)) false
noncomputable def wtOp (dec : Value → Option Bool) (op : Nat) (l : List Value) (ss : List Nat) : Bool :=
 match Nat.div op 16, Nat.mod op 16 with
 | c, s => cnd (Nat.ble 64 c) (Nat.ble s 13)
   (match l, ss with
   | [_], [s1] => cnd (Nat.beq c 18) (Nat.beq s1 8 && Nat.beq s 8) (cnd (Nat.beq c 19) (Nat.beq s s1 && Nat.blt s 8) (cnd (Nat.beq c 20) (Nat.blt s1 8 && Nat.blt s 8) (cnd (Nat.beq c 42) (Nat.beq s1 11 && Nat.beq s 3) false)))
   | [_, _, _], [s1, s2, s3] => Nat.beq c 56 && (Nat.beq s1 8 && (Nat.beq s2 s && Nat.beq s3 s))
   | [_, y], [s1, s2] => cnd (Nat.beq c 47) (Nat.beq s1 13 && (Nat.beq s2 13 && Nat.beq s 13)) (wtBin dec c s y s1 s2)
   | _, _ => false)
noncomputable def sure (dec : Value → Option Bool) (v : Value) (s : Nat) : Option Nat :=
 match dec (sy (opc 63 8) [v]) with
 | some b => cnd b (some s) none
 | none => none
noncomputable def wtL (f : Value → Option Nat) : List Value → Option (List Nat)
 | [] => some []
 | v :: l => match f v with
   | some s => match wtL f l with
     | some r => some (s :: r)
     | none => none
   | none => none
noncomputable def wt (dec : Value → Option Bool) : Nat → Value → Option Nat :=
 @Nat.rec (fun _ => Value → Option Nat) (fun _ => none) (fun _ rec v => match v with
  | .int k n => cnd (wfK k n) (some (kCode k)) none
  | .bool _ => some 8
  | .string _ => some 9
  | .func (.methodOf op nm) a c => cnd (Nat.beq op 1016) (some 8) (match wtL rec a.toList with
    | some ss => cnd (wtOp dec op a.toList ss) (some (Nat.mod op 16)) (sure dec (.func (.methodOf op nm) a c) (Nat.mod op 16))
    | none => none)
  | .agg a => match wtL rec a.toList with
    | some _ => some 13
    | none => none
  | _ => none)
theorem codeBin_inv {c : Nat} {op : BinOp} (h : codeBin c = some op) : c = binCode op := by
 unfold codeBin at h
 split at h <;> cases h <;> rfl
theorem srtA_or {s : Nat} {v : Value} (h : srtA s v = true) : s = 13 ∨ srt s v = true := by
 by_cases hs : s = 13
 ·exact .inl hs
 ·exact .inr (zat hs h)
theorem srt_dflt {s : Nat} (h : s ≤ 13) : srtA s (dflt s) = true := by
 have : s = 0 ∨ s = 1 ∨ s = 2 ∨ s = 3 ∨ s = 4 ∨ s = 5 ∨ s = 6 ∨ s = 7 ∨ s = 8 ∨ s = 9 ∨ s = 10 ∨ s = 11 ∨ s = 12 ∨ s = 13 := by omega
 rcases this with rfl | rfl | rfl | rfl | rfl | rfl | rfl | rfl | rfl | rfl | rfl | rfl | rfl | rfl <;> first | rfl | (simp [dflt, codeK, cnd, srtA, srt, kCode, wfK]; decide)
theorem srt_fix {s : Nat} (h : s ≤ 13) (v : Value) : srtA s (fixS s v) = true := by
 unfold fixS
 split
 ·assumption
 ·exact srt_dflt h
abbrev Facts := List (Value × Bool)
def Holds (m : Mu) (Γ : Facts) : Prop := ∀ c b, (c, b) ∈ Γ → den m c = some (.bool b)
section
variable {m : Mu} {dec : Value → Option Bool} (hdec : ∀ c b, dec c = some b → den m c = some (.bool b))
include hdec
theorem wtBin_ok {c s s1 s2 : Nat} {y x' y' : Value} (hy : den m y = some y') (h1 : srt s1 x' = true) (h2 : srt s2 y' = true) (h : wtBin dec c s y s1 s2 = true) : ∃ v, stdI m c s [x', y'] = some v ∧ srt s v = true := by
 unfold wtBin at h
 split at h
 ·rename_i op hop
  have hc := codeBin_inv hop
  subst hc
  rw [stdI2]
  rw [zaa] at h
  split at h
  ·rename_i hcmp
   rw [zaa] at h
   split at h
   ·rename_i hss
    simp only [Bool.and_eq_true] at hss
    have e1 := zad hss.1
    have e2 := zad hss.2
    subst e1 e2
    rw [zaa] at h
    split at h
    ·rename_i h8
     obtain ⟨k, i, rfl, hk, _⟩ := srt_num (blt_lt h8) h1
     obtain ⟨k', j, rfl, hk', _⟩ := srt_num (blt_lt h8) h2
     rw [hk] at hk'
     have := kCode_inj hk'; subst this
     obtain ⟨hsh, r, hr⟩ := intBin_cmp (k := k) (a := i) (b := j) hcmp
     exact ⟨.bool r, by simp only [zag, hsh, Bool.false_eq_true, if_false, kEq_refl, if_true, hr], rfl⟩
    ·simp only [Bool.and_eq_true, Bool.or_eq_true] at h
     have h16 := zaw h.1
     have hop : op = .eql ∨ op = .neq := by cases op <;> first | exact .inl rfl | exact .inr rfl | (exfalso; revert h16; decide)
     rcases h.2 with h8 | h9
     ·rw [zad h8] at h1 h2
      obtain ⟨i, rfl⟩ := srt_bool h1
      obtain ⟨j, rfl⟩ := srt_bool h2
      rcases hop with rfl | rfl <;> exact ⟨_, rfl, rfl⟩
     ·rw [zad h9] at h1 h2
      obtain ⟨i, rfl⟩ := srt_text h1
      obtain ⟨j, rfl⟩ := srt_text h2
      rcases hop with rfl | rfl <;> exact ⟨_, rfl, rfl⟩
   ·cases h
  ·rw [zaa] at h
   split at h
   ·rename_i hss
    simp only [Bool.and_eq_true] at hss
    have e1 := zad hss.1
    have h8 := blt_lt hss.2
    subst e1
    obtain ⟨k, i, rfl, hk, hwi⟩ := srt_num h8 h1
    rw [zaa] at h
    split at h
    ·rename_i htot
     have e2 := zad h
     subst e2
     obtain ⟨k', j, rfl, hk', _⟩ := srt_num h8 h2
     rw [hk] at hk'
     have := kCode_inj hk'; subst this
     obtain ⟨hsh, r, hr, hw⟩ := intBin_tot (k := k) (a := i) (b := j) htot
     exact ⟨.int k r, by simp only [zag, hsh, Bool.false_eq_true, if_false, kEq_refl, if_true, hr], by rw [hk]; exact zav hw⟩
    ·rw [zaa] at h
     split at h
     ·rename_i hsh
      split at h
      ·rename_i k' j
       rw [den] at hy
       cases hy
       simp only [Bool.and_eq_true, Bool.not_eq_true', decide_eq_false_iff_not] at h
       have hj := h.2
       have hr : ∃ r, shBin op k i j = some (.int k r) ∧ wfK k r = true := by
        cases op <;> first | (cases hsh; done) | skip
        ·exact ⟨_, by unfold shBin; exact if_neg hj, wfK_wrap _ _⟩
        ·exact ⟨_, by unfold shBin; exact if_neg hj, wfK_fdiv hwi _⟩
       obtain ⟨r, h3, h4⟩ := hr
       exact ⟨.int k r, by simp only [zag, hsh, if_true, h3], by rw [hk]; exact zav h4⟩
      ·cases h
     ·rename_i hcmp htot hsh
      have hop : op = .quo ∨ op = .rem := by
       cases op <;> first | exact .inl rfl | exact .inr rfl | exact absurd rfl hcmp | exact absurd rfl htot | exact absurd rfl hsh
      have core : ∀ j k', y' = .int k' j → s = s2 → j ≠ 0 → ∃ v, zag op (.int k i) y' = some v ∧ srt s v = true := by
       rintro j k' rfl rfl hj
       obtain ⟨k2, j2, h3, hk', _⟩ := srt_num h8 h2
       cases h3
       rw [hk] at hk'
       have := kCode_inj hk'; subst this
       have hr : ∃ r, zao op k i j = some (.int k r) ∧ wfK k r = true := by
        rcases hop with rfl | rfl
        ·exact ⟨_, by unfold zao; exact if_neg hj, wfK_wrap _ _⟩
        ·exact ⟨_, by unfold zao; exact if_neg hj, wfK_tmod hwi _⟩
       obtain ⟨r, h3, h4⟩ := hr
       have hsf : isShift op = false := by simpa using hsh
       exact ⟨.int k r, by simp only [zag, hsf, Bool.false_eq_true, if_false, kEq_refl, if_true, h3], by rw [hk]; exact zav h4⟩
      split at h
      ·rename_i k' j
       rw [den] at hy
       cases hy
       simp only [Bool.and_eq_true, Bool.not_eq_true', decide_eq_false_iff_not] at h
       exact core j k' rfl (zad h.1) h.2
      ·split at h
       ·rename_i k0 hk0
        simp only [Bool.and_eq_true] at h
        obtain ⟨ha, hb⟩ := h
        have e2 := zad ha
        split at hb
        ·rename_i b hd
         have hb' : b = false := by simpa using hb
         subst hb'
         obtain ⟨k', j, rfl, hk', _⟩ := srt_num (e2 ▸ h8) h2
         refine core j k' rfl e2 ?_
         rintro rfl
         have := codeK_some hk0
         rw [hk'] at this
         have := kCode_inj this; subst this
         have hq : den m (sy (opc 16 8) [y, .int k' 0]) = some (.bool true) := den_sy (by decide) (by decide) (denL2 (y' := .int k' 0) hy (by simp [den])) (by show stdI _ (binCode .eql) 8 _ = _; rw [stdI2]; simp [zag, isShift, zao, kEq_refl]) rfl
         have := hdec _ _ hd
         rw [hq] at this
         cases this
        ·cases hb
       ·cases h
   ·cases h
 ·rename_i hop
  rw [zaa] at h
  split at h
  ·rename_i hc
   have hc := zad hc
   subst hc
   simp only [Bool.and_eq_true] at h
   rw [zad h.1]
   rw [zad h.2.1] at h1
   rw [zad h.2.2] at h2
   obtain ⟨i, rfl⟩ := srt_bool h1
   obtain ⟨j, rfl⟩ := srt_bool h2
   exact ⟨_, rfl, rfl⟩
  ·cases h
def Srts : List Nat → List Value → Prop
 | [], [] => True
 | s :: ss, v :: l => srtA s v = true ∧ Srts ss l
 | _, _ => False
omit hdec in
theorem srt_list {v : Value} (h : srtA 13 v = true) : ∃ l, v = .agg l := by
 cases v with
 | agg l => exact ⟨l, rfl⟩
 | int k n =>
   have h : cnd (Nat.beq 13 (kCode k)) (wfK k n) (Nat.beq 13 12) = true := h
   cases k <;> cases h
 | pointer p => cases p <;> cases h
 | _ => cases h
omit hdec in
theorem of_len {n : Nat} (h : n < 9223372036854775808) : wfK .i64 n = true := by
 rw [wfK_iff]; simp only; omega
theorem wtOp_ok {op : Nat} {l l' : List Value} {ss : List Nat} (hl : denL m l = some l') (hs : Srts ss l') (h : wtOp dec op l ss = true) : ∃ v, itp m op l' = some v := by
 unfold wtOp at h
 have e1 : Nat.div op 16 = op / 16 := rfl
 have e2 : Nat.mod op 16 = op % 16 := rfl
 simp only [e1, e2] at h
 rw [zaa] at h
 have fin : ∀ v, stdI m (op / 16) (op % 16) l' = some v → srt (op % 16) v = true → op / 16 < 64 → ∃ v, itp m op l' = some v := by
  intro v h1 h2 h3
  exact ⟨v, by unfold itp; rw [if_pos h3, h1]; exact if_pos (zaq h2)⟩
 split at h
 ·rename_i h64
  have h64 := zaw h64
  have h12 := zaw h
  refine ⟨fixS (op % 16) (m.I op l'), ?_⟩
  unfold itp
  rw [if_neg (by omega)]
  simp only
  rw [if_pos (srt_fix h12 _)]
 ·rename_i h64
  have h64 : op / 16 < 64 := by
   rcases Nat.lt_or_ge (op / 16) 64 with h | h
   ·exact h
   ·exact absurd (by rw [Nat.ble_eq]; exact h) h64
  split at h
  ·rename_i x s1
   simp only [denL] at hl
   cases hx : den m x with
   | none => rw [hx] at hl; cases hl
   | some x' =>
     rw [hx] at hl
     cases hl
     obtain ⟨hs1, _⟩ := hs
     have hs1 := srtA_or hs1
     rw [zaa] at h
     split at h
     ·rename_i hc
      simp only [Bool.and_eq_true] at h
      have e3 := zad hc
      have e4 := zad h.1
      subst e4
      rcases hs1 with hs1 | hs1
      ·cases hs1
      obtain ⟨b, rfl⟩ := srt_bool hs1
      exact fin (.bool (!b)) (by rw [e3]; simp [stdI]) (by rw [zad h.2]; rfl) h64
     ·rw [zaa] at h
      split at h
      ·rename_i hc
       simp only [Bool.and_eq_true] at h
       have e3 := zad hc
       have e4 := zad h.1
       have h8 := blt_lt h.2
       rcases hs1 with hs1 | hs1
       ·omega
       obtain ⟨k, a, rfl, hk, _⟩ := srt_num (by omega) hs1
       exact fin (.int k (k.wrap (0 - a))) (by rw [e3]; simp [stdI]) (by rw [e4, hk]; exact zav (wfK_wrap _ _)) h64
      ·rw [zaa] at h
       split at h
       ·rename_i hc
        simp only [Bool.and_eq_true] at h
        have e3 := zad hc
        have h1 := blt_lt h.1
        have h2 := blt_lt h.2
        rcases hs1 with hs1 | hs1
        ·omega
        obtain ⟨k, a, rfl, hk, _⟩ := srt_num h1 hs1
        obtain ⟨k2, hk2⟩ : ∃ k2, op % 16 = kCode k2 := by
         generalize op % 16 = z at h2
         have : z = 0 ∨ z = 1 ∨ z = 2 ∨ z = 3 ∨ z = 4 ∨ z = 5 ∨ z = 6 ∨ z = 7 := by omega
         rcases this with rfl | rfl | rfl | rfl | rfl | rfl | rfl | rfl
         ·exact ⟨.i8, rfl⟩
         ·exact ⟨.i16, rfl⟩
         ·exact ⟨.i32, rfl⟩
         ·exact ⟨.i64, rfl⟩
         ·exact ⟨.u8, rfl⟩
         ·exact ⟨.u16, rfl⟩
         ·exact ⟨.u32, rfl⟩
         ·exact ⟨.u64, rfl⟩
        exact fin (.int k2 (k2.wrap a)) (by rw [e3, hk2]; simp [stdI, codeK_code]) (by rw [hk2]; exact zav (wfK_wrap _ _)) h64
       ·rw [zaa] at h
        split at h
        ·rename_i hc
         simp only [Bool.and_eq_true] at h
         have e3 := zad hc
         have e4 := zad h.1
         subst e4
         rcases hs1 with hs1 | hs1
         ·cases hs1
         obtain ⟨_, n, _, rfl, hn⟩ := srt_slice hs1
         exact fin (.int .i64 n) (by rw [e3]; simp [stdI]) (by rw [zad h.2]; exact zav (k := .i64) (of_len hn)) h64
        ·cases h
  ·rename_i x y z s1 s2 s3
   obtain ⟨hc, h⟩ := zac h
   obtain ⟨h1, h⟩ := zac h
   obtain ⟨h2, h3⟩ := zac h
   have e3 := zad hc
   have h1 := zad h1
   have h2 := zad h2
   have h3 := zad h3
   obtain ⟨x', y', z', g1, g2, g3, rfl⟩ := denL3_inv hl
   obtain ⟨hs1, hs2, hs3, _⟩ := hs
   subst h1 h2 h3
   obtain ⟨b, rfl⟩ := srt_bool (zat (by decide) hs1)
   refine ⟨if b = true then y' else z', ?_⟩
   unfold itp
   rw [if_pos h64, e3]
   have h4 : srtA (op % 16) (if b = true then y' else z') = true := by split <;> assumption
   show (match some (if b = true then y' else z') with
    | some v => if srtA (op % 16) v = true then some v else none
    | none => none) = _
   exact if_pos h4
  ·rename_i x y s1 s2
   simp only [denL] at hl
   cases hx : den m x with
   | none => rw [hx] at hl; cases hl
   | some x' =>
     rw [hx] at hl
     cases hy : den m y with
     | none => rw [hy] at hl; cases hl
     | some y' =>
       rw [hy] at hl
       cases hl
       obtain ⟨hs1, hs2, _⟩ := hs
       rw [zaa] at h
       split at h
       ·rename_i hc
        have e3 := zad hc
        obtain ⟨h1, h2⟩ := zac h
        obtain ⟨h2, h3⟩ := zac h2
        have h1 := zad h1
        have h2 := zad h2
        subst h1 h2
        obtain ⟨l1, rfl⟩ := srt_list hs1
        obtain ⟨l2, rfl⟩ := srt_list hs2
        refine ⟨.agg ⟨l1.toList ++ l2.toList⟩, ?_⟩
        unfold itp
        rw [if_pos h64, e3, zad h3]
        rfl
       have hs1 := srtA_or hs1
       have hs2 := srtA_or hs2
       have n1 : s1 ≠ 13 := by
        rintro rfl
        unfold wtBin at h
        split at h
        ·rw [zaa] at h
         split at h
         ·rw [zaa] at h
          split at h
          ·rw [zaa] at h
           split at h
           ·rename_i h8; cases h8
           ·simp at h
          ·cases h
         ·rw [zaa] at h
          split at h
          ·rename_i h8; simp at h8
          ·cases h
        ·rw [zaa] at h
         split at h
         ·simp at h
         ·cases h
       have n2 : s2 ≠ 13 := by
        rintro rfl
        unfold wtBin at h
        split at h
        ·rw [zaa] at h
         split at h
         ·rw [zaa] at h
          split at h
          ·rename_i hc
           simp only [Bool.and_eq_true] at hc
           exact n1 (zad hc.1)
          ·cases h
         ·rw [zaa] at h
          split at h
          ·rename_i h8
           simp only [Bool.and_eq_true] at h8
           rw [zaa] at h
           split at h
           ·exact n1 (zad h)
           ·rw [zaa] at h
            split at h
            ·split at h <;> simp at h
            ·split at h
             ·simp only [Bool.and_eq_true] at h; exact n1 (zad h.1)
             ·split at h
              ·simp only [Bool.and_eq_true] at h; exact n1 (zad h.1)
              ·cases h
          ·cases h
        ·rw [zaa] at h
         split at h
         ·simp at h
         ·cases h
       obtain ⟨v, h1, h2⟩ := wtBin_ok hdec hy (hs1.resolve_left n1) (hs2.resolve_left n2) h
       exact fin v h1 h2 h64
  ·cases h
omit hdec in
theorem wtL_ok {f : Value → Option Nat} (ih : ∀ v s, f v = some s → ∃ v', den m v = some v' ∧ srtA s v' = true) : ∀ (l : List Value) (ss : List Nat), wtL f l = some ss → ∃ l', denL m l = some l' ∧ Srts ss l'
 | [], ss, h => by cases h; exact ⟨[], by simp [denL], trivial⟩
 | v :: l, ss, h => by
   unfold wtL at h
   split at h
   ·rename_i s hs
    split at h
    ·rename_i r hr
     cases h
     obtain ⟨v', h1, h2⟩ := ih v s hs
     obtain ⟨l', h3, h4⟩ := wtL_ok ih l r hr
     exact ⟨v' :: l', by simp [denL, h1, h3], h2, h4⟩
    ·cases h
   ·cases h
theorem wt_ok : ∀ (d : Nat) (v : Value) (s : Nat), wt dec d v = some s → ∃ v', den m v = some v' ∧ srtA s v' = true
 | 0, v, s, h => by cases h
 | d + 1, v, s, h => by
   have ih := wt_ok d
   cases v with
   | int k n =>
     have h : cnd (wfK k n) (some (kCode k)) none = some s := h
     rw [zaa] at h
     split at h
     ·rename_i hw; cases h; exact ⟨.int k n, by simp [den], zaq (zav hw)⟩
     ·cases h
   | bool b => cases h; exact ⟨.bool b, by simp [den], rfl⟩
   | string b => cases h; exact ⟨.string b, by simp [den], rfl⟩
   | agg a =>
     obtain ⟨l⟩ := a
     have h : (match wtL (wt dec d) l with
      | some _ => some 13
      | none => none) = some s := h
     split at h
     ·rename_i ss hss
      cases h
      obtain ⟨l', h1, _⟩ := wtL_ok ih l ss hss
      exact ⟨.agg ⟨l'⟩, by rw [den, denA, h1], rfl⟩
     ·cases h
   | func fn a c =>
     cases fn with
     | methodOf op nm =>
       obtain ⟨l⟩ := a
       have h : cnd (Nat.beq op 1016) (some 8) (match wtL (wt dec d) l with
        | some ss => cnd (wtOp dec op l ss) (some (Nat.mod op 16)) (sure dec (.func (.methodOf op nm) ⟨l⟩ c) (Nat.mod op 16))
        | none => none) = some s := h
       rw [zaa] at h
       split at h
       ·rename_i ho
        have ho := zad ho
        cases h
        rw [den]
        cases denA m ⟨l⟩ with
        | none => exact ⟨.bool false, by simp only [if_pos ho], rfl⟩
        | some l' => exact ⟨.bool true, by simp only [if_pos ho], rfl⟩
       ·rename_i ho
        have ho : ¬ op = 1016 := fun h => ho (by rw [h]; rfl)
        split at h
        ·rename_i ss hss
         obtain ⟨l', h1, h2⟩ := wtL_ok ih l ss hss
         rw [zaa] at h
         split at h
         ·rename_i hop
          cases h
          obtain ⟨v, hv⟩ := wtOp_ok hdec h1 h2 hop
          exact ⟨v, by rw [den, denA, h1]; simp only [if_neg ho]; exact hv, itp_srt hv⟩
         ·unfold sure at h
          split at h
          ·rename_i b hb
           cases b with
           | false => cases h
           | true =>
             cases h
             have := den_D (hdec _ _ hb)
             obtain ⟨v, hv⟩ := Option.isSome_iff_exists.1 this.symm
             exact ⟨v, hv, den_srt hv⟩
          ·cases h
        ·cases h
     | _ => cases h
   | _ => cases h
end
noncomputable def expl (P : Program) (sm : Sm) (mk : Facts → Value → Option Bool) (head : S → Bool) (fuel : Nat) : Nat → Facts → S → List (Facts × Ans) :=
 @Nat.rec (fun _ => Facts → S → List (Facts × Ans)) (fun Γ _ => [(Γ, .out)]) (fun _ rec Γ s => match s with
  | ⟨x, mode, todo, tm, cs, n, hp⟩ => match arunS P sm fuel true ⟨x, mode, todo, tm, cs, n, hp.set 32767 (.kb (mk Γ))⟩ with
    | .need c s' => match wt (mk Γ) 1000 c with
      | some z => cnd (Nat.beq z 8) (rec ((c, true) :: Γ) s' ++ rec ((c, false) :: Γ) s') [(Γ, .bad 70 s')]
      | none => [(Γ, .bad 71 s')]
    | .stop s' => cnd (head s') [(Γ, .stop s')] (rec Γ s')
    | a => [(Γ, a)])
def MkOk (m : Mu) (mk : Facts → Value → Option Bool) : Prop := ∀ Γ, Holds m Γ → ∀ c b, mk Γ c = some b → den m c = some (.bool b)
theorem Holds.cons {m : Mu} {Γ : Facts} (h : Holds m Γ) {c : Value} {b : Bool} (hc : den m c = some (.bool b)) : Holds m ((c, b) :: Γ) := by
 intro c' b' hm
 rcases List.mem_cons.1 hm with he | hm
 ·cases he; exact hc
 ·exact h c' b' hm
section
variable {P : Program} (hP : Small P) {sm : Sm} {m : Mu} (hsm : SmOk P sm m) {mk : Facts → Value → Option Bool} (hmk : MkOk m mk) {head : S → Bool} {fuel : Nat}
include hP hsm hmk
theorem expl_goes : ∀ (d : Nat) (Γ : Facts) (s : S) (B : Base) (e : Env) (w : World) (fr : Frame) (cs' CS : List Frame), Holds m Γ → e.m = m → B.lt = true → WR P B e s.n s.hp w → RF e s.n ⟨s.x, s.mode, s.todo, s.tm⟩ fr → RFs e s.n s.cs cs' →
  ∃ r ∈ expl P sm mk head fuel d Γ s, Holds m r.1 ∧ Goes P B e s.n fr cs' CS w (bot s.x s.cs) r.2
 | 0, Γ, s, B, e, w, fr, cs', CS, hΓ, _, _, _, _, _ => ⟨(Γ, .out), List.mem_singleton.2 rfl, hΓ, trivial⟩
 | d + 1, Γ, s, B, e, w, fr, cs', CS, hΓ, hem, hl, hw, hf, hcs => by
   have ih := expl_goes d
   obtain ⟨x, mode, todo, tm, cs, n, hp⟩ := s
   have hfk := hmk Γ hΓ
   have hkb : (hp.set 32767 (.kb (mk Γ))).get 32767 = .kb (mk Γ) := hp_set_same _ _ (by omega) _
   have hw2 : WR P B e n (hp.set 32767 (.kb (mk Γ))) w := hw.kb fun c b hc => by
    unfold decH at hc
    split at hc
    ·cases hc; simp [den]
    ·rw [hkb] at hc; rw [hem]; exact hfk c b hc
   have hg := arun_goes hP hsm fuel true ⟨x, mode, todo, tm, cs, n, hp.set 32767 (.kb (mk Γ))⟩ B e w fr cs' CS hem hl hw2 hf hcs
   show ∃ r ∈ (match arunS P sm fuel true ⟨x, mode, todo, tm, cs, n, hp.set 32767 (.kb (mk Γ))⟩ with
    | .need c s' => match wt (mk Γ) 1000 c with
      | some z => cnd (Nat.beq z 8) (expl P sm mk head fuel d ((c, true) :: Γ) s' ++ expl P sm mk head fuel d ((c, false) :: Γ) s') [(Γ, .bad 70 s')]
      | none => [(Γ, .bad 71 s')]
    | .stop s' => cnd (head s') [(Γ, .stop s')] (expl P sm mk head fuel d Γ s')
    | a => [(Γ, a)]), _
   split
   ·rename_i c s' ha
    rw [ha] at hg
    split
    ·rename_i z hz
     rw [zaa]
     split
     ·rename_i h8
      obtain ⟨e1, w1, fr1, cs1, g1, g2, g3, g4, g5, g6⟩ := hg
      obtain ⟨v', hv, hs⟩ := wt_ok hfk 1000 c z hz
      rw [zad h8] at hs
      obtain ⟨b, rfl⟩ := srt_bool (zat (by decide) hs)
      have go : ∀ b', den m c = some (.bool b') → ∃ r ∈ expl P sm mk head fuel d ((c, b') :: Γ) s', Holds m r.1 ∧ Goes P B e n fr cs' CS w (bot x cs) r.2 := by
       intro b' hb'
       obtain ⟨r, k1, k2, k3⟩ := ih ((c, b') :: Γ) s' B e1 w1 fr1 cs1 CS (hΓ.cons hb') (g1.m.trans hem) hl g2 g3 g4
       rw [g5] at k3
       exact ⟨r, k1, k2, k3.trans g6 g1⟩
      obtain ⟨r, k1, k2⟩ := go b hv
      refine ⟨r, List.mem_append.2 ?_, k2⟩
      cases b
      ·exact .inr k1
      ·exact .inl k1
     ·exact ⟨(Γ, .bad 70 s'), List.mem_singleton.2 rfl, hΓ, trivial⟩
    ·exact ⟨(Γ, .bad 71 s'), List.mem_singleton.2 rfl, hΓ, trivial⟩
   ·rename_i s' ha
    rw [ha] at hg
    rw [zaa]
    split
    ·exact ⟨(Γ, .stop s'), List.mem_singleton.2 rfl, hΓ, hg⟩
    ·obtain ⟨e1, w1, fr1, cs1, g1, g2, g3, g4, g5, g6⟩ := hg
     obtain ⟨r, k1, k2, k3⟩ := ih Γ s' B e1 w1 fr1 cs1 CS hΓ (g1.m.trans hem) hl g2 g3 g4
     rw [g5] at k3
     exact ⟨r, k1, k2, k3.trans g6 g1⟩
   ·exact ⟨_, List.mem_singleton.2 rfl, hΓ, hg⟩
end
end Go.Gz
