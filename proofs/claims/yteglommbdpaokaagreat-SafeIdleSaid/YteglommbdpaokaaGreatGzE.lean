/- The evaluator that the kernel runs: one operation, part 2: what holds two values against each other. -/
import Derived.Test.YteglommbdpaokaaGreatGzD
namespace Go.Gz
open Go Go.Gx Go.RowKit
theorem bytes_toList (a b : ByteArray) : (a.data.toList == b.data.toList) = (a.toList == b.toList) := by
 rw [ByteArray.toList_eq, ByteArray.toList_eq]
theorem intBin_cmp {op : BinOp} {k : IntKind} {a b : Int} (h : isCmp op = true) : isShift op = false ∧ ∃ r, zao op k a b = some (.bool r) := by
 cases op <;> first | exact ⟨rfl, _, rfl⟩ | cases h
theorem intBin_tot {op : BinOp} {k : IntKind} {a b : Int} (h : isTot op = true) : isShift op = false ∧ ∃ n, zao op k a b = some (.int k n) ∧ wfK k n = true := by
 cases op <;> first | exact ⟨rfl, _, rfl, wfK_wrap _ _⟩ | cases h
theorem stdI2 {m : Mu} {op : BinOp} {s : Nat} {x y : Value} : stdI m (binCode op) s [x, y] = zag op x y := by
 have h : binCode op ≠ 21 := by cases op <;> decide
 have h2 : binCode op ≠ 45 := by cases op <;> decide
 have h3 : binCode op ≠ 47 := by cases op <;> decide
 have h4 : binCode op ≠ 49 := by cases op <;> decide
 have h5 : binCode op ≠ 50 := by cases op <;> decide
 have h6 : binCode op ≠ 52 := by cases op <;> decide
 have h7 : binCode op ≠ 54 := by cases op <;> decide
 have h8 : binCode op ≠ 55 := by cases op <;> decide
 simp only [stdI, if_neg h, if_neg h2, if_neg h3, if_neg h4, if_neg h5, if_neg h6, if_neg h7, if_neg h8, codeBin_code]
theorem binCode_lt (op : BinOp) : binCode op < 64 := by cases op <;> decide
theorem tmod_abs (a b : Int) : (0 ≤ a → 0 ≤ a.tmod b ∧ a.tmod b ≤ a) ∧ (a ≤ 0 → a ≤ a.tmod b ∧ a.tmod b ≤ 0) := by
 constructor
 ·intro h
  refine ⟨Int.tmod_nonneg b h, ?_⟩
  have h1 := Int.natAbs_tmod a b
  have h2 := Nat.mod_le a.natAbs b.natAbs
  have h3 := Int.tmod_nonneg b h
  omega
 ·intro h
  have h0 : 0 ≤ -a := by omega
  have h3 := Int.tmod_nonneg b h0
  rw [Int.neg_tmod] at h3
  have h1 := Int.natAbs_tmod a b
  have h2 := Nat.mod_le a.natAbs b.natAbs
  omega
theorem wfK_tmod {k : IntKind} {a : Int} (h : wfK k a = true) (b : Int) : wfK k (a.tmod b) = true := by
 rw [wfK_iff] at h ⊢
 obtain ⟨h1, h2⟩ := tmod_abs a b
 rcases Int.le_total 0 a with h0 | h0
 ·have := h1 h0
  cases k <;> simp only at h ⊢ <;> omega
 ·have := h2 h0
  cases k <;> simp only at h ⊢ <;> omega
theorem fdiv_abs (a : Int) (m : Nat) : (0 ≤ a → 0 ≤ a.fdiv (2 ^ m) ∧ a.fdiv (2 ^ m) ≤ a) ∧ (a < 0 → a ≤ a.fdiv (2 ^ m) ∧ a.fdiv (2 ^ m) < 0) := by
 have hp : (1 : Int) ≤ 2 ^ m := by
  have : (0 : Int) < 2 ^ m := Int.pow_pos (by decide)
  omega
 rw [Int.fdiv_eq_ediv_of_nonneg _ (by omega)]
 constructor
 ·intro h
  exact ⟨Int.ediv_nonneg h (by omega), Int.ediv_le_self _ h⟩
 ·intro h
  have h1 := Int.ediv_lt_of_lt_mul (a := a) (b := 0) (c := 2 ^ m) (by omega) (by omega)
  refine ⟨?_, h1⟩
  have := Int.le_ediv_iff_mul_le (a := a) (b := a) (c := 2 ^ m) (by omega)
  apply this.2
  have h2 : a * 2 ^ m ≤ a * 1 := Int.mul_le_mul_of_nonpos_left (by omega) hp
  omega
theorem wfK_fdiv {k : IntKind} {a : Int} (h : wfK k a = true) (m : Nat) : wfK k (a.fdiv (2 ^ m)) = true := by
 rw [wfK_iff] at h ⊢
 obtain ⟨h1, h2⟩ := fdiv_abs a m
 rcases Int.lt_or_le a 0 with h0 | h0
 ·have := h2 h0
  cases k <;> simp only at h ⊢ <;> omega
 ·have := h1 h0
  cases k <;> simp only at h ⊢ <;> omega
section
variable {e : Env} {n : Nat}
theorem RV.denB {c : Value} {b : Bool} (h : RV e n c (.bool b)) : Gz.den e.m c = some (.bool b) := by
 cases h with
 | plain _ h => simp [Gz.den]
 | sym _ _ _ _ _ h => exact h
theorem symInt_run {op : BinOp} {s s' : Nat} {x y x' y' v : Value} (hs : sortOf x = some s) (hs' : sortOf y = some s') (h8 : s < 8) (hx : RV e n x x') (hy : RV e n y y') (h : symInt op s s' x y = some v) :
  ∃ k i j r, x' = .int k i ∧ y' = .int k j ∧ isShift op = false ∧ zao op k i j = some r ∧ RV e n v r := by
 unfold symInt at h
 rw [zaa] at h
 split at h
 ·rename_i hss
  have hss := zad hss
  subst hss
  obtain ⟨hx1, hx2⟩ := hx.leaf hs
  obtain ⟨hy1, hy2⟩ := hy.leaf hs'
  obtain ⟨k, i, rfl, hk, hwi⟩ := srt_num h8 hx2
  obtain ⟨k', j, rfl, hk', hwj⟩ := srt_num h8 hy2
  rw [hk] at hk'
  have := kCode_inj hk'; subst this
  have hlf : ∀ op, isShift op = false → zag op (.int k i) (.int k j) = zao op k i j := by
   intro op ho; simp [zag, ho, kEq_refl]
  rw [zaa] at h
  split at h
  ·rename_i hc
   cases h
   obtain ⟨h1, r, h2⟩ := intBin_cmp (k := k) (a := i) (b := j) hc
   exact ⟨k, i, j, _, rfl, rfl, h1, h2, RV.sy (by decide) (binCode_lt _) (denL2 hx1 hy1) (by rw [stdI2, hlf _ h1, h2]) rfl⟩
  ·rw [zaa] at h
   split at h
   ·rename_i hc
    cases h
    obtain ⟨h1, r, h2, h3⟩ := intBin_tot (k := k) (a := i) (b := j) hc
    exact ⟨k, i, j, _, rfl, rfl, h1, h2, RV.sy (by omega) (binCode_lt _) (denL2 hx1 hy1) (by rw [stdI2, hlf _ h1, h2]) (by rw [hk]; exact zav h3)⟩
   ·cases h
 ·cases h
theorem symBin_run {op : BinOp} {x y x' y' v : Value} (hx : RV e n x x') (hy : RV e n y y') (h : symBin op x y = some v) :
  ∃ k i j r, x' = .int k i ∧ y' = .int k j ∧ isShift op = false ∧ zao op k i j = some r ∧ RV e n v r := by
 unfold symBin at h
 split at h
 ·rename_i s s' hs hs'
  rw [zaa] at h
  split at h
  ·rename_i h8
   simp only [Bool.and_eq_true] at h8
   exact symInt_run hs hs' (blt_lt h8.1) hx hy h
  ·cases h
 ·cases h
theorem symEq_run {lo hi : Nat} {x y x' y' v : Value} (hx : RV e n x x') (hy : RV e n y y') (h : symEq lo hi x y = some v) :
  ∃ s, lo ≤ s ∧ s ≤ hi ∧ srt s x' = true ∧ srt s y' = true ∧ ∀ r, zag .eql x' y' = some (.bool r) → RV e n v (.bool r) := by
 unfold symEq at h
 split at h
 ·rename_i s s' hs hs'
  rw [zaa] at h
  split at h
  ·rename_i hc
   simp only [Bool.and_eq_true] at hc
   obtain ⟨h1, h2, h3⟩ := hc
   have h1 := zad h1
   subst h1
   cases h
   obtain ⟨hx1, hx2⟩ := hx.leaf hs
   obtain ⟨hy1, hy2⟩ := hy.leaf hs'
   exact ⟨s, zaw h2, zaw h3, hx2, hy2, fun r hr => RV.sy (c := binCode .eql) (by decide) (binCode_lt _) (denL2 hx1 hy1) (by rw [stdI2, hr]) rfl⟩
  ·cases h
 ·cases h
theorem conjV_run {c d v : Value} {b1 b2 : Bool} (hc : RV e n c (.bool b1)) (hd : RV e n d (.bool b2)) (h : conjV c d = some v) : RV e n v (.bool (b1 && b2)) := by
 unfold conjV at h
 split at h
 ·cases h; have := hd.boolI; cases this; simpa using hc
 ·cases h; have := hd.boolI; cases this; simp; exact .plain _ rfl
 ·rw [zaa] at h
  split at h
  ·cases h
   exact RV.sy (by decide) (by decide) (denL2 hc.denB hd.denB) (by simp [stdI]) rfl
  ·cases h
end
section
variable {P : Program} (hP : Small P) {e : Env} {n : Nat} {w : World}
include hP
theorem eqfs_run {eq : TypeId → Value → Value → Option Value} {D : Nat}
  (ih : ∀ t x y c x' y', eq t x y = some c → RV e n x x' → RV e n y y' → ∃ b, (Op.equalIn D t x' y').run P w = .ok b w ∧ RV e n c (.bool b)) (xs ys : List Value) (xs' ys' : List Value) (hx : RL e n xs xs') (hy : RL e n ys ys') :
  ∀ (gs : List Field) (c : Value), (∀ f ∈ gs, f.name ≠ "_") → eqfs P eq xs ys (gs.map fun f => (f.offset, cellsOf P f.type, f.type)) = some c → ∃ b, (Op.eqFields D xs'.toArray ys'.toArray gs).run P w = .ok b w ∧ RV e n c (.bool b)
 | [], c, _, h => by simp [eqfs] at h; subst h; exact ⟨true, by simp [Op.eqFields], .plain _ rfl⟩
 | f :: gs, c, hn, h => by
   simp only [List.map_cons, eqfs] at h
   have hr := fun c => eqfs_run ih xs ys xs' ys' hx hy gs c (fun g hg => hn g (List.mem_cons_of_mem _ hg))
   split at h
   ·rename_i u v hu hv
    obtain ⟨u', h1, h2, _⟩ := partv_run hP hx hu w
    obtain ⟨v', h3, h4, _⟩ := partv_run hP hy hv w
    simp only [Op.eqFields, hn f (by simp), ne_eq, not_false_eq_true, if_true, Sem.run_bind, h1, h3, Result.andThen_ok]
    split at h
    ·rename_i hq
     obtain ⟨b, hb, hrv⟩ := ih _ _ _ _ _ _ hq h2 h4
     have := hrv.boolI; cases this
     obtain ⟨b2, hb2, hrv2⟩ := hr _ h
     rw [hb]
     exact ⟨b2, by simpa using hb2, hrv2⟩
    ·rename_i hq
     cases h
     obtain ⟨b, hb, hrv⟩ := ih _ _ _ _ _ _ hq h2 h4
     have := hrv.boolI; cases this
     rw [hb]
     exact ⟨false, by simp, .plain _ rfl⟩
    ·rename_i c0 _ _ hq
     obtain ⟨b, hb, hrv⟩ := ih _ _ _ _ _ _ hq h2 h4
     split at h
     ·rename_i d hd
      obtain ⟨b2, hb2, hrv2⟩ := hr _ hd
      rw [hb]
      refine ⟨b && b2, ?_, conjV_run hrv hrv2 h⟩
      cases b
      ·simp
      ·simpa using hb2
     ·cases h
    ·cases h
   ·cases h
theorem eqas_run {eq : TypeId → Value → Value → Option Value} {D : Nat}
  (ih : ∀ t x y c x' y', eq t x y = some c → RV e n x x' → RV e n y y' → ∃ b, (Op.equalIn D t x' y').run P w = .ok b w ∧ RV e n c (.bool b)) (t : TypeId) (z : Nat) (xs ys : List Value) (xs' ys' : List Value) (hx : RL e n xs xs') (hy : RL e n ys ys') :
  ∀ (k i : Nat) (c : Value), eqas P eq t z xs ys i k = some c → ∃ b, (Op.eqItems D t z xs'.toArray ys'.toArray (List.range' i k)).run P w = .ok b w ∧ RV e n c (.bool b)
 | 0, i, c, h => by simp [eqas] at h; subst h; exact ⟨true, by simp [Op.eqItems], .plain _ rfl⟩
 | k + 1, i, c, h => by
   simp only [eqas] at h
   have hr := fun c => eqas_run ih t z xs ys xs' ys' hx hy k (i + 1) c
   rw [List.range'_succ]
   split at h
   ·rename_i u v hu hv
    obtain ⟨u', h1, h2, _⟩ := partv_run hP hx hu w
    obtain ⟨v', h3, h4, _⟩ := partv_run hP hy hv w
    simp only [Op.eqItems, Sem.run_bind, h1, h3, Result.andThen_ok]
    split at h
    ·rename_i hq
     obtain ⟨b, hb, hrv⟩ := ih _ _ _ _ _ _ hq h2 h4
     have := hrv.boolI; cases this
     obtain ⟨b2, hb2, hrv2⟩ := hr _ h
     rw [hb]
     exact ⟨b2, by simpa using hb2, hrv2⟩
    ·rename_i hq
     cases h
     obtain ⟨b, hb, hrv⟩ := ih _ _ _ _ _ _ hq h2 h4
     have := hrv.boolI; cases this
     rw [hb]
     exact ⟨false, by simp, .plain _ rfl⟩
    ·rename_i c0 _ _ hq
     obtain ⟨b, hb, hrv⟩ := ih _ _ _ _ _ _ hq h2 h4
     split at h
     ·rename_i d hd
      obtain ⟨b2, hb2, hrv2⟩ := hr _ hd
      rw [hb]
      refine ⟨b && b2, ?_, conjV_run hrv hrv2 h⟩
      cases b
      ·simp
      ·simpa using hb2
     ·cases h
    ·cases h
   ·cases h
theorem eqv_run : ∀ (d D : Nat) (t : TypeId) (x y : Value) (c : Value) (x' y' : Value), eqv P d t x y = some c → RV e n x x' → RV e n y y' → ∃ b, (Op.equalIn (D + d) t x' y').run P w = .ok b w ∧ RV e n c (.bool b)
 | 0, _, _, _, _, _, _, _, h, _, _ => by simp [eqv] at h
 | d + 1, D, t, x, y, c, x', y', h, hx, hy => by
   unfold eqv at h
   split at h
   ·rename_i sz ag z kd hti
    have hti' := zam hP hti
    obtain ⟨i, dd, zz, hi, hd, hz, _, _, hag, hk⟩ := zai hti'
    have ih := fun t x y c x' y' => eqv_run d D t x y c x' y'
    rw [show D + (d + 1) = (D + d) + 1 by omega]
    unfold eqk at h
    cases kd with
    | it k0 =>
      simp only at h hk
      subst hk
      split at h
      ·rename_i k a k' b'
       have := hx.intI; subst this
       have := hy.intI; subst this
       rw [zaa] at h
       split at h
       ·rename_i hkk
        have := kEq_eq hkk; subst this
        cases h
        exact ⟨_, by simp [Op.equalIn, run_underlying hd], .plain _ rfl⟩
       ·cases h
      ·obtain ⟨s, _, hs, h1, h2, h3⟩ := symEq_run hx hy h
       obtain ⟨k, i, rfl, hk, _⟩ := srt_num (by omega) h1
       obtain ⟨k', j, rfl, hk', _⟩ := srt_num (by omega) h2
       rw [hk] at hk'
       have := kCode_inj hk'; subst this
       exact ⟨i == j, by simp [Op.equalIn, run_underlying hd], h3 _ (by simp [zag, isShift, kEq_refl, zao])⟩
    | bo =>
      simp only at h hk
      subst hk
      split at h
      ·have := hx.boolI; subst this
       have := hy.boolI; subst this
       cases h
       exact ⟨_, by simp [Op.equalIn, run_underlying hd], .plain _ rfl⟩
      ·obtain ⟨s, hl, hs, h1, h2, h3⟩ := symEq_run hx hy h
       have : s = 8 := by omega
       subst this
       obtain ⟨i, rfl⟩ := srt_bool h1
       obtain ⟨j, rfl⟩ := srt_bool h2
       exact ⟨i == j, by simp [Op.equalIn, run_underlying hd], h3 _ (by simp [zag])⟩
    | str =>
      simp only at h hk
      subst hk
      split at h
      ·have := hx.strI; subst this
       have := hy.strI; subst this
       cases h
       rw [bytes_toList, ← beq_toListBytes]
       exact ⟨_, by simp [Op.equalIn, run_underlying hd], .plain _ rfl⟩
      ·obtain ⟨s, hl, hs, h1, h2, h3⟩ := symEq_run hx hy h
       have : s = 9 := by omega
       subst this
       obtain ⟨i, rfl⟩ := srt_text h1
       obtain ⟨j, rfl⟩ := srt_text h2
       refine ⟨i.data.toList == j.data.toList, ?_, h3 _ (by simp [zag])⟩
       rw [bytes_toList, ← beq_toListBytes]
       simp [Op.equalIn, run_underlying hd]
    | pt =>
      simp only at h hk
      obtain ⟨el, rfl⟩ := hk
      split at h
      ·rename_i b'
       have := hx.nilpI; subst this
       cases b' with
       | none =>
         have := hy.nilpI; subst this
         cases h
         exact ⟨_, by simp [Op.equalIn, run_underlying hd], .plain _ rfl⟩
       | some a =>
         obtain ⟨a', rfl⟩ := hy.ptrS
         cases h
         exact ⟨_, by simp [Op.equalIn, run_underlying hd], .plain _ rfl⟩
      ·obtain ⟨a', rfl⟩ := hx.ptrS
       have := hy.nilpI; subst this
       cases h
       exact ⟨_, by simp [Op.equalIn, run_underlying hd], .plain _ rfl⟩
      ·cases h
    | fu =>
      simp only at h hk
      obtain ⟨a1, b1, c1, rfl⟩ := hk
      split at h
      ·cases hx; cases hy; cases h; exact ⟨_, by simp [Op.equalIn, run_underlying hd], .plain _ rfl⟩
      ·cases hy
       cases h
       cases hx with
       | plain _ hp => simp [zas] at hp
       | func => exact ⟨_, by simp [Op.equalIn, run_underlying hd], .plain _ rfl⟩
      ·cases hx
       cases h
       cases hy with
       | plain _ hp => simp [zas] at hp
       | func => exact ⟨_, by simp [Op.equalIn, run_underlying hd], .plain _ rfl⟩
      ·cases h
    | ifc =>
      simp only at h hk
      obtain ⟨ms, rfl⟩ := hk
      split at h
      ·obtain ⟨u', rfl, _⟩ := hx.ifaceI
       cases hy; cases h
       exact ⟨_, by simp [Op.equalIn, run_underlying hd], .plain _ rfl⟩
      ·obtain ⟨u', rfl, _⟩ := hy.ifaceI
       cases hx; cases h
       exact ⟨_, by simp [Op.equalIn, run_underlying hd], .plain _ rfl⟩
      ·cases h
    | sl el et =>
      simp only at h hk
      obtain ⟨rfl, _, _⟩ := hk
      split at h
      ·rename_i b' _ _
       have := hx.slN; subst this
       cases b' with
       | none =>
         have := hy.slN; subst this
         cases h
         exact ⟨_, by simp [Op.equalIn, run_underlying hd], .plain _ rfl⟩
       | some a =>
         obtain ⟨_, _, _, rfl⟩ := hy.slS
         cases h
         exact ⟨_, by simp [Op.equalIn, run_underlying hd], .plain _ rfl⟩
      ·obtain ⟨_, _, _, rfl⟩ := hx.slS
       have := hy.slN; subst this
       cases h
       exact ⟨_, by simp [Op.equalIn, run_underlying hd], .plain _ rfl⟩
      ·cases h
    | st fs c =>
      simp only at h hk
      obtain ⟨gs, rfl, rfl, hc, _⟩ := hk
      split at h
      ·rename_i xs ys
       obtain ⟨xs', rfl, hxr⟩ := hx.aggI
       obtain ⟨ys', rfl, hyr⟩ := hy.aggI
       rw [zaa] at h
       split at h
       ·rename_i hct
        have hc' : cmpOk P t gs = true := by rw [← hc]; exact hct
        simp only [cmpOk, Bool.and_eq_true] at hc'
        have hc1 : P.stoodInHeld t = false := by simpa using hc'.1.1
        have hc2 : ∀ f ∈ gs.toList, f.name ≠ "_" := by
         intro f hf
         have := Array.all_eq_true'.1 hc'.1.2 f (by simpa using hf)
         simpa using this
        have hfo : P.fieldsOf t = gs := by simp [Program.fieldsOf, hd]
        rw [run_equalIn_struct w (D + d) t xs' ys' (by rw [hfo]; exact hd) hc1, hfo]
        have := eqfs_run hP (D := D + d) ih xs.toList ys.toList xs'.toList ys'.toList hxr hyr gs.toList _ hc2 h
        simpa using this
       ·cases h
      ·cases h
    | ar m el et =>
      simp only at h hk
      obtain ⟨rfl, rfl, hall⟩ := hk
      obtain ⟨i2, hi2⟩ := Option.isSome_iff_exists.1 hall
      split at h
      ·rename_i xs ys
       obtain ⟨xs', rfl, hxr⟩ := hx.aggI
       obtain ⟨ys', rfl, hyr⟩ := hy.aggI
       rw [run_equalIn_array w (D + d) xs' ys' hd hi2]
       have := eqas_run hP (D := D + d) ih et (cellsOf P et) xs.toList ys.toList xs'.toList ys'.toList hxr hyr m 0 _ h
       rw [List.range_eq_range']
       simpa [Program.cellsOf, cellsOf] using this
      ·cases h
    | other => cases h
   ·cases h
omit hP in
theorem int_run {op : BinOp} {t : TypeId} {x y : Operand} {k : IntKind} {i j : Int} {r : Value} (h : zao op k i j = some r) :
  (do eqGuard op t x y (.int k i) (.int k j); binOp op t (.int k i) (.int k j) : Sem Value).run P w = .ok r w := by
 unfold zao at h
 split at h <;> first
  | (cases h; simp [eqGuard, binOp, Op.intArith, Op.intCmp, Op.intBits, bitsN]; done)
  | (split at h
     ·cases h
     ·rename_i hj; cases h; simp [eqGuard, binOp, Op.intDiv, hj])
  | cases h
omit hP in
theorem sh_run {op : BinOp} {t : TypeId} {x y : Operand} {k k' : IntKind} {i j : Int} {r : Value} (h : shBin op k i j = some r) :
  (do eqGuard op t x y (.int k i) (.int k' j); binOp op t (.int k i) (.int k' j) : Sem Value).run P w = .ok r w := by
 unfold shBin at h
 split at h
 ·split at h
  ·cases h
  ·rename_i hj
   cases h
   simp [eqGuard, binOp, Op.shift, hj]
 ·split at h
  ·cases h
  ·rename_i hj
   cases h
   simp [eqGuard, binOp, Op.shift, hj]
 ·cases h
theorem symTop_run {op : BinOp} {t : TypeId} {x y : Operand} {a b a' b' v : Value} (h : symTop P op t a b = some v) (ha : RV e n a a') (hb : RV e n b b') :
  ∃ v', (do eqGuard op t x y a' b'; binOp op t a' b' : Sem Value).run P w = .ok v' w ∧ RV e n v v' := by
 unfold symTop at h
 split at h
 ·rename_i s s' hs hs'
  rw [zaa] at h
  split at h
  ·rename_i h8
   rw [zaa] at h
   split at h
   ·obtain ⟨k, i, j, r, rfl, rfl, _, h2, h3⟩ := symInt_run hs hs' (blt_lt h8) ha hb h
    exact ⟨r, int_run h2, h3⟩
   ·cases h
  ·rw [zaa] at h
   split at h
   ·rename_i hss
    have hss := zad hss
    subst hss
    obtain ⟨hx1, hx2⟩ := ha.leaf hs
    obtain ⟨hy1, hy2⟩ := hb.leaf hs'
    have fin : ∀ {op : BinOp} {r : Bool}, zag op a' b' = some (.bool r) → RV e n (sy (opc (binCode op) 8) [a, b]) (.bool r) :=
     fun {op} {r} hr => RV.sy (c := binCode op) (by decide) (binCode_lt _) (denL2 hx1 hy1) (by rw [stdI2, hr]) rfl
    rw [zaa] at h
    split at h
    ·rename_i h9
     rw [zad h9] at hx2 hy2
     obtain ⟨i, rfl⟩ := srt_text hx2
     obtain ⟨j, rfl⟩ := srt_text hy2
     unfold symEqN at h
     split at h
     ·cases h
      refine ⟨.bool (i.data.toList == j.data.toList), ?_, fin (op := .eql) rfl⟩
      rw [bytes_toList]
      simp [eqGuard, binOp, Op.stringOp]
     ·cases h
      refine ⟨.bool (!(i.data.toList == j.data.toList)), ?_, fin (op := .neq) rfl⟩
      rw [bytes_toList]
      simp [eqGuard, binOp, Op.stringOp]
     ·cases h
    ·rw [zaa] at h
     split at h
     ·rename_i h8
      rw [zad h8] at hx2 hy2
      obtain ⟨i, rfl⟩ := srt_bool hx2
      obtain ⟨j, rfl⟩ := srt_bool hy2
      split at h
      ·rename_i sz ag z kd hti
       split at h
       ·obtain ⟨ii, dd, zz, hi, hd, hz, _, _, _, hk⟩ := zai (zam hP hti)
        simp only at hk
        subst hk
        have hq : (Op.equal t (.bool i) (.bool j)).run P w = .ok (i == j) w := by
         show (Op.equalIn (9999 + 1) t (.bool i) (.bool j)).run P w = .ok (i == j) w
         rw [Op.equalIn]
         simp [run_underlying hd]
        unfold symEqN at h
        split at h
        ·cases h
         exact ⟨.bool (i == j), by simp [eqGuard, binOp, hq], fin (op := .eql) rfl⟩
        ·cases h
         exact ⟨.bool (!(i == j)), by simp [eqGuard, binOp, hq], fin (op := .neq) rfl⟩
        ·cases h
       ·cases h
      ·cases h
     ·cases h
   ·cases h
 ·cases h
theorem binx_run {op : BinOp} {t : TypeId} {x y : Operand} {a b a' b' v : Value} (h : binx P (isConst x || isConst y) op t a b = some v) (ha : RV e n a a') (hb : RV e n b b') :
  ∃ v', (do eqGuard op t x y a' b'; binOp op t a' b' : Sem Value).run P w = .ok v' w ∧ RV e n v v' := by
 unfold binx at h
 split at h
 ·rename_i k i
  have := ha.intI; subst this
  split at h
  ·rename_i k' j
   have := hb.intI; subst this
   rw [zaa] at h
   split at h
   ·have hp : zas v = true := by
      unfold shBin at h
      split at h <;> first | (split at h <;> (cases h; try rfl)) | cases h
    exact ⟨v, sh_run h, .plain _ hp⟩
   ·rw [zaa] at h
    split at h
    ·rename_i hkk
     have := kEq_eq hkk; subst this
     have hp : zas v = true := by
      unfold zao at h
      split at h <;> first | (cases h; rfl) | (split at h <;> (cases h; try rfl)) | cases h
     exact ⟨v, int_run h, .plain _ hp⟩
    ·cases h
  ·exact symTop_run hP h ha hb
 ·rename_i s
  have := ha.strI; subst this
  split at h
  ·rename_i s'
   have := hb.strI; subst this
   unfold strBin at h
   split at h
   ·cases h
    rw [bytes_toList]
    exact ⟨_, by simp [eqGuard, binOp, Op.stringOp], .plain _ rfl⟩
   ·cases h
    rw [bytes_toList]
    exact ⟨_, by simp [eqGuard, binOp, Op.stringOp], .plain _ rfl⟩
   ·rw [zaa] at h
    split at h
    ·rename_i hs
     have hs := zaw hs
     cases h
     have : ¬ ((s.size + s'.size : Nat) : Int) > IntKind.i64.max := by
      have : IntKind.i64.max = 9223372036854775807 := by decide
      omega
     have h2 : (s.size : Int) + (s'.size : Int) ≤ 9223372036854775807 := by omega
     exact ⟨_, by simp [eqGuard, binOp, Op.stringOp, h2], .plain _ rfl⟩
    ·cases h
   ·cases h
  ·exact symTop_run hP h ha hb
 ·rename_i hni hns
  rw [zaa] at h
  split at h
  ·exact symTop_run hP h ha hb
  rename_i hsy
  have hsa : ∀ op s x c, a ≠ .func (.methodOf op s) x c := by
   rintro op s x c rfl; exact hsy rfl
  have hsb : ∀ op s x c, b ≠ .func (.methodOf op s) x c := by
   rintro op s x c rfl; exact hsy (by simp [isSy])
  rw [zaa] at h
  split at h
  ·rename_i hbn
   unfold bothNil at hbn
   split at hbn
   ·split at hbn
    ·split at hbn
     ·rename_i sz ag z hti
      obtain ⟨i, dd, zz, hi, hd, hz, _, _, _, ms, hk⟩ := zai (zam hP hti)
      subst hk
      cases ha
      cases hb
      have hq : (Op.equal t .nilIface .nilIface).run P w = .ok true w := by
       show (Op.equalIn (9999 + 1) t .nilIface .nilIface).run P w = .ok true w
       rw [Op.equalIn]
       simp [run_underlying hd]
      have hg : ∀ op, (eqGuard op t x y .nilIface .nilIface).run P w = .ok () w := by
       intro op
       unfold eqGuard
       cases x <;> cases y <;> first | exact (Bool.false_ne_true hbn).elim | (cases op <;> simp)
      unfold nilBin at h
      split at h
      ·cases h
       exact ⟨_, by simp [hg, binOp, hq], .plain _ rfl⟩
      ·cases h
       exact ⟨_, by simp [hg, binOp, hq], .plain _ rfl⟩
      ·cases h
     ·cases hbn
    ·cases hbn
   ·cases hbn
  have key : ∀ c, eqTop P t a b = some c → ∃ r, (∀ op, (eqGuard op t x y a' b').run P w = .ok () w) ∧ (Op.equal t a' b').run P w = .ok r w ∧ RV e n c (.bool r) := by
   intro c hr
   have hq : ∃ r, (Op.equal t a' b').run P w = .ok r w ∧ RV e n c (.bool r) := by
    unfold eqTop at hr
    split at hr
    ·rw [zaa] at hr
     split at hr
     ·cases hr
     ·exact eqv_run hP 50 9950 t _ _ c a' b' hr ha hb
    ·exact eqv_run hP 50 9950 t _ _ c a' b' hr ha hb
   obtain ⟨r, hq, hrv⟩ := hq
   refine ⟨r, fun op => ?_, hq, hrv⟩
   unfold eqTop at hr
   split at hr
   ·rename_i xs
    rw [zaa] at hr
    split at hr
    ·cases hr
    ·rename_i hg
     obtain ⟨xs', rfl, _⟩ := ha.aggI
     cases b' with
     | agg ys' => exact run_eqGuard_agg w op t x y xs' ys' (by simpa using hg)
     | _ => cases op <;> simp [eqGuard]
   ·rename_i hna
    have hnn : ¬ (a' = .nilIface ∧ b' = .nilIface) := by
     rintro ⟨rfl, rfl⟩
     cases ha with
     | sym => exact hsa _ _ _ _ rfl
     | plain =>
     cases hb with
     | sym => exact hsb _ _ _ _ rfl
     | plain =>
     unfold eqv eqk at hr
     split at hr
     ·split at hr <;> simp [symEq, sortOf] at hr
     ·cases hr
    have hn2 : ¬ ∃ xs ys, a' = .agg xs ∧ b' = .agg ys := by
     rintro ⟨xs, ys, rfl, rfl⟩
     cases ha with
     | plain => exact hna _ rfl
     | agg => exact hna _ rfl
     | sym => exact hsa _ _ _ _ rfl
    cases op <;> simp only [eqGuard] <;> first
     | (simp; done)
     | (cases a' <;> cases b' <;> first | (simp; done) | (exact absurd ⟨rfl, rfl⟩ hnn) | (exact absurd ⟨_, _, rfl, rfl⟩ hn2))
  have hbin : ∀ r, (Op.equal t a' b').run P w = .ok r w → (binOp .eql t a' b').run P w = .ok (.bool r) w ∧ (binOp .neq t a' b').run P w = .ok (.bool (!r)) w := by
   intro r hr
   have h1 : ∀ k i, a' ≠ .int k i := by
    rintro k i rfl
    cases ha with
    | plain => exact hni _ _ rfl
    | sym => exact hsa _ _ _ _ rfl
   have h2 : ∀ s, a' ≠ .string s := by
    rintro s rfl
    cases ha with
    | plain => exact hns _ rfl
    | sym => exact hsa _ _ _ _ rfl
   have h3 : ∀ k i, a' ≠ .float k i := by
    rintro k i rfl
    cases ha with
    | plain _ hp => simp [zas] at hp
    | sym => exact hsa _ _ _ _ rfl
   have h4 : ∀ k i j, a' ≠ .complex k i j := by
    rintro k i j rfl
    cases ha with
    | plain _ hp => simp [zas] at hp
    | sym => exact hsa _ _ _ _ rfl
   clear key hsy hsa hsb ha hb h hni hns
   cases a' <;> simp_all [binOp]
  unfold eqBin at h
  split at h
  ·obtain ⟨r, h1, h2, h3⟩ := key _ h
   exact ⟨.bool r, by rw [Sem.run_bind, h1]; exact (hbin r h2).1, h3⟩
  ·cases hc : eqTop P t a b with
   | none => rw [hc] at h; cases h
   | some c =>
     rw [hc] at h
     obtain ⟨r, h1, h2, h3⟩ := key _ hc
     obtain ⟨r', h4, h5⟩ := notV_run h3 h
     cases h4
     exact ⟨.bool (!r), by rw [Sem.run_bind, h1]; exact (hbin r h2).2, h5⟩
  ·cases h
omit hP in
theorem quo_run {op : BinOp} {t : TypeId} {x y : Operand} {s s' : Nat} {a b a' b' : Value} (ho : op = .quo ∨ op = .rem) (ha : RV e n a a') (hb : RV e n b b') (hs : sortOf a = some s) (hs' : sortOf b = some s') (h8 : s < 8) (hss : s = s') (h0 : ∀ k, b' ≠ .int k 0) :
  ∃ v', (do eqGuard op t x y a' b'; binOp op t a' b' : Sem Value).run P w = .ok v' w ∧ RV e n (sy (opc (binCode op) s) [a, b]) v' := by
 subst hss
 obtain ⟨hx1, hx2⟩ := ha.leaf hs
 obtain ⟨hy1, hy2⟩ := hb.leaf hs'
 obtain ⟨k, i, rfl, hk, hwi⟩ := srt_num h8 hx2
 obtain ⟨k', j, rfl, hk', hwj⟩ := srt_num h8 hy2
 rw [hk] at hk'
 have := kCode_inj hk'; subst this
 have hj : j ≠ 0 := fun h => h0 k (by rw [h])
 have hr : ∃ r, zao op k i j = some (.int k r) ∧ wfK k r = true := by
  rcases ho with rfl | rfl
  ·exact ⟨_, by unfold zao; exact if_neg hj, wfK_wrap _ _⟩
  ·exact ⟨_, by unfold zao; exact if_neg hj, wfK_tmod hwi _⟩
 obtain ⟨r, h1, h2⟩ := hr
 refine ⟨_, int_run h1, RV.sy (by omega) (binCode_lt _) (denL2 hx1 hy1) ?_ (by rw [hk]; exact zav h2)⟩
 rw [stdI2]
 have hsh : isShift op = false := by rcases ho with rfl | rfl <;> rfl
 simp only [zag, hsh, Bool.false_eq_true, if_false, kEq_refl, if_true, h1]
omit hP in
theorem shf_run {op : BinOp} {t : TypeId} {x y : Operand} {s s' : Nat} {a b a' b' : Value} (ho : op = .shl ∨ op = .shr) (ha : RV e n a a') (hb : RV e n b b') (hs : sortOf a = some s) (hs' : sortOf b = some s') (h8 : s < 8) (h8' : s' < 8) (h0 : ∀ k j, b' = .int k j → ¬ j < 0) :
  ∃ v', (do eqGuard op t x y a' b'; binOp op t a' b' : Sem Value).run P w = .ok v' w ∧ RV e n (sy (opc (binCode op) s) [a, b]) v' := by
 obtain ⟨hx1, hx2⟩ := ha.leaf hs
 obtain ⟨hy1, hy2⟩ := hb.leaf hs'
 obtain ⟨k, i, rfl, hk, hwi⟩ := srt_num h8 hx2
 obtain ⟨k', j, rfl, hk', hwj⟩ := srt_num h8' hy2
 have hj := h0 _ _ rfl
 have hr : ∃ r, shBin op k i j = some (.int k r) ∧ wfK k r = true := by
  rcases ho with rfl | rfl
  ·exact ⟨_, by unfold shBin; exact if_neg hj, wfK_wrap _ _⟩
  ·exact ⟨_, by unfold shBin; exact if_neg hj, wfK_fdiv hwi _⟩
 obtain ⟨r, h1, h2⟩ := hr
 refine ⟨_, sh_run h1, RV.sy (by omega) (binCode_lt _) (denL2 hx1 hy1) ?_ (by rw [hk]; exact zav h2)⟩
 rw [stdI2]
 have hsh : isShift op = true := by rcases ho with rfl | rfl <;> rfl
 simp only [zag, hsh, if_true, h1]
def ValRun (P : Program) (e : Env) (n : Nat) (w : World) (m : Sem Value) : R → Prop
 | .val v => ∃ v', m.run P w = .ok v' w ∧ RV e n v v'
 | .need _ => True
 | .bad => True
 | _ => False
omit hP in
theorem symPart_run {B : Base} {hp : Hp} {op : BinOp} {t : TypeId} {x y : Operand} {a b a' b' : Value} (hw : WR P B e n hp w) (ha : RV e n a a') (hb : RV e n b b') :
  ValRun P e n w (do eqGuard op t x y a' b'; binOp op t a' b' : Sem Value) (symPart hp op a b) := by
 unfold symPart
 split
 ·rename_i s s' hs hs'
  split
  ·rename_i k b0
   have := hb.intI; subst this
   rw [zaa]
   split
   ·rename_i h8
    simp only [Bool.and_eq_true] at h8
    have h1 := blt_lt h8.1
    have h2 := blt_lt h8.2
    split
    ·rw [zaa]; split
     ·rename_i hc
      simp only [Bool.and_eq_true, Bool.not_eq_true', decide_eq_false_iff_not] at hc
      exact quo_run (.inl rfl) ha hb hs hs' h1 (zad hc.1) (by rintro k h; cases h; exact hc.2 rfl)
     ·trivial
    ·rw [zaa]; split
     ·rename_i hc
      simp only [Bool.and_eq_true, Bool.not_eq_true', decide_eq_false_iff_not] at hc
      exact quo_run (.inr rfl) ha hb hs hs' h1 (zad hc.1) (by rintro k h; cases h; exact hc.2 rfl)
     ·trivial
    ·rw [zaa]; split
     ·rename_i hc
      simp only [Bool.not_eq_true', decide_eq_false_iff_not] at hc
      exact shf_run (.inl rfl) ha hb hs hs' h1 h2 (by rintro k j h; cases h; exact hc)
     ·trivial
    ·rw [zaa]; split
     ·rename_i hc
      simp only [Bool.not_eq_true', decide_eq_false_iff_not] at hc
      exact shf_run (.inr rfl) ha hb hs hs' h1 h2 (by rintro k j h; cases h; exact hc)
     ·trivial
    ·trivial
   ·trivial
  ·split
   ·rename_i k hk
    rw [zaa]
    split
    ·rename_i h8
     have h1 := blt_lt h8
     have h0 : decH hp (sy (opc 16 8) [b, .int k 0]) = some false → ∀ k', b' ≠ .int k' 0 := by
      rintro hd k' rfl
      obtain ⟨hy1, hy2⟩ := hb.leaf hs'
      have hsk := codeK_some hk
      obtain ⟨k2, j, h3, h4, _⟩ := srt_num (by rw [hsk]; exact kCode_lt k) hy2
      cases h3
      rw [hsk] at h4
      have := kCode_inj h4; subst this
      have := hw.fk _ _ hd
      have hq : den e.m (sy (opc 16 8) [b, .int k 0]) = some (.bool true) := den_sy (by decide) (by decide) (denL2 (y' := .int k 0) hy1 (by simp [den])) (by show stdI _ (binCode .eql) 8 _ = _; rw [stdI2]; simp [zag, isShift, kEq_refl, zao]) rfl
      rw [hq] at this
      cases this
     split
     ·rw [zaa]; split
      ·rename_i hc
       split
       ·rename_i hd
        exact quo_run (.inl rfl) ha hb hs hs' h1 (zad hc) (h0 hd)
       ·trivial
       ·trivial
      ·trivial
     ·rw [zaa]; split
      ·rename_i hc
       split
       ·rename_i hd
        exact quo_run (.inr rfl) ha hb hs hs' h1 (zad hc) (h0 hd)
       ·trivial
       ·trivial
      ·trivial
     ·trivial
    ·trivial
   ·trivial
 ·trivial
theorem s_binOp {B : Base} {hp : Hp} {tm : Tm} {ρ : Operand → Value} {o : Oper} {op : BinOp} {t t' : TypeId} {x y : Operand} (hw : WR P B e n hp w) (ho : o.op = .binOp op t x y t') (hx : RV e n (ev tm x) (ρ x)) (hy : RV e n (ev tm y) (ρ y)) : OpS P B e n w (aBinOp op t x y P tm n hp) ((execOp ρ o).run P w) := by
 unfold aBinOp
 split
 ·rename_i v h
  obtain ⟨v', h1, h2⟩ := binx_run hP (w := w) (x := x) (y := y) h hx hy
  refine ⟨v', ?_, h2⟩
  simp only [execOp, ho]
  rw [Sem.run_bind, h1]; rfl
 ·have := symPart_run (t := t) (x := x) (y := y) (op := op) hw hx hy
  revert this
  cases symPart hp op (ev tm x) (ev tm y) <;> intro this <;> first
   | exact trivial
   | exact this.elim
   | (obtain ⟨v', h1, h2⟩ := this
      refine ⟨v', ?_, h2⟩
      simp only [execOp, ho]
      rw [Sem.run_bind, h1]; rfl)
end
end Go.Gz
