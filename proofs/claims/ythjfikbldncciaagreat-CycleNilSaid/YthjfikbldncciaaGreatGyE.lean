/- The evaluator that the kernel runs: one operation, part 2: what holds two values against each other. -/
import Derived.Test.YthjfikbldncciaaGreatGyD
namespace Go.Gy
open Go Go.Gx Go.RowKit

theorem kEq_eq {k k' : IntKind} (h : kEq k k' = true) : k = k' := by cases k <;> cases k' <;> first | rfl | cases h

theorem bytes_toList (a b : ByteArray) : (a.data.toList == b.data.toList) = (a.toList == b.toList) := by
  rw [ByteArray.toList_eq, ByteArray.toList_eq]

section
variable {P : Program} (hP : Small P) {e : Env} {n : Nat} {w : World}
include hP

theorem eqfs_run {eq : TypeId → Value → Value → Option Bool} {D : Nat}
    (ih : ∀ t x y b x' y', eq t x y = some b → RV e n x x' → RV e n y y' → (Op.equalIn D t x' y').run P w = .ok b w) (xs ys : List Value) (xs' ys' : List Value) (hx : RL e n xs xs') (hy : RL e n ys ys') :
    ∀ (gs : List Field) (b : Bool), (∀ f ∈ gs, f.name ≠ "_") → eqfs P eq xs ys (gs.map fun f => (f.offset, cellsOf P f.type, f.type)) = some b → (Op.eqFields D xs'.toArray ys'.toArray gs).run P w = .ok b w
  | [], b, _, h => by simp [eqfs] at h; subst h; simp [Op.eqFields]
  | f :: gs, b, hn, h => by
    simp only [List.map_cons, eqfs] at h
    split at h
    · rename_i u v hu hv
      obtain ⟨u', h1, h2, _⟩ := partv_run hP hx hu w
      obtain ⟨v', h3, h4, _⟩ := partv_run hP hy hv w
      simp only [Op.eqFields, hn f (by simp), ne_eq, not_false_eq_true, if_true, Sem.run_bind, h1, h3, Result.andThen_ok]
      split at h
      · rename_i hq
        rw [ih _ _ _ _ _ _ hq h2 h4]
        simpa using eqfs_run ih xs ys xs' ys' hx hy gs b (fun g hg => hn g (List.mem_cons_of_mem _ hg)) h
      · rename_i hq
        cases h
        rw [ih _ _ _ _ _ _ hq h2 h4]
        simp
      · cases h
    · cases h

theorem eqas_run {eq : TypeId → Value → Value → Option Bool} {D : Nat}
    (ih : ∀ t x y b x' y', eq t x y = some b → RV e n x x' → RV e n y y' → (Op.equalIn D t x' y').run P w = .ok b w) (t : TypeId) (c : Nat) (xs ys : List Value) (xs' ys' : List Value) (hx : RL e n xs xs') (hy : RL e n ys ys') :
    ∀ (k i : Nat) (b : Bool), eqas P eq t c xs ys i k = some b → (Op.eqItems D t c xs'.toArray ys'.toArray (List.range' i k)).run P w = .ok b w
  | 0, i, b, h => by simp [eqas] at h; subst h; simp [Op.eqItems]
  | k + 1, i, b, h => by
    simp only [eqas] at h
    rw [List.range'_succ]
    split at h
    · rename_i u v hu hv
      obtain ⟨u', h1, h2, _⟩ := partv_run hP hx hu w
      obtain ⟨v', h3, h4, _⟩ := partv_run hP hy hv w
      simp only [Op.eqItems, Sem.run_bind, h1, h3, Result.andThen_ok]
      split at h
      · rename_i hq
        rw [ih _ _ _ _ _ _ hq h2 h4]
        simpa using eqas_run ih t c xs ys xs' ys' hx hy k (i + 1) b h
      · rename_i hq
        cases h
        rw [ih _ _ _ _ _ _ hq h2 h4]
        simp
      · cases h
    · cases h

theorem eqv_run : ∀ (d D : Nat) (t : TypeId) (x y : Value) (b : Bool) (x' y' : Value), eqv P d t x y = some b → RV e n x x' → RV e n y y' → (Op.equalIn (D + d) t x' y').run P w = .ok b w
  | 0, _, _, _, _, _, _, _, h, _, _ => by simp [eqv] at h
  | d + 1, D, t, x, y, b, x', y', h, hx, hy => by
    unfold eqv at h
    split at h
    · rename_i sz ag z kd hti
      have hti' := ti_tiof hP hti
      obtain ⟨i, dd, zz, hi, hd, hz, _, _, hag, hk⟩ := tiof_info hti'
      have ih := fun t x y b x' y' => eqv_run d D t x y b x' y'
      rw [show D + (d + 1) = (D + d) + 1 by omega]
      unfold eqk at h
      cases kd with
      | it k0 =>
        simp only at h hk
        subst hk
        split at h
        · rename_i k a k' b'
          have := hx.intI; subst this
          have := hy.intI; subst this
          rw [cnd_ite] at h
          split at h
          · rename_i hkk
            have := kEq_eq hkk; subst this
            cases h
            simp [Op.equalIn, run_underlying hd]
          · cases h
        · cases h
      | bo =>
        simp only at h hk
        subst hk
        split at h
        · have := hx.boolI; subst this
          have := hy.boolI; subst this
          cases h
          simp [Op.equalIn, run_underlying hd]
        · cases h
      | str =>
        simp only at h hk
        subst hk
        split at h
        · have := hx.strI; subst this
          have := hy.strI; subst this
          cases h
          rw [bytes_toList, ← beq_toListBytes]
          simp [Op.equalIn, run_underlying hd]
        · cases h
      | pt =>
        simp only at h hk
        obtain ⟨el, rfl⟩ := hk
        split at h
        · rename_i b'
          have := hx.nilpI; subst this
          cases b' with
          | none =>
            have := hy.nilpI; subst this
            cases h
            simp [Op.equalIn, run_underlying hd]
          | some a =>
            obtain ⟨a', rfl⟩ := hy.ptrS
            cases h
            simp [Op.equalIn, run_underlying hd]
        · obtain ⟨a', rfl⟩ := hx.ptrS
          have := hy.nilpI; subst this
          cases h
          simp [Op.equalIn, run_underlying hd]
        · cases h
      | fu =>
        simp only at h hk
        obtain ⟨a1, b1, c1, rfl⟩ := hk
        split at h
        · cases hx; cases hy; cases h; simp [Op.equalIn, run_underlying hd]
        · cases hy
          cases h
          cases hx with
          | plain _ hp => simp [plainC] at hp
          | func => simp [Op.equalIn, run_underlying hd]
          | yield => simp [Op.equalIn, run_underlying hd]
        · cases hx
          cases h
          cases hy with
          | plain _ hp => simp [plainC] at hp
          | func => simp [Op.equalIn, run_underlying hd]
          | yield => simp [Op.equalIn, run_underlying hd]
        · cases h
      | ifc =>
        simp only at h hk
        obtain ⟨ms, rfl⟩ := hk
        split at h
        · obtain ⟨u', rfl, _⟩ := hx.ifaceI
          cases hy; cases h
          simp [Op.equalIn, run_underlying hd]
        · obtain ⟨u', rfl, _⟩ := hy.ifaceI
          cases hx; cases h
          simp [Op.equalIn, run_underlying hd]
        · cases h
      | sl el et =>
        simp only at h hk
        obtain ⟨rfl, _, _⟩ := hk
        split at h
        · rename_i b' _ _
          have := hx.slN; subst this
          cases b' with
          | none =>
            have := hy.slN; subst this
            cases h
            simp [Op.equalIn, run_underlying hd]
          | some a =>
            obtain ⟨_, _, rfl⟩ := hy.slS
            cases h
            simp [Op.equalIn, run_underlying hd]
        · obtain ⟨_, _, rfl⟩ := hx.slS
          have := hy.slN; subst this
          cases h
          simp [Op.equalIn, run_underlying hd]
        · cases h
      | st fs c =>
        simp only at h hk
        obtain ⟨gs, rfl, rfl, hc, _⟩ := hk
        split at h
        · rename_i xs ys
          obtain ⟨xs', rfl, hxr⟩ := hx.aggI
          obtain ⟨ys', rfl, hyr⟩ := hy.aggI
          rw [cnd_ite] at h
          split at h
          · rename_i hct
            have hc' : cmpOk P t gs = true := by rw [← hc]; exact hct
            simp only [cmpOk, Bool.and_eq_true] at hc'
            have hc1 : P.stoodInHeld t = false := by simpa using hc'.1.1
            have hc2 : ∀ f ∈ gs.toList, f.name ≠ "_" := by
              intro f hf
              have := Array.all_eq_true'.1 hc'.1.2 f (by simpa using hf)
              simpa using this
            have hfo : P.fieldsOf t = gs := by simp [Program.fieldsOf, hd]
            rw [run_equalIn_struct w (D + d) t xs' ys' (by rw [hfo]; exact hd) hc1, hfo]
            have := eqfs_run hP (D := D + d) ih xs.toList ys.toList xs'.toList ys'.toList hxr hyr gs.toList b hc2 h
            simpa using this
          · cases h
        · cases h
      | ar m el et =>
        simp only at h hk
        obtain ⟨rfl, rfl, hall⟩ := hk
        obtain ⟨i2, hi2⟩ := Option.isSome_iff_exists.1 hall
        split at h
        · rename_i xs ys
          obtain ⟨xs', rfl, hxr⟩ := hx.aggI
          obtain ⟨ys', rfl, hyr⟩ := hy.aggI
          rw [run_equalIn_array w (D + d) xs' ys' hd hi2]
          have := eqas_run hP (D := D + d) ih et (cellsOf P et) xs.toList ys.toList xs'.toList ys'.toList hxr hyr m 0 b h
          rw [List.range_eq_range']
          simpa [Program.cellsOf, cellsOf] using this
        · cases h
      | other => cases h
    · cases h

theorem binx_run {op : BinOp} {t : TypeId} {x y : Operand} {a b a' b' v : Value} (h : binx P (isConst x || isConst y) op t a b = some v) (ha : RV e n a a') (hb : RV e n b b') :
    (do eqGuard op t x y a' b'; binOp op t a' b' : Sem Value).run P w = .ok v w ∧ plainC v = true := by
  unfold binx at h
  split at h
  · rename_i k i
    have := ha.intI; subst this
    split at h
    · rename_i k' j
      have := hb.intI; subst this
      rw [cnd_ite] at h
      split at h
      · unfold shBin at h
        split at h
        · split at h
          · cases h
          · rename_i hj
            cases h
            exact ⟨by simp [eqGuard, binOp, Op.shift, hj], rfl⟩
        · split at h
          · cases h
          · rename_i hj
            cases h
            exact ⟨by simp [eqGuard, binOp, Op.shift, hj], rfl⟩
        · cases h
      · rw [cnd_ite] at h
        split at h
        · rename_i hkk
          have := kEq_eq hkk; subst this
          unfold intBin at h
          split at h <;> first
            | (cases h; exact ⟨by simp [eqGuard, binOp, Op.intArith, Op.intCmp, Op.intBits, bitsN], rfl⟩)
            | (split at h
               · cases h
               · rename_i hj; cases h; exact ⟨by simp [eqGuard, binOp, Op.intDiv, hj], rfl⟩)
            | cases h
        · cases h
    · cases h
  · rename_i s
    have := ha.strI; subst this
    split at h
    · rename_i s'
      have := hb.strI; subst this
      unfold strBin at h
      split at h
      · cases h
        rw [bytes_toList]
        exact ⟨by simp [eqGuard, binOp, Op.stringOp], rfl⟩
      · cases h
        rw [bytes_toList]
        exact ⟨by simp [eqGuard, binOp, Op.stringOp], rfl⟩
      · rw [cnd_ite] at h
        split at h
        · rename_i hs
          have hs := ble_le hs
          cases h
          have : ¬ ((s.size + s'.size : Nat) : Int) > IntKind.i64.max := by
            have : IntKind.i64.max = 9223372036854775807 := by decide
            omega
          have h2 : (s.size : Int) + (s'.size : Int) ≤ 9223372036854775807 := by omega
          exact ⟨by simp [eqGuard, binOp, Op.stringOp, h2], rfl⟩
        · cases h
      · cases h
    · cases h
  · rename_i hni hns
    rw [cnd_ite] at h
    split at h
    · rename_i hbn
      unfold bothNil at hbn
      split at hbn
      · split at hbn
        · split at hbn
          · rename_i sz ag z hti
            obtain ⟨i, dd, zz, hi, hd, hz, _, _, _, ms, hk⟩ := tiof_info (ti_tiof hP hti)
            subst hk
            cases ha
            cases hb
            have hq : (Op.equal t .nilIface .nilIface).run P w = .ok true w := by
              show (Op.equalIn (9999 + 1) t .nilIface .nilIface).run P w = .ok true w
              rw [Op.equalIn]
              simp [run_underlying hd]
            have hg : ∀ op, (eqGuard op t x y .nilIface .nilIface).run P w = .ok () w := by
              intro op
              unfold eqGuard
              cases x <;> cases y <;> first | exact (Bool.false_ne_true hbn).elim | (cases op <;> simp)
            unfold nilBin at h
            split at h
            · cases h
              exact ⟨by simp [hg, binOp, hq], rfl⟩
            · cases h
              exact ⟨by simp [hg, binOp, hq], rfl⟩
            · cases h
          · cases hbn
        · cases hbn
      · cases hbn
    have key : ∀ r, eqTop P t a b = some r → (∀ op, (eqGuard op t x y a' b').run P w = .ok () w) ∧ (Op.equal t a' b').run P w = .ok r w := by
      intro r hr
      have hq : (Op.equal t a' b').run P w = .ok r w := by
        unfold eqTop at hr
        split at hr
        · rw [cnd_ite] at hr
          split at hr
          · cases hr
          · exact eqv_run hP 50 9950 t _ _ r a' b' hr ha hb
        · exact eqv_run hP 50 9950 t _ _ r a' b' hr ha hb
      refine ⟨fun op => ?_, hq⟩
      unfold eqTop at hr
      split at hr
      · rename_i xs
        rw [cnd_ite] at hr
        split at hr
        · cases hr
        · rename_i hg
          obtain ⟨xs', rfl, _⟩ := ha.aggI
          cases b' with
          | agg ys' => exact run_eqGuard_agg w op t x y xs' ys' (by simpa using hg)
          | _ => cases op <;> simp [eqGuard]
      · rename_i hna
        have hnn : ¬ (a' = .nilIface ∧ b' = .nilIface) := by
          rintro ⟨rfl, rfl⟩
          cases ha
          cases hb
          unfold eqv eqk at hr
          split at hr
          · split at hr <;> simp at hr
          · cases hr
        have hn2 : ¬ ∃ xs ys, a' = .agg xs ∧ b' = .agg ys := by
          rintro ⟨xs, ys, rfl, rfl⟩
          cases ha with
          | plain => exact hna _ rfl
          | agg => exact hna _ rfl
        cases op <;> simp only [eqGuard] <;> first
          | (simp; done)
          | (cases a' <;> cases b' <;> first | (simp; done) | (exact absurd ⟨rfl, rfl⟩ hnn) | (exact absurd ⟨_, _, rfl, rfl⟩ hn2))
    have hbin : ∀ r, (Op.equal t a' b').run P w = .ok r w → (binOp .eql t a' b').run P w = .ok (.bool r) w ∧ (binOp .neq t a' b').run P w = .ok (.bool (!r)) w := by
      intro r hr
      have h1 : ∀ k i, a' ≠ .int k i := by
        rintro k i rfl
        cases ha with
        | plain => exact hni _ _ rfl
      have h2 : ∀ s, a' ≠ .string s := by
        rintro s rfl
        cases ha with
        | plain => exact hns _ rfl
      have h3 : ∀ k i, a' ≠ .float k i := by
        rintro k i rfl
        cases ha with
        | plain _ hp => simp [plainC] at hp
      have h4 : ∀ k i j, a' ≠ .complex k i j := by
        rintro k i j rfl
        cases ha with
        | plain _ hp => simp [plainC] at hp
      cases a' <;> simp_all [binOp]
    unfold eqBin at h
    split at h
    · simp only [Option.map_eq_some_iff] at h
      obtain ⟨r, hr, rfl⟩ := h
      obtain ⟨h1, h2⟩ := key r hr
      exact ⟨by rw [Sem.run_bind, h1]; exact (hbin r h2).1, rfl⟩
    · simp only [Option.map_eq_some_iff] at h
      obtain ⟨r, hr, rfl⟩ := h
      obtain ⟨h1, h2⟩ := key r hr
      exact ⟨by rw [Sem.run_bind, h1]; exact (hbin r h2).2, rfl⟩
    · cases h

theorem s_binOp {B : Base} {hp : Hp} {tm : Tm} {ρ : Operand → Value} {o : Oper} {op : BinOp} {t t' : TypeId} {x y : Operand} (ho : o.op = .binOp op t x y t') (hx : RV e n (ev tm x) (ρ x)) (hy : RV e n (ev tm y) (ρ y)) : OpS P B e n w (aBinOp op t x y P tm n hp) ((execOp ρ o).run P w) := by
  unfold aBinOp
  cases h : binx P (isConst x || isConst y) op t (ev tm x) (ev tm y) with
  | none => trivial
  | some v =>
    obtain ⟨h1, h2⟩ := binx_run hP (w := w) (x := x) (y := y) h hx hy
    refine ⟨v, ?_, .plain _ h2⟩
    simp only [execOp, ho]
    rw [Sem.run_bind, h1]; rfl
end

end Go.Gy
