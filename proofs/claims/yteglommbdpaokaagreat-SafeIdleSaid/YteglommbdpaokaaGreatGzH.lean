/- The evaluator that the kernel runs: one operation, part 3. -/
import Derived.Test.YteglommbdpaokaaGreatGzE
import Derived.Laws.RangeString
namespace Go.Gz
open Go Go.Gx Go.RowKit
section
variable {e : Env} {n : Nat}
theorem fillv_run {tm : Tm} {ρ : Operand → Value} (place : Nat → Option (Nat × Nat)) : ∀ (ps : List (Nat × Operand)) (cells cells' l : List Value), RL e n cells cells' → (∀ q ∈ ps, RV e n (ev tm q.2) (ρ q.2)) →
  fillv place cells (evps tm ps) = some l → ∃ l', fillx place cells' (ps.map fun q => (q.1, ρ q.2)) = some l' ∧ RL e n l l'
 | [], cells, cells', l, hr, _, h => by
   simp only [evps, fillv, Option.some.injEq] at h
   subst h
   exact ⟨cells', by simp [fillx], hr⟩
 | q :: ps, cells, cells', l, hr, hq, h => by
   simp only [evps, fillv] at h
   cases hp : place q.1 with
   | none => simp [hp] at h
   | some os =>
     obtain ⟨off, size⟩ := os
     simp only [hp, zaa] at h
     split at h
     ·rename_i hck
      obtain ⟨h1, h2⟩ := zac hck
      have h1 := zad h1
      have h2 := zaw h2
      have hv := hq q (by simp)
      have hc := hv.cells
      have hlen : (ρ q.2).cells.size = size := by have := hc.length; rw [h1] at this; simpa using this.symm
      have hll := hr.length
      rw [splx_eq _ _ _ (by omega)] at h
      obtain ⟨l', h3, h4⟩ := fillv_run place ps _ _ l (hr.splice hc off) (fun p hp => hq p (List.mem_cons_of_mem _ hp)) h
      refine ⟨l', ?_, h4⟩
      simp only [List.map_cons, fillx, hp]
      rw [if_neg (by omega)]
      exact h3
     ·cases h
end
theorem HOk.nil (w : World) (β : Nat → Nat) : HOk w β [] w :=
 ⟨rfl, rfl, rfl, Nat.le_refl _, fun _ _ h => by simp at h, fun _ _ h => by simp at h, fun _ _ _ => rfl⟩
section
variable {P : Program} (hP : Small P) {B : Base} {e : Env} {n : Nat} {hp : Hp} {w : World} {tm : Tm} {fr : List Value} {o : Oper}
theorem pure_run {φ : Prop} {v : Value} (h : opx P (fun i => i) o.op fr [] = .val v ∨ (opx P (fun i => i) o.op fr [] = .need φ v ∧ φ)) (w : World) : (execOp (evx fr) o).run P w = .ok (.value v) w :=
 opx_pure (HOk.nil w fun i => i) h
include hP
theorem s_build {t : TypeId} {ps : Array (Nat × Operand)} (ho : o.op = .build t ps) (hq : ∀ q ∈ ps.toList, RV e n (ev tm q.2) (evx fr q.2)) : OpS P B e n w (aBuild t ps P tm n hp) ((execOp (evx fr) o).run P w) := by
 unfold aBuild
 split
 ·rename_i l h
  unfold buildx at h
  split at h
  ·rename_i sz ag z fs c hti
   obtain ⟨l', h1, h2⟩ := fillv_run _ _ _ _ _ (RL.plain (ti_plain hti)) hq h
   refine ⟨.agg l'.toArray, pure_run (φ := True) (.inl ?_) w, .agg _ _ h2⟩
   rw [ho]
   simp only [opx, zam hP hti]
   simp only [h1]
  ·rename_i sz ag z m el et hti
   obtain ⟨l', h1, h2⟩ := fillv_run _ _ _ _ _ (RL.plain (ti_plain hti)) hq h
   refine ⟨.agg l'.toArray, pure_run (φ := True) (.inl ?_) w, .agg _ _ h2⟩
   rw [ho]
   simp only [opx, zam hP hti]
   simp only [h1]
  ·cases h
 ·trivial
omit hP in
theorem natIn_some {m : Int} {len k : Nat} (h : natIn m len = some k) : m = k ∧ k < len := by
 unfold natIn at h
 split at h
 ·rw [zaa] at h
  split at h
  ·rename_i hb; cases h; exact ⟨rfl, blt_lt hb⟩
  ·cases h
 ·cases h
omit hP in
theorem natLe_some {m : Int} {len k : Nat} (h : natLe m len = some k) : m = k ∧ k ≤ len := by
 unfold natLe at h
 split at h
 ·rw [zaa] at h
  split at h
  ·rename_i hb; cases h; exact ⟨rfl, zaw hb⟩
  ·cases h
 ·cases h
omit hP in
theorem at_inv {m : Mu} {x i x' i' r : Value} {el : Nat} (hx : den m x = some x') (hi : den m i = some i') (h : den m (sy (opc 44 10) [x, i, .int .i64 el]) = some r) :
  ∃ b off len cap k j, x' = .slice (some ⟨b, off, none⟩) len cap ∧ i' = .int k j ∧ 0 ≤ j ∧ j < len ∧ r = .pointer (some ⟨b, off + j.toNat * el, none⟩) := by
 obtain ⟨l', h1, h0, h3⟩ := den_sy_inv (by decide) (by decide) h
 obtain ⟨x1, i1, e1, h4, h5, h6, rfl⟩ := denL3_inv h1
 rw [hx] at h4; cases h4
 rw [hi] at h5; cases h5
 simp [den] at h6; subst h6
 have h2 : elemI x' i' (.int .i64 el) = some r := h0
 clear h0
 unfold elemI at h2
 split at h2
 ·rename_i b off len cap k j k2 el2 he
  cases he
  split at h2
  ·rename_i hc
   cases h2
   exact ⟨b, off, len, cap, k, j, rfl, rfl, hc.1, hc.2.1, by simp⟩
  ·cases h2
 ·cases h2
omit hP in
theorem inR_run {i i' : Value} {len : Nat} {y : R} {r : Result Next} (hd : ∀ c b, decH hp c = some b → den e.m c = some (.bool b)) (hi : RV e n i i')
  (h : ∀ (k : IntKind) (q : Nat), i' = .int k q → q < len → den e.m i = some (.int k q) → OpS P B e n w y r) : OpS P B e n w (inR hp i len y) r := by
 unfold inR
 split
 ·rename_i s hs
  obtain ⟨hi1, hi2⟩ := hi.leaf hs
  split
  ·rename_i k hk
   split
   ·rename_i b hb
    rw [zaa]
    split
    ·trivial
    ·rename_i hb0
     have hb0 : b = false := by simpa using hb0
     subst hb0
     split
     ·rename_i b hb2
      rw [zaa]
      split
      ·trivial
      ·rename_i hb0
       have hb0 : b = false := by simpa using hb0
       subst hb0
       have h8 : s < 8 := by
        rcases Nat.lt_or_ge s 8 with h | h
        ·exact h
        ·exfalso
         have : codeK s = none := by
          unfold codeK
          simp only [zaa]
          rw [if_neg, if_neg, if_neg, if_neg, if_neg, if_neg, if_neg, if_neg] <;> (intro h'; have := zad h'; omega)
         rw [this] at hk; cases hk
       obtain ⟨k', a, rfl, hk', hw'⟩ := srt_num h8 hi2
       have cmp : ∀ (c : Nat) (o : BinOp) (z : Int) (v : Bool), opc c 8 = 200 ∧ o = .lss ∨ opc c 8 = 248 ∧ o = .geq → den e.m (sy (opc c 8) [i, .int k z]) = some (.bool v) → zao o k' a z = some (.bool v) := by
        intro c o z v hc hden
        have hc63 : c < 63 := by rcases hc with ⟨h, _⟩ | ⟨h, _⟩ <;> (have : opc c 8 = 16 * c + 8 := rfl; omega)
        obtain ⟨l', hl, hst, _⟩ := den_sy_inv (by decide) hc63 hden
        obtain ⟨vx, vy, g1, g2, rfl⟩ := denL2_inv hl
        rw [hi1] at g1
        cases g1
        rw [den] at g2
        cases g2
        have hc2 : c = binCode o := by rcases hc with ⟨h, rfl⟩ | ⟨h, rfl⟩ <;> (have : opc c 8 = 16 * c + 8 := rfl; show c = _; simp only [binCode]; omega)
        subst hc2
        rw [stdI2] at hst
        unfold zag at hst
        have hns : isShift o = false := by rcases hc with ⟨_, rfl⟩ | ⟨_, rfl⟩ <;> rfl
        simp only [hns, Bool.false_eq_true, if_false] at hst
        split at hst
        ·exact hst
        ·cases hst
       have h1 := cmp 12 .lss 0 false (.inl ⟨rfl, rfl⟩) (hd _ _ hb)
       have h2 := cmp 15 .geq (.ofNat len) false (.inr ⟨rfl, rfl⟩) (hd _ _ hb2)
       simp only [zao, Option.some.injEq, Value.bool.injEq, decide_eq_false_iff_not] at h1 h2
       obtain ⟨q, rfl⟩ := Int.eq_ofNat_of_zero_le (show 0 ≤ a by omega)
       exact h k' q rfl (by have : (len : Int) = Int.ofNat len := rfl; omega) hi1
     ·trivial
   ·trivial
  ·trivial
 ·trivial
omit hP in
theorem isG_some {v : Value} (h : isG v = true) : ∃ b off len cap, v = .slice (some ⟨b, off, some 7⟩) len cap := by
 unfold isG at h
 split at h
 ·rename_i b off q len cap
  rw [zad h]; exact ⟨b, off, len, cap, rfl⟩
 ·cases h
omit hP in
theorem i64S_some {i i' : Value} (h : i64S i = true) (hi : RV e n i i') : ∃ a, i' = .int .i64 a ∧ den e.m i = some (.int .i64 a) := by
 unfold i64S at h
 split at h
 ·rename_i s hs
  have h := zad h
  subst h
  obtain ⟨h1, h2⟩ := hi.leaf hs
  obtain ⟨k, a, rfl, hk, _⟩ := srt_num (by decide) h2
  have : k = .i64 := by cases k <;> first | rfl | cases hk
  subst this
  exact ⟨a, rfl, h1⟩
 ·cases h
omit hP in
theorem inG_run {i i' L : Value} {len : Nat} {kk : IntKind} {y : R} {r : Result Next} (hd : ∀ c b, decH hp c = some b → den e.m c = some (.bool b)) (hi : RV e n i i') (h3 : i64S i = true) (hL : den e.m L = some (.int kk (len : Nat)))
  (h : ∀ (q : Nat), i' = .int .i64 q → q < len → den e.m i = some (.int .i64 (q : Nat)) → OpS P B e n w y r) : OpS P B e n w (inG hp i L y) r := by
 obtain ⟨a, hi', hdi⟩ := i64S_some h3 hi
 unfold inG
 split
 ·rename_i b hb
  have hb := ixLt_ok hd hdi (k' := .i64) (b := 0) (by rw [den]) hb
  rw [zaa]
  split
  ·exact trivial
  ·rename_i hb0
   have h0 : 0 ≤ a := by
    have : b = false := by simpa using hb0
    rw [this] at hb; have := hb.symm; simp at this; omega
   split
   ·rename_i b2 hb2
    have hb2 := ixLt_ok hd hdi hL hb2
    rw [zaa]
    split
    ·rename_i hbt
     rw [hbt] at hb2
     have hlt : a < len := by have := hb2.symm; simp at this; exact this
     obtain ⟨q, rfl⟩ := Int.eq_ofNat_of_zero_le h0
     exact h q hi' (by omega) hdi
    ·exact trivial
   ·exact trivial
 ·exact trivial
omit hP in
theorem inGe_run {i i' L : Value} {len : Nat} {kk : IntKind} {y : R} {r : Result Next} (hd : ∀ c b, decH hp c = some b → den e.m c = some (.bool b)) (hi : RV e n i i') (h3 : i64S i = true) (hL : den e.m L = some (.int kk (len : Nat)))
  (h : ∀ (q : Nat), i' = .int .i64 q → q ≤ len → den e.m i = some (.int .i64 (q : Nat)) → OpS P B e n w y r) : OpS P B e n w (inGe hp i L y) r := by
 obtain ⟨a, hi', hdi⟩ := i64S_some h3 hi
 unfold inGe
 split
 ·rename_i b hb
  have hb := ixLt_ok hd hdi (k' := .i64) (b := 0) (by rw [den]) hb
  rw [zaa]
  split
  ·exact trivial
  ·rename_i hb0
   have h0 : 0 ≤ a := by
    have : b = false := by simpa using hb0
    rw [this] at hb; have := hb.symm; simp at this; omega
   split
   ·rename_i b2 hb2
    have hb2 := ixLt_ok hd hL hdi hb2
    rw [zaa]
    split
    ·exact trivial
    ·rename_i hbt
     have : b2 = false := by simpa using hbt
     rw [this] at hb2
     have hlt : a ≤ len := by have := hb2.symm; simp at this; exact this
     obtain ⟨q, rfl⟩ := Int.eq_ofNat_of_zero_le h0
     exact h q hi' (by omega) hdi
   ·exact trivial
 ·exact trivial
theorem s_indexAddr {t : TypeId} {x i : Operand} (hw : WR P B e n hp w) (ho : o.op = .indexAddr t x i) (hx : RV e n (ev tm x) (evx fr x)) (hi : RV e n (ev tm i) (evx fr i)) : OpS P B e n w (aIndexAddr t x i P tm n hp) ((execOp (evx fr) o).run P w) := by
 unfold aIndexAddr
 rw [zaa]
 split
 ·rename_i hG
  split
  ·rename_i sz ag z kd hti
   cases kd with
   | sl el et =>
     show OpS P B e n w (cnd (Nat.beq el 1) (indexG hp (blkG (ev tm x)) (ev tm i)) .bad) _
     rw [zaa]
     split
     ·rename_i he1
      have he1 := zad he1
      subst he1
      obtain ⟨b, off, len, cap, hxe⟩ := isG_some hG
      rw [hxe] at hx ⊢
      obtain ⟨hx', hb, _⟩ := hx.slGI
      show OpS P B e n w (indexG hp b (ev tm i)) _
      unfold indexG
      split
      ·rename_i v ty hg
       obtain ⟨l, y, hc, hden, hlen, htot, hce, hone, hz⟩ := hw.garr hb hg
       rw [zaa]
       split
       ·rename_i hi3
        have hl63 : l.length < 9223372036854775808 := by rw [hlen]; exact Nat.mod_lt _ (by decide)
        have hL := lenGT_den 200 hden hl63
        refine inG_run hw.fk hi hi3 hL fun q hi' hq hdi => ?_
        refine ⟨.pointer (some ⟨e.β b, q, none⟩), pure_run (φ := 0 ≤ (q : Int) ∧ (q : Int) < (e.tot b % 9223372036854775808 : Nat)) (.inr ⟨?_, by omega, by omega⟩) w, .elemG b q _ hb hdi (by omega)⟩
        rw [ho]
        simp only [opx, zam hP hti, hi', hx', Int.toNat_natCast, add_none, Nat.mul_one, Nat.zero_add]
       ·exact trivial
      ·exact trivial
     ·exact trivial
   | _ => exact trivial
  ·exact trivial
 rw [zaa]
 split
 ·split
  ·rename_i sz ag z kd hti
   cases kd with
   | sl el et =>
     show OpS P B e n w (indexS hp el (ev tm x) (ev tm i)) _
     unfold indexS
     split
     ·rename_i s s' hs hs'
      obtain ⟨hx1, hx2⟩ := hx.leaf hs
      obtain ⟨hi1, hi2⟩ := hi.leaf hs'
      rw [zaa]
      split
      ·unfold grd
       split
       ·rename_i b hd
        cases b with
        | false => exact trivial
        | true =>
          obtain ⟨u, hu⟩ := hw.grd hd
          obtain ⟨b1, off1, len, cap, k, j, h3, h4, h5, h6, h7⟩ := at_inv hx1 hi1 hu
          refine ⟨u, pure_run (φ := 0 ≤ j ∧ j < len) (.inr ⟨?_, h5, h6⟩) w, RV.ofDen hu (by decide) (by decide)⟩
          rw [ho]
          simp only [opx, zam hP hti, h3, h4, h7, add_none]
       ·exact trivial
      ·exact trivial
     ·exact trivial
   | _ => exact trivial
  ·exact trivial
 rw [zaa]
 split
 ·unfold indexAddrE
  split
  ·rename_i sz ag z el et b off len cap hti hxe
   rw [hxe] at hx
   obtain ⟨hb, cap', hx', _⟩ := hx.slI
   refine inR_run hw.fk hi fun k q hi' hq hden => ?_
   refine ⟨.pointer (some ⟨e.β b, off + q * el, none⟩), pure_run (φ := 0 ≤ (q : Int) ∧ (q : Int) < len) (.inr ⟨?_, by omega, by omega⟩) w, .elem b off el len q _ k hb hden hq⟩
   rw [ho]
   simp only [opx, zam hP hti, hi', hx', Int.toNat_natCast, add_none]
  ·rename_i sz ag z len el et b off hti hxe
   rw [hxe] at hx
   obtain ⟨hx', hb⟩ := hx.ptrI
   refine inR_run hw.fk hi fun k q hi' hq hden => ?_
   refine ⟨.pointer (some ⟨e.β b, off + q * el, none⟩), pure_run (φ := 0 ≤ (q : Int) ∧ (q : Int) < len) (.inr ⟨?_, by omega, by omega⟩) w, .elem b off el len q _ k hb hden hq⟩
   rw [ho]
   simp only [opx, zam hP hti, hi', hx', Int.toNat_natCast, add_none]
  ·trivial
 cases h : indexAddrx P t (ev tm x) (ev tm i) with
 | none => trivial
 | some v =>
   unfold indexAddrx at h
   split at h
   ·rename_i k m hev
    rw [hev] at hi
    have hi' := hi.intI
    split at h
    ·rename_i sz ag z el et b off len cap hti hxe
     rw [hxe] at hx
     obtain ⟨hb, cap', hx', _⟩ := hx.slI
     simp only [Option.map_eq_some_iff] at h
     obtain ⟨j, hj, rfl⟩ := h
     obtain ⟨rfl, hlt⟩ := natIn_some hj
     refine ⟨_, pure_run (φ := 0 ≤ (j : Int) ∧ (j : Int) < len) (.inr ⟨?_, by omega, by omega⟩) w, RV.add hb _⟩
     rw [ho]
     simp only [opx, zam hP hti, hi', hx', Int.toNat_natCast]
    ·rename_i sz ag z len el et b off hti hxe
     rw [hxe] at hx
     obtain ⟨hx', hb⟩ := hx.ptrI
     simp only [Option.map_eq_some_iff] at h
     obtain ⟨j, hj, rfl⟩ := h
     obtain ⟨rfl, hlt⟩ := natIn_some hj
     refine ⟨_, pure_run (φ := 0 ≤ (j : Int) ∧ (j : Int) < len) (.inr ⟨?_, by omega, by omega⟩) w, RV.add hb _⟩
     rw [ho]
     simp only [opx, zam hP hti, hi', hx', Int.toNat_natCast]
    ·cases h
   ·cases h
theorem s_index {t : TypeId} {x i : Operand} (hw : WR P B e n hp w) (ho : o.op = .index t x i) (hx : RV e n (ev tm x) (evx fr x)) (hi : RV e n (ev tm i) (evx fr i)) : OpS P B e n w (aIndex t x i P tm n hp) ((execOp (evx fr) o).run P w) := by
 unfold aIndex
 rw [zaa]
 split
 ·unfold indexE
  split
  ·rename_i sz ag z kd hti
   cases kd with
   | ar len el et =>
     simp only []
     split
     ·rename_i cs hxe
      rw [hxe] at hx
      obtain ⟨cs', hx', hr⟩ := hx.aggI
      refine inR_run hw.fk hi fun k q hi' hq hden => ?_
      have fin : ∀ v v', RV e n v v' → partx P et cs'.toList (q * el) = some v' → OpS P B e n w (.val v) ((execOp (evx fr) o).run P w) := by
       intro v v' h2 h3
       refine ⟨v', pure_run (φ := 0 ≤ (q : Int) ∧ (q : Int) < len) (.inr ⟨?_, by omega, by omega⟩) w, h2⟩
       rw [ho]
       simp only [opx, zam hP hti, hi', hx', inxK, inxA, Int.toNat_natCast, h3]
      split
      ·rename_i v hv
       rw [zaa] at hv
       split at hv
       ·rename_i he
        unfold bindL at hv
        split at hv
        ·rename_i l hl
         obtain ⟨e1, e2⟩ := everyC_get _ _ hl
         obtain ⟨r', g1, g2⟩ := everyC_rl hr _ _ hl
         have hlen := g1.length
         have hu : r'[q]? = some (r'[q]'(by omega)) := List.getElem?_eq_getElem (by omega)
         refine fin v _ (selV_run hden hv g1 hu) ?_
         rw [g2 q hq, Nat.zero_add] at hu
         unfold oneT at he
         split at he
         ·rename_i y hy
          have hag : ¬ y.ag = true := by simpa using he
          simp [partx, zam hP hy, hag, hu]
         ·cases he
        ·cases hv
       ·cases hv
      ·split
       ·rename_i c hc
        have := enumI_ok hw.fk hden hc
        subst this
        cases hv : partv P et cs.toList (c * el) with
        | none => trivial
        | some v =>
          obtain ⟨v', _, h2, h3⟩ := partv_run hP hr hv w
          exact fin v v' h2 h3
       ·trivial
       ·trivial
     ·trivial
   | str =>
     simp only []
     split
     ·rename_i s s' hs hs'
      rw [zaa]
      split
      ·rename_i hc
       obtain ⟨hc1, hc2⟩ := zac hc
       have hc1 := zad hc1
       subst hc1
       obtain ⟨hx1, hx2⟩ := hx.leaf hs
       obtain ⟨hi1, hi2⟩ := hi.leaf hs'
       obtain ⟨b, hxb⟩ := srt_text hx2
       obtain ⟨k, j, hij, _, _⟩ := srt_num (blt_lt hc2) hi2
       unfold grd
       split
       ·rename_i bb hd
        cases bb with
        | false => exact trivial
        | true =>
          obtain ⟨u, hu⟩ := hw.grd hd
          obtain ⟨l', hl, hst, _⟩ := den_sy_inv (by decide) (by decide) hu
          obtain ⟨vx, vy, g1, g2, rfl⟩ := denL2_inv hl
          rw [hx1, hxb] at g1
          rw [hi1, hij] at g2
          cases g1
          cases g2
          have hst : (if (0 : Int) ≤ j then (b.data.toList[j.toNat]?).map fun b => Value.int .u8 b.toNat else none) = some u := hst
          split at hst
          ·rename_i hj
           simp only [Option.map_eq_some_iff] at hst
           obtain ⟨c, hc, rfl⟩ := hst
           have hlt : j.toNat < b.size := by
            have := (List.getElem?_eq_some_iff.1 hc).1
            simpa using this
           refine ⟨.int .u8 c.toNat, pure_run (φ := 0 ≤ j ∧ j < b.size) (.inr ⟨?_, hj, by omega⟩) w, RV.ofDen hu (by decide) (by decide)⟩
           rw [ho]
           simp only [opx, zam hP hti, hij, hxb, inxK, inxS, List.getD_eq_getElem?_getD, hc, Option.getD_some]
          ·cases hst
       ·exact trivial
      ·trivial
     ·trivial
   | _ => trivial
  ·trivial
 cases h : indexx P t (ev tm x) (ev tm i) with
 | none => trivial
 | some v =>
   unfold indexx at h
   split at h
   ·rename_i k m hev
    rw [hev] at hi
    have hi' := hi.intI
    split at h
    ·rename_i sz ag z len el et cs hti hxe
     rw [hxe] at hx
     obtain ⟨cs', hx', hr⟩ := hx.aggI
     simp only [Option.bind_eq_some_iff] at h
     obtain ⟨j, hj, hv⟩ := h
     obtain ⟨rfl, hlt⟩ := natIn_some hj
     obtain ⟨v', _, h2, h3⟩ := partv_run hP hr hv w
     refine ⟨v', pure_run (φ := 0 ≤ (j : Int) ∧ (j : Int) < len) (.inr ⟨?_, by omega, by omega⟩) w, h2⟩
     rw [ho]
     simp only [opx, zam hP hti, hi', hx', inxK, inxA, Int.toNat_natCast, h3]
    ·rename_i sz ag z s hti hxe
     rw [hxe] at hx
     have hx' := hx.strI
     simp only [Option.bind_eq_some_iff, Option.map_eq_some_iff] at h
     obtain ⟨j, hj, c, hc, rfl⟩ := h
     obtain ⟨rfl, hlt⟩ := natIn_some hj
     refine ⟨.int .u8 c.toNat, pure_run (φ := 0 ≤ (j : Int) ∧ (j : Int) < s.size) (.inr ⟨?_, by omega, by omega⟩) w, .plain _ rfl⟩
     rw [ho]
     simp only [opx, zam hP hti, hi', hx', inxK, inxS, Int.toNat_natCast, List.getD_eq_getElem?_getD, hc, Option.getD_some]
    ·cases h
   ·cases h
theorem s_convert {s d : TypeId} {x : Operand} (ho : o.op = .convert s d x) (hx : RV e n (ev tm x) (evx fr x)) : OpS P B e n w (aConvert s d x P tm n hp) ((execOp (evx fr) o).run P w) := by
 unfold aConvert
 split
 ·rename_i k0 m sz ag z k ts hev hti hts
  rw [hev] at hx
  have hx' := hx.intI
  refine ⟨.int k (k.wrap m), pure_run (φ := True) (.inl ?_) w, .plain _ rfl⟩
  rw [ho]
  simp only [opx, zam hP hti, zam hP hts, hx']
 ·rename_i b sz ag z ts hev hti hts
  rw [hev] at hx
  have hx' := hx.strI
  refine ⟨.string b, pure_run (φ := True) (.inl ?_) w, .plain _ rfl⟩
  rw [ho]
  simp only [opx, zam hP hti, zam hP hts, hx']
 ·rename_i v sz ag z kd ts hti hts _ _
  split
  ·rename_i s' hs
   obtain ⟨h1, h2⟩ := hx.leaf hs
   cases kd with
   | it k =>
     simp only
     rw [zaa]
     split
     ·rename_i h8
      obtain ⟨k', m, hm, hk, hwf⟩ := srt_num (blt_lt h8) h2
      refine ⟨.int k (k.wrap m), pure_run (φ := True) (.inl ?_) w, ?_⟩
      ·rw [ho]
       simp only [opx, zam hP hti, zam hP hts, hm]
      ·rw [zaa]
       split
       ·rename_i hkk
        have hkk := zad hkk
        rw [hk] at hkk
        have := kCode_inj hkk; subst this
        have : k'.wrap m = m := by simpa [wfK] using hwf
        rw [this, ← hm]; exact hx
       ·rw [hm] at h1
        exact RV.sy (by have := kCode_lt k; omega) (by decide) (denL1 h1) (by simp [stdI, codeK_code]) (zav (wfK_wrap _ _))
     ·trivial
   | str =>
     simp only
     rw [zaa]
     split
     ·rename_i h9
      rw [zad h9] at h2
      obtain ⟨b, hb⟩ := srt_text h2
      rw [hb] at hx
      refine ⟨.string b, pure_run (φ := True) (.inl ?_) w, hx⟩
      rw [ho]
      simp only [opx, zam hP hti, zam hP hts, hb]
     ·trivial
   | _ => trivial
  ·trivial
 ·trivial
theorem mapK_run {t et : TypeId} {kd : MK} (h : mapK P t = some (kd, et)) : ∃ kt, P.underlying t = some (.map kt et) ∧ ((kd = .int ∧ ∃ k, P.underlying kt = some (.int k)) ∨ (kd = .str ∧ P.underlying kt = some .string)) := by
 unfold mapK at h
 split at h
 ·rename_i k el hu
  split at h
  ·rename_i k2 hk; cases h; exact ⟨k, underT_under hP hu, .inl ⟨rfl, k2, underT_under hP hk⟩⟩
  ·rename_i hk; cases h; exact ⟨k, underT_under hP hu, .inr ⟨rfl, underT_under hP hk⟩⟩
  ·cases h
 ·cases h
omit hP
def kdOk (kd : MK) (d : TypeDesc) : Prop := match kd with
 | .int => ∃ k, d = .int k
 | .str => d = .string
theorem keyEq_now {hp : Hp} (hfk : ∀ c b, decH hp c = some b → den e.m c = some (.bool b)) {kd : MK} {d : TypeDesc} (hd : kdOk kd d) {x y x' y' : Value} {b : Bool} (h : keyEq hp kd x y = some b) (hx : RV e n x x') (hy : RV e n y y') : Instr.sameNow d x' y' = some b := by
 unfold keyEq at h
 split at h
 ·obtain ⟨k0, rfl⟩ := hd
  have := hx.intI; subst this
  have := hy.intI; subst this
  rw [zaa] at h
  split at h
  ·rename_i hk
   have := kEq_eq hk; subst this
   cases h
   simp [Instr.sameNow]
  ·cases h
 ·cases hd
  have := hx.strI; subst this
  have := hy.strI; subst this
  cases h
  simp only [Instr.sameNow, Option.some.injEq]
  rw [bytes_toList, ← beq_toListBytes]
 ·split at h
  ·rename_i c hc
   have hden := hfk _ _ h
   unfold keyTerm at hc
   cases kd with
   | int =>
     obtain ⟨k0, rfl⟩ := hd
     obtain ⟨s, _, hs, h1, h2, h3⟩ := symEq_run hx hy hc
     obtain ⟨k, i, rfl, hk, _⟩ := srt_num (by omega) h1
     obtain ⟨k', j, rfl, hk', _⟩ := srt_num (by omega) h2
     rw [hk] at hk'
     have := kCode_inj hk'; subst this
     have := (h3 (i == j) (by simp [zag, isShift, kEq_refl, zao])).den hden rfl
     cases this
     simp [Instr.sameNow]
   | str =>
     cases hd
     obtain ⟨s, hl, hs, h1, h2, h3⟩ := symEq_run hx hy hc
     have : s = 9 := by omega
     subst this
     obtain ⟨i, rfl⟩ := srt_text h1
     obtain ⟨j, rfl⟩ := srt_text h2
     have := (h3 (i.data.toList == j.data.toList) (by simp [zag])).den hden rfl
     cases this
     simp only [Instr.sameNow, Option.some.injEq]
     rw [bytes_toList, ← beq_toListBytes]
  ·cases h
theorem findx_now {hp : Hp} (hfk : ∀ c b, decH hp c = some b → den e.m c = some (.bool b)) {kd : MK} {d : TypeDesc} (hd : kdOk kd d) {k k' : Value} (hk : RV e n k k') : ∀ (l l' : List MapEntry) (i : Nat) (r : Option (Nat × Value)), RM e n l l' → findx hp kd k l i = some r →
  ∃ r', Instr.findNow d k' l' i = some r' ∧ ((r = none ∧ r' = none) ∨ ∃ j v v' y, r = some (j, v) ∧ r' = some (j, v') ∧ RV e n v v' ∧ i ≤ j ∧ l[j - i]? = some y ∧ keyEq hp kd k y.key = some true)
 | [], _, i, r, .nil, h => by
   simp only [findx, Option.some.injEq] at h
   subst h
   exact ⟨none, rfl, .inl ⟨rfl, rfl⟩⟩
 | x :: l, _, i, r, .cons _ x' _ l' hkk hv hb hl, h => by
   simp only [findx] at h
   split at h
   ·rename_i hq
    cases h
    refine ⟨some (i, x'.val), ?_, .inr ⟨i, x.val, x'.val, x, rfl, rfl, hv, Nat.le_refl _, by simp, hq⟩⟩
    simp [Instr.findNow, keyEq_now hfk hd hq hk hkk]
   ·rename_i hq
    obtain ⟨r', h1, h2⟩ := findx_now hfk hd hk l l' (i + 1) r hl h
    refine ⟨r', by simp [Instr.findNow, keyEq_now hfk hd hq hk hkk, h1], ?_⟩
    rcases h2 with h2 | ⟨j, v, v', y, h3, h4, h5, h6, h7, h8⟩
    ·exact .inl h2
    ·refine .inr ⟨j, v, v', y, h3, h4, h5, by omega, ?_, h8⟩
     rw [show j - i = (j - (i + 1)) + 1 by omega, List.getElem?_cons_succ]
     exact h7
   ·cases h
theorem askM_ok {P : Program} {B : Base} {hp : Hp} {t : TypeId} {x k : Value} {r : Result Next} : OpS P B e n w (askM P hp t x k) r := by
 unfold askM
 split
 ·split
  ·trivial
  ·trivial
 ·trivial
theorem WR.map (hw : WR P B e n hp w) {b : Nat} (hb : b < n) {l : List MapEntry} {c : Nat} (h : hp.get b = .map l c) : ∃ l', w.heap[e.β b]? = some (.map l'.toArray c) ∧ RM e n l l' := by
 obtain ⟨o, ho, hr⟩ := hw.obj b hb (by rw [h]; simp)
 rw [h] at hr
 cases hr with
 | map _ l' _ hl => exact ⟨l', ho, hl⟩
theorem RM.length : ∀ {l l' : List MapEntry}, RM e n l l' → l.length = l'.length
 | _, _, .nil => rfl
 | _, _, .cons _ _ _ _ _ _ _ hl => by simp [RM.length hl]
theorem plainZ {z : Value} (h : ∀ v ∈ z.cells.toList, zas v = true) : RV e n z z := by
 cases z with
 | agg a => exact .agg _ _ (RL.plain h)
 | _ => exact .plain _ (h _ (by simp [Value.cells]))
include hP
theorem zeroOf_run {t : TypeId} {z : Value} (h : zeroOf P t = some z) : (zeroValue t).run P w = .ok z w ∧ RV e n z z := by
 unfold zeroOf at h
 split at h
 ·rename_i x i hx hi
  have hi' := infoT_info hP hi
  obtain ⟨i2, d, z2, h1, _, h3, _, h5, _⟩ := zai (zam hP hx)
  rw [hi'] at h1
  cases h1
  rw [h] at h3
  cases h3
  exact ⟨run_zero' hi' h w, plainZ fun v hv => ti_plain hx v (by rw [h5]; exact hv)⟩
 ·cases h
theorem s_lookup {t : TypeId} {x k : Operand} {ok : Bool} (hw : WR P B e n hp w) (ho : o.op = .lookup t x k ok) (hx : RV e n (ev tm x) (evx fr x)) (hk : RV e n (ev tm k) (evx fr k)) : OpS P B e n w (aLookup t x k ok P tm n hp) ((execOp (evx fr) o).run P w) := by
 unfold aLookup
 cases h : lookupx P hp t (ev tm x) (ev tm k) ok with
 | none => exact askM_ok
 | some v =>
   unfold lookupx at h
   split at h
   ·rename_i kd et es hm hes
    obtain ⟨kt, ht, hkd⟩ := mapK_run hP hm
    obtain ⟨dd, hkt, hdd, hne⟩ : ∃ dd, P.underlying kt = some dd ∧ kdOk kd dd ∧ (∀ b m v, (Instr.checkKey b (m + 1) kt v).run P w = .ok () w) := by
     rcases hkd with ⟨rfl, k0, h0⟩ | ⟨rfl, h0⟩
     ·exact ⟨_, h0, ⟨k0, rfl⟩, fun b m v => by rw [Instr.checkKey]; simp [run_underlying h0]⟩
     ·exact ⟨_, h0, rfl, fun b m v => by rw [Instr.checkKey]; simp [run_underlying h0]⟩
    have hck : ∀ b v, (Instr.checkKey b 10000 kt v).run P w = .ok () w := fun b v => hne b 9999 v
    have hrun : ∀ r', (∃ r, findx hp kd (ev tm k) es 0 = some r ∧ ((r = none ∧ r' = none) ∨ ∃ j v v', r = some (j, v) ∧ r' = some (j, v') ∧ RV e n v v')) → ∀ es' : List MapEntry, Instr.findNow dd (evx fr k) es' 0 = some r' →
      ((evx fr x = .map none ∧ es' = []) ∨ ∃ b c, evx fr x = .map (some b) ∧ w.heap[b]? = some (.map es'.toArray c)) →
      ∀ v', (match r' with | some (_, v) => v' = okTuple ok v true | none => ∃ z, (zeroValue et).run P w = .ok z w ∧ v' = okTuple ok z false) → (execOp (evx fr) o).run P w = .ok (.value v') w := by
     intro r' _ es' h1 hx v' hv'
     rcases hx with ⟨hx, rfl⟩ | ⟨b, c, hx, hb⟩
     ·simp [Instr.findNow] at h1
      subst h1
      obtain ⟨z, hz, rfl⟩ := hv'
      cases ok <;> simp [execOp, ho, hx, Instr.lookup, run_underlying ht, run_underlying hkt, hck, Instr.findKey, Instr.findNow, hz, okTuple, zaa]
     ·cases r' with
      | none =>
        obtain ⟨z, hz, rfl⟩ := hv'
        cases ok <;> simp [execOp, ho, hx, Instr.lookup, run_underlying ht, run_underlying hkt, hck, Instr.findKey, h1, getObj, Sem.run, hb, hz, Result.andThen, okTuple, zaa]
      | some p =>
        obtain ⟨j, v⟩ := p
        simp only at hv'
        subst hv'
        cases ok <;> simp [execOp, ho, hx, Instr.lookup, run_underlying ht, run_underlying hkt, hck, Instr.findKey, h1, getObj, Sem.run, hb, Result.andThen, okTuple, zaa]
    obtain ⟨es', hr, hxx⟩ : ∃ es' : List MapEntry, RM e n es es' ∧ ((evx fr x = .map none ∧ es' = []) ∨ ∃ b c, evx fr x = .map (some b) ∧ w.heap[b]? = some (.map es'.toArray c)) := by
     unfold entriesOf at hes
     split at hes
     ·rename_i hev
      rw [hev] at hx
      cases hes
      exact ⟨[], .nil, .inl ⟨hx.mapN, rfl⟩⟩
     ·rename_i r hev
      rw [hev] at hx
      obtain ⟨hx', hb⟩ := hx.mapI
      split at hes
      ·rename_i l c hg
       cases hes
       obtain ⟨l', h1, h2⟩ := hw.map hb hg
       exact ⟨l', h2, .inr ⟨_, _, hx', h1⟩⟩
      ·cases hes
     ·cases hes
    cases hf : findx hp kd (ev tm k) es 0 with
    | none => simp [hf] at h
    | some r =>
    obtain ⟨r', h1, h2⟩ := findx_now hw.fk hdd hk es es' 0 r hr hf
    have h2' : (r = none ∧ r' = none) ∨ ∃ j v v', r = some (j, v) ∧ r' = some (j, v') ∧ RV e n v v' := by
     rcases h2 with h2 | ⟨j, v, v', y, h3, h4, h5, _⟩
     ·exact .inl h2
     ·exact .inr ⟨j, v, v', h3, h4, h5⟩
    have hfin := hrun r' ⟨r, hf, h2'⟩ es' h1 hxx
    clear hrun h2
    rw [hf] at h
    rcases h2' with ⟨rfl, rfl⟩ | ⟨j, u, u', rfl, rfl, hu⟩
    ·simp only [Option.map_eq_some_iff] at h
     obtain ⟨z, hz, rfl⟩ := h
     obtain ⟨z1, z2⟩ := zeroOf_run hP (w := w) hz (e := e) (n := n)
     refine ⟨okTuple ok z false, hfin _ ⟨z, z1, rfl⟩, ?_⟩
     cases ok
     ·exact z2
     ·exact .tuple _ _ (.cons _ _ _ _ z2 (.cons _ _ _ _ (.plain _ rfl) .nil))
    ·cases h
     refine ⟨okTuple ok u' true, hfin _ rfl, ?_⟩
     cases ok
     ·exact hu
     ·exact .tuple _ _ (.cons _ _ _ _ hu (.cons _ _ _ _ (.plain _ rfl) .nil))
   ·cases h
end
end Go.Gz
