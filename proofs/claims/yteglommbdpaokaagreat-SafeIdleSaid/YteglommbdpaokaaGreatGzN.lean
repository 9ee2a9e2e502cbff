/- The evaluator that the kernel runs: one operation, part 8: copy; all of them together. -/
import Derived.Test.YteglommbdpaokaaGreatGzM
namespace Go.Gz
open Go Go.Gx Go.RowKit
section
variable {P : Program} (hP : Small P) {B : Base} {e : Env} {n : Nat} {hp : Hp} {w : World} {tm : Tm} {fr : List Value} {o : Oper}
theorem srcPart (hw : WR P B e n hp w) {el el2 m k : Nat} {et2 : TypeId} {x x' : Value} {new : List Value} (h : srcOf hp el (.sl el2 et2) x = some (m, new)) (hx : RV e n x x') (hk : k ≤ m) :
  ∃ new' c a, (Builtin.firstCells el k x').run P w = .ok (new'.take (k * el)).toArray w ∧ RL e n new new' ∧ new'.length = m * el ∧ x' = .slice a m c := by
 unfold srcOf at h
 simp only at h
 split at h
 ·rename_i m0 c0
  rw [zaa] at h
  split at h
  ·rename_i hm
   have := zad hm
   subst this
   cases h
   have := hx.slN; subst this
   have : k = 0 := by omega
   subst this
   exact ⟨[], c0, none, by simp [Builtin.firstCells], .nil, by simp, rfl⟩
  ·cases h
 ·rename_i b off m0 c0
  obtain ⟨hb, cap', rfl, _⟩ := hx.slI
  split at h
  ·rename_i l hl
   obtain ⟨ty, gr, hg⟩ := cellsAt_some hl
   obtain ⟨l', y, hc, hr, _, _⟩ := hw.cells hb hg
   rw [zaa] at h
   split at h
   ·rename_i hle
    have hle := zaw hle
    cases h
    have hr2 := (hr.drop off).take (m * el)
    have hlen : ((l'.drop off).take (m * el)).length = m * el := by rw [← hr2.length]; simp; omega
    have hkm : k * el ≤ m * el := Nat.mul_le_mul_right _ hk
    refine ⟨(l'.drop off).take (m * el), cap', some ⟨e.β b, off, none⟩, ?_, hr2, hlen, rfl⟩
    refine run_firstCells_some w el k _ _ _ _ (by rw [List.length_take, hlen]; omega) fun j u hu => ?_
    rw [add_none, cell_list hc]
    rw [List.getElem?_take] at hu
    split at hu
    ·rw [List.getElem?_take] at hu
     split at hu
     ·rw [List.getElem?_drop] at hu
      rw [List.getElem?_append_left (List.getElem?_eq_some_iff.1 hu).1]
      exact hu
     ·cases hu
    ·cases hu
   ·cases h
  ·cases h
 ·cases h
include hP
theorem copy_run (hw : WR P B e n hp w) {t t2 ty : TypeId} {d s d' s' : Value} {m : Nat} {hp' : Hp} (h : copyx P hp t t2 d s = some (m, hp')) (hd : RV e n d d') (hs : RV e n s s') :
  ∃ w', (Builtin.copy_ #[t, t2] ty #[d', s']).run P w = .ok (.int .i64 m) w' ∧ WR P B e n hp' w' := by
 unfold copyx at h
 split at h
 ·rename_i sz ag z el et sz2 ag2 z2 el2 et2 base dl cap hti hti2
  obtain ⟨i0, d0, zz0, _, hu, _, _, _, _, rfl, hel, hall⟩ := zai (zam hP hti)
  obtain ⟨i2, hi2⟩ := Option.isSome_iff_exists.1 hall
  have hsz : i2.size = el := by rw [hel]; simp [cellsOf, hi2]
  split at h
  ·cases h
  ·rename_i sl new0 hsrc
   simp only [zaa] at h
   have hm : ∃ k, k = (if Nat.ble sl dl = true then sl else dl) ∧ k = Nat.min sl dl := by
    refine ⟨_, rfl, ?_⟩
    by_cases hle : sl ≤ dl
    ·rw [if_pos (Nat.ble_eq_true_of_le hle)]; exact (Nat.min_eq_left hle).symm
    ·rw [if_neg (fun h => hle (zaw h))]; exact (Nat.min_eq_right (by omega)).symm
   obtain ⟨k, hk1, hk2⟩ := hm
   rw [← hk1] at h
   have hksl : k ≤ sl := hk2 ▸ Nat.min_le_left sl dl
   obtain ⟨new', c', a', hf, hr, hl, rfl⟩ := srcPart hw hsrc hs hksl
   split at h
   ·rename_i hone
    split at h
    ·split at h
     ·rename_i hd0
      have := zad hd0; subst this
      cases h
      have := hd.slN; subst this
      have hk0 : k = 0 := by rw [hk2]; simp
      subst hk0
      refine ⟨w, ?_, hw⟩
      simp only [Nat.zero_mul, List.take_zero] at hf
      simp [Builtin.copy_, run_underlying hu, Builtin.lenOf, zar hi2, hsz, hf, goInt]
     ·cases h
    ·rename_i b off
     obtain ⟨hb, cap', rfl, _⟩ := hd.slI
     split at h
     ·rename_i l tyb gr hg
      obtain ⟨l', y2, hc, hrl, hy1, hy2⟩ := hw.cells hb hg
      have hll := hrl.length
      split at h
      ·rename_i hfit
       have hfit := zaw hfit
       cases h
       have hkm : m * el ≤ sl * el := Nat.mul_le_mul_right _ hksl
       have hnl : (new'.take (m * el)).length = m * el := by rw [List.length_take, hl]; omega
       have hr2 := hr.take (m * el)
       have hone' : (new'.take (m * el)).all one = true := by rw [← hr2.allOne]; exact hone
       have hst := run_storeCells' (P := P) off (new'.take (m * el)) 0 w (l' ++ y2) hc hone' (by rw [hnl, List.length_append]; omega)
       simp only [Nat.add_zero] at hst
       have hnl2 : (new0.take (m * el)).length = m * el := by rw [hr2.length, hnl]
       refine ⟨setB w (e.β b) (.cells (splice (l' ++ y2) off (new'.take (m * el))).toArray tyb), ?_, ?_⟩
       ·have hst' : (storeCells ⟨e.β b, off, none⟩ (new'.take (m * el))).run P w = .ok () (setB w (e.β b) (.cells (splice (l' ++ y2) off (new'.take (m * el))).toArray tyb)) := hst
        simp [Builtin.copy_, run_underlying hu, Builtin.lenOf, ← hk2, zar hi2, hsz, hf, goInt, hst']
       ·rw [splx_eq _ _ _ (by omega)]
        have e1 : splice (l' ++ y2) off (new'.take (m * el)) = splice l' off (new'.take (m * el)) ++ y2 := by
         unfold splice
         rw [List.take_append_of_le_length (by omega), List.drop_append_of_le_length (by omega)]
         simp
        rw [e1]
        refine hw.set hb (by rw [hg]; simp) ?_
        have hrl2 := hrl.splice hr2 off
        cases gr with
        | false => rw [hy1 rfl, List.append_nil]; exact .cells _ _ _ hrl2
        | true =>
          refine .grown _ _ _ _ hrl2 ?_
          rw [← hy2 rfl]
          simp only [List.length_append]
          rw [splice_length _ _ _ (by omega)]
      ·cases h
     ·cases h
    ·cases h
   ·cases h
 ·cases h
omit hP in
theorem srcG_run (hw : WR P B e n hp w) {ty : TypeId} {z : Nat} {x x' : Value} {K : Value → Value → R} {Q : R → Prop} (hz0 : z = zsT P ty) (hx : RV e n x x') (hbad : Q .bad) (hneed : ∀ c, Q (.need c))
  (h : ∀ (U M : Value) (r : List Value) (a' : Option Addr) (c' : Nat), x' = .slice a' r.length c' → den e.m U = some (.agg ⟨r⟩) → den e.m M = some (.int .i64 r.length) → r.length < 9223372036854775808 → r.all (srt z) = true →
   (∀ k, k ≤ r.length → (Builtin.firstCells 1 k x').run P w = .ok (r.take k).toArray w) → Q (K U M)) : Q (srcG hp ty z x K) := by
 unfold srcG
 split
 ·rename_i b off q len cap
  rw [zaa]
  split
  ·rename_i hq
   have hq := zad hq
   subst hq
   obtain ⟨rfl, hb, _⟩ := hx.slGI
   split
   ·rename_i v ty' hg
    rw [zaa]
    split
    ·rename_i ht
     have ht := zad ht
     subst ht
     obtain ⟨l, y, hc, hden, hlen, htot, hce, hone, hzl⟩ := hw.garr hb hg
     have h63 : l.length < 9223372036854775808 := by rw [hlen]; exact Nat.mod_lt _ (by decide)
     refine h v (lenGT 200 v) l _ _ (by rw [hlen]) hden (lenGT_den 200 hden h63) h63 (by rw [hz0]; exact hzl) fun k hk => ?_
     refine run_firstCells_some w 1 k _ _ _ _ (by rw [List.length_take]; omega) fun j u hu => ?_
     rw [add_none, cell_list hc]
     rw [List.getElem?_take] at hu
     split at hu
     ·rw [Nat.zero_add, List.getElem?_append_left (List.getElem?_eq_some_iff.1 hu).1]
      rw [hu]
     ·cases hu
    ·exact hbad
   ·exact hbad
  ·exact hbad
 ·rename_i op nm a c
  rw [zaa]
  split
  ·rename_i hop
   have hop := zad hop
   have hd1 := hx.symI
   have hs1 := hx.symS
   change srt (Nat.mod op 16) x' = true at hs1
   rw [hop] at hs1
   split
   ·rename_i b hd
    cases b with
    | false => exact hbad
    | true =>
      obtain ⟨u, hu⟩ := hw.grd hd
      obtain ⟨l', hl, hst0, hsr⟩ := den_sy_inv (c := 54) (s := 13) (by decide) (by decide) hu
      obtain ⟨vx, vy, g1, g2, rfl⟩ := denL2_inv hl
      rw [hd1] at g1
      cases g1
      rw [den] at g2
      cases g2
      have hst : heldI e.m x' (.int .i64 z) = some u := hst0
      clear hst0
      show Q (K _ _)
      unfold heldI at hst
      split at hst
      ·rename_i a len cap
       split at hst
       ·rename_i h0
        subst h0
        simp only [Option.some.injEq] at hst
        subst hst
        refine h _ _ [] a cap rfl hu ?_ (by simp) rfl fun k hk' => ?_
        ·exact den_sy (c := 42) (s := 3) (by decide) (by decide) (denL1 hd1) (by simp [stdI]) (zav (k := .i64) (by decide))
        ·have : k = 0 := by simpa using hk'
         subst this
         cases a <;> rfl
       ·split at hst
        ·rename_i b off
         simp only [] at hst
         split at hst
         ·rename_i l t z1 hk
          split at hst
          ·rename_i hc
           simp only [Option.some.injEq] at hst
           subst hst
           obtain ⟨hc1, hc2⟩ := hc
           have hlen : len < 9223372036854775808 := by
            have hs1 : cnd (Nat.beq 11 11) (Nat.blt len 9223372036854775808) (Nat.beq 11 12) = true := hs1
            exact blt_lt hs1
           refine h _ _ ((l.toList.drop off).take len) _ _ (by rw [hc1]) hu ?_ (by rw [hc1]; exact hlen) (by simpa using hc2) fun k hk' => ?_
           ·rw [hc1]
            exact den_sy (c := 42) (s := 3) (by decide) (by decide) (denL1 hd1) (by simp [stdI]) (zav (k := .i64) (by rw [wfK_iff]; simp only; omega))
           ·rw [hc1] at hk'
            have hkp : w.heap[b]? = some (.cells l.toList.toArray t z1) := by simpa using hw.kp _ _ hk
            refine run_firstCells_some w 1 k _ _ _ _ (by rw [List.length_take, hc1]; omega) fun j u hu => ?_
            rw [add_none, cell_list hkp]
            rw [List.getElem?_take] at hu
            split at hu
            ·rw [List.getElem?_take] at hu
             split at hu
             ·rw [List.getElem?_drop] at hu; rw [hu]
             ·cases hu
            ·cases hu
          ·cases hst
         ·cases hst
        ·cases hst
      ·cases hst
   ·exact hneed _
  ·exact hbad
 ·exact hbad
def CpRun (P : Program) (B : Base) (e : Env) (n : Nat) (w : World) (t t2 : TypeId) (ty : TypeId) (d' s' : Value) : R → Prop
 | .mem v hp' => ∃ v' w', (Builtin.copy_ #[t, t2] ty #[d', s']).run P w = .ok v' w' ∧ RV e n v v' ∧ WR P B e n hp' w'
 | .bad => True
 | .need _ => True
 | _ => False
omit hP in
theorem copyTo_run (hw : WR P B e n hp w) {t t2 ty et : TypeId} {i2 : TypeInfo} {b q : Nat} {lo s s' : Value} (hu : P.underlying t = some (.slice et)) (hi2 : P.info? et = some i2) (hsz : i2.size = 1) (hb : b < n) (hlo : den e.m lo = some (.int .i64 (q : Nat))) (hq : q ≤ e.tot b % 9223372036854775808) (hs : RV e n s s') {off' : Nat} (hoff : off' = (if e.tot b / 9223372036854775808 = q then 0 else q)) :
  CpRun P B e n w t t2 ty (.slice (some ⟨e.β b, off', none⟩) (e.tot b % 9223372036854775808 - q) (e.tot b / 9223372036854775808 - q)) s' (copyTo hp et (zsT P et) b lo s) := by
 unfold copyTo
 split
 ·rename_i v ty' hg
  rw [zaa]
  split
  ·rename_i ht
   have ht := zad ht
   subst ht
   obtain ⟨l, y, hc, hden, hlen, htot, hce, hone, hzl⟩ := hw.garr hb hg
   have h63 : l.length < 9223372036854775808 := by rw [hlen]; exact Nat.mod_lt _ (by decide)
   refine srcG_run (Q := fun r => CpRun P B e n w t t2 ty _ s' r) hw rfl hs trivial (fun _ => trivial) fun U M r a' c' hx' hU hM hr63 hrz hf => ?_
   subst hx'
   rw [← hlen] at hq ⊢
   obtain ⟨k, hk⟩ : ∃ k, k = Nat.min r.length (l.length - q) := ⟨_, rfl⟩
   have hkr : k ≤ r.length := hk ▸ Nat.min_le_left _ _
   have hkl : k ≤ l.length - q := hk ▸ Nat.min_le_right _ _
   have hkk : k = r.length ∨ k = l.length - q := by
    have : k = min r.length (l.length - q) := hk
    omega
   have hrone : (r.take k).all one = true := by
    rw [List.all_eq_true] at hrz ⊢
    exact fun u hu => srt_one (hrz u (List.mem_of_mem_take hu))
   have hlen2 : (r.take k).length = k := by rw [List.length_take]; omega
   have hcap : l.length ≤ e.tot b / 9223372036854775808 := by rw [← htot]; simp
   have hofc : off' = q ∨ (q = l.length ∧ off' = 0 ∧ k = 0) := by
    by_cases he : e.tot b / 9223372036854775808 = q
    ·right; refine ⟨by omega, by rw [hoff, if_pos he], by omega⟩
    ·left; rw [hoff, if_neg he]
   have hofl : off' + k ≤ l.length := by rcases hofc with h | ⟨h1, h2, h3⟩ <;> omega
   have hst := run_storeCells' (P := P) off' (r.take k) 0 w (l ++ y) hc hrone (by rw [hlen2, List.length_append]; omega)
   simp only [Nat.add_zero] at hst
   have hst' : (storeCells ⟨e.β b, off', none⟩ (r.take k)).run P w = .ok () (setB w (e.β b) (.cells (splice (l ++ y) off' (r.take k)).toArray et)) := hst
   have hsp : splice (l ++ y) off' (r.take k) = (l.take q ++ (r.take (l.length - q) ++ l.drop (q + r.length))) ++ y := by
    unfold splice
    rw [hlen2]
    rcases hofc with h | ⟨h1, h2, h3⟩
    ·subst h
     rw [List.take_append_of_le_length (by omega), List.drop_append_of_le_length (by omega)]
     have e1 : r.take k = r.take (l.length - off') := by
      rcases hkk with h | h
      ·rw [h, List.take_length, List.take_of_length_le (by omega)]
      ·rw [h]
     have e2 : l.drop (off' + k) = l.drop (off' + r.length) := by
      rcases hkk with h | h
      ·rw [h]
      ·rw [List.drop_eq_nil_of_le (by omega), List.drop_eq_nil_of_le (by omega)]
     rw [e1, e2]
     simp [List.append_assoc]
    ·subst h1 h2 h3
     simp
   refine ⟨.int .i64 k, setB w (e.β b) (.cells (splice (l ++ y) off' (r.take k)).toArray et), ?_, ?_, ?_⟩
   ·simp [Builtin.copy_, run_underlying hu, Builtin.lenOf, ← hk, zar hi2, hsz, hf k hkr, goInt, hst']
   ·have hL := lenGT_den 200 hden h63
    have hsub : den e.m (sy (opc 2 3) [lenGT 200 v, lo]) = some (.int .i64 ((l.length - q : Nat) : Int)) := by
     refine den_sy (c := binCode .sub) (s := 3) (by decide) (by decide) (denL2 hL hlo) ?_ (zav (k := .i64) (by rw [wfK_iff]; simp only; omega))
     rw [stdI2]
     have : IntKind.i64.wrap ((l.length : Int) - (q : Int)) = ((l.length - q : Nat) : Int) := by
      rw [IntWalk.i64_in _ (by omega)]; omega
     simp [zag, isShift, kEq_refl, zao, this]
    refine RV.sy (c := 55) (s := 3) (by decide) (by decide) (denL2 hsub hM) ?_ (zav (k := .i64) (by rw [wfK_iff]; simp only; omega))
    show some (Value.int .i64 (if ((l.length - q : Nat) : Int) < (r.length : Int) then ((l.length - q : Nat) : Int) else (r.length : Int))) = _
    congr 2
    split <;> (rcases hkk with h | h <;> omega)
   ·rw [hsp]
    refine hw.set hb (by rw [hg]; simp) ?_
    have hmem : ∀ {f : Value → Bool}, l.all f = true → r.all f = true → (l.take q ++ (r.take (l.length - q) ++ l.drop (q + r.length))).all f = true := by
     intro f h1 h2
     rw [List.all_eq_true] at h1 h2 ⊢
     intro u hu
     rcases List.mem_append.1 hu with hu | hu
     ·exact h1 u (List.mem_of_mem_take hu)
     ·rcases List.mem_append.1 hu with hu | hu
      ·exact h2 u (List.mem_of_mem_take hu)
      ·exact h1 u (List.mem_of_mem_drop hu)
    have hl2 : (l.take q ++ (r.take (l.length - q) ++ l.drop (q + r.length))).length = l.length := by
     simp only [List.length_append, List.length_take, List.length_drop]; omega
    refine .garr _ _ _ _ ?_ (by rw [hl2]; exact hlen) (by rw [List.length_append, hl2, ← List.length_append]; exact htot) hce
     (hmem hone (List.all_eq_true.2 fun u hu => srt_one (List.all_eq_true.1 hrz u hu))) (hmem hzl hrz)
    unfold overT
    rw [zaa]
    split
    ·rename_i hfull
     obtain ⟨z1, z2⟩ := zac hfull
     have z1 := veq_eq _ _ _ z1
     have z2 := veq_eq _ _ _ z2
     subst z1
     rw [← z2, lenGT_den 200 hden h63] at hM
     rw [Gz.den] at hlo
     have q0 : q = 0 := by
      have := Option.some.inj hlo
      simp only [Value.int.injEq, true_and] at this
      omega
     have lr : l.length = r.length := by
      have := Option.some.inj hM
      simp only [Value.int.injEq, true_and] at this
      omega
     subst q0
     rw [hU, List.take_zero, List.nil_append, Nat.sub_zero, lr, List.take_length, Nat.zero_add, List.drop_eq_nil_of_le (by omega), List.append_nil]
    refine den_syA (c := 53) (s := 13) (by decide) (by decide) (denL3 hden hlo hU) ?_ rfl
    show overI (.agg ⟨l⟩) (.int .i64 q) (.agg ⟨r⟩) = _
    unfold overI
    show (if (0 : Int) ≤ (q : Nat) ∧ Int.toNat (q : Nat) ≤ l.length then _ else none) = _
    rw [if_pos ⟨by omega, by simpa using hq⟩]
    simp
  ·trivial
 ·trivial
theorem copyG_run (hw : WR P B e n hp w) {t t2 ty : TypeId} {d s d' s' : Value} (hd : RV e n d d') (hs : RV e n s s') : CpRun P B e n w t t2 ty d' s' (copyG P hp t d s) := by
 unfold copyG
 split
 ·rename_i sz ag z kd hti
  cases kd with
  | sl el et =>
    obtain ⟨i0, d0, zz0, _, hu, _, _, _, _, rfl, hel, hall⟩ := zai (zam hP hti)
    obtain ⟨i2, hi2⟩ := Option.isSome_iff_exists.1 hall
    have hsz : i2.size = el := by rw [hel]; simp [cellsOf, hi2]
    simp only []
    rw [zaa]
    split
    ·rename_i hck
     have he1 := zad (zac hck).1
     rw [he1] at hsz
     split
     ·rename_i b off q len cap
      rw [zaa]
      split
      ·rename_i hq
       have hq := zad hq
       subst hq
       obtain ⟨rfl, hb, _⟩ := hd.slGI
       have := copyTo_run (t2 := t2) (ty := ty) (q := 0) hw hu hi2 hsz hb (lo := .int .i64 0) (by simp [den]) (Nat.zero_le _) hs (off' := 0) (by split <;> rfl)
       simpa using this
      ·trivial
     ·rename_i b lo lo2 c
      obtain ⟨q, rfl, hb, hdl, hq⟩ := hd.pI
      exact copyTo_run hw hu hi2 hsz hb hdl hq hs rfl
     ·trivial
    ·trivial
  | _ => trivial
 ·trivial
theorem s_copy {xs : Array Operand} {ts : Array TypeId} {t t2 : TypeId} (hw : WR P B e n hp w) (hts : ts.toList = [t, t2]) (ho : o.op = .call ⟨.builtin .copy, xs, ts⟩) (hx : ∀ x ∈ xs.toList, RV e n (ev tm x) (evx fr x)) : OpS P B e n w (bCopy (evs tm xs.toList) t t2 P tm n hp) ((execOp (evx fr) o).run P w) := by
 unfold bCopy
 have hr := RL.evs (e := e) (n := n) (tm := tm) (ρ := evx fr) xs.toList hx
 have ets : ts = #[t, t2] := by apply Array.ext'; simpa using hts
 generalize hL : xs.toList.map (evx fr) = L at hr
 split
 ·rename_i s x hxs
  rw [hxs] at hr
  cases hr with
  | cons _ s' _ l' hv hl =>
  cases hl with
  | cons _ x' _ l2 hv2 hl2 =>
  cases hl2
  have exs : xs.map (evx fr) = #[s', x'] := by apply Array.ext'; simpa using hL
  rw [zaa]
  split
  ·have := copyG_run (t := t) (t2 := t2) (ty := o.type) hP hw hv hv2
   revert this
   generalize copyG P hp t s x = r
   intro this
   cases r <;> first
    | exact trivial
    | exact this.elim
    | (obtain ⟨v', w', h1, h2, h3⟩ := this
       refine ⟨v', w', .inl ?_, h2, h3⟩
       simp only [execOp, ho, resolve, Sem.run_bind, Sem.run_pure, Result.andThen_ok, invoke, builtin, exs, ets, h1])
  split
  ·rename_i m hp' h
   obtain ⟨w', h1, h2⟩ := copy_run hP hw (ty := o.type) h hv hv2
   refine ⟨.int .i64 m, w', .inl ?_, .plain _ rfl, h2⟩
   simp only [execOp, ho, resolve, Sem.run_bind, Sem.run_pure, Result.andThen_ok, invoke, builtin, exs, ets, h1]
  ·trivial
 ·trivial
omit hP in
theorem findM_find {name : String} : ∀ {l : List Method} {m : Method}, findM name l = some m → l.find? (fun q => q.name == name) = some m
 | [], m, h => by cases h
 | a :: l, m, h => by
   unfold findM at h
   rw [zaa] at h
   split at h
   ·rename_i ha
    cases h
    simp [List.find?, ha]
   ·rename_i ha
    have ih := findM_find h
    simp [List.find?, ha, ih]
theorem methF_run {t : TypeId} {name : String} {f : FuncId} (h : methF P t name = some f) (v : Value) (k : Nat) : (method (k + 1) t v name).run P w = .ok (f, v) w := by
 unfold methF at h
 split at h
 ·rename_i sz ag z kd hti
  split at h
  ·split at h
   ·rename_i i hi
    split at h
    ·rename_i m hm
     split at h
     ·rename_i hpath
      split at h
      ·rename_i f2 b hfn
       rw [zaa] at h
       split at h
       ·rename_i hb
        cases h
        subst hb
        have hi' := infoT_info hP hi
        obtain ⟨i2, d, zz, _, hd, _, _, _, _, hk⟩ := zai (zam hP hti)
        simp only at hk
        obtain ⟨el, rfl⟩ := hk
        have hfind : i.methods.find? (fun q => q.name == name) = some m := by
         rw [← Array.find?_toList]; exact findM_find hm
        simp [method, typeInfo, hi', hfind, hpath, follow, hfn, receiverAt, run_underlying hd, Place.get]
       ·cases h
      ·cases h
     ·cases h
    ·cases h
   ·cases h
  ·cases h
 ·cases h
theorem s_callI {r : Operand} {name : String} {xs : Array Operand} {ts : Array TypeId} (ho : o.op = .call ⟨.invoke r name, xs, ts⟩) (hr : RV e n (ev tm r) (evx fr r)) (hx : ∀ x ∈ xs.toList, RV e n (ev tm x) (evx fr x)) : OpS P B e n w (aCallI r name xs P tm n hp) ((execOp (evx fr) o).run P w) := by
 unfold aCallI
 split
 ·rename_i t v hev
  rw [hev] at hr
  obtain ⟨v', hr', hv⟩ := hr.ifaceI
  split
  ·rename_i f hf
   intro hbody
   refine ⟨v' :: xs.toList.map (evx fr), ?_, .cons _ _ _ _ hv (RL.evs _ hx)⟩
   have hfn := fnOk_body hP hbody
   unfold fnOk at hfn
   split at hfn
   ·rename_i fn hfn2
    simp only [Bool.and_eq_true, bne_iff_ne, ne_eq] at hfn
    obtain ⟨c, hc⟩ := Option.isSome_iff_exists.1 hfn.2
    have hm := methF_run hP (w := w) hf v' (P.types.size + 99)
    have e1 : (v' :: xs.toList.map (evx fr)).toArray = #[v'] ++ xs.map (evx fr) := by apply Array.ext'; simp
    have e2 : (#[Value.iface t v'] ++ xs.map (evx fr))[0]? = some (.iface t v') := by rw [Array.getElem?_append_left (by simp)]; rfl
    have e3 : (#[Value.iface t v'] ++ xs.map (evx fr)).extract 1 (#[Value.iface t v'] ++ xs.map (evx fr)).size = xs.map (evx fr) := by
     apply Array.ext'
     simp only [Array.toList_extract, List.extract]
     simp
     exact List.take_of_length_le (by simp)
    rw [e1]
    simp only [execOp, ho, resolve, Sem.run_bind, Sem.run_pure, Result.andThen_ok, hr', invoke, e2, e3, callMethod, run_program, Made.depth]
    rw [show P.types.size + 100 = P.types.size + 99 + 1 by omega, hm]
    simp [callFunc, hfn2, hfn.1, hc]
   ·cases hfn
  ·trivial
 ·trivial
theorem aop_sound (hw : WR P B e n hp w) (hx : ∀ x ∈ o.op.operands.toList, RV e n (ev tm x) (evx fr x)) : OpS P B e n w ((aopW o.op).f P tm n hp) ((execOp (evx fr) o).run P w) := by
 cases ho : o.op with
 | move x => exact s_move (hp := hp) (.inl ho) (hx x (by simp [ho, Op.operands]))
 | assign x => exact s_move (hp := hp) (.inr ho) (hx x (by simp [ho, Op.operands]))
 | pick c a b => exact s_pick hw ho (hx c (by simp [ho, Op.operands])) (hx a (by simp [ho, Op.operands])) (hx b (by simp [ho, Op.operands]))
 | alloc t => exact s_alloc hP (tm := tm) hw ho
 | box t x => exact s_box hw ho (hx x (by simp [ho, Op.operands]))
 | load t a => exact s_load hP hw ho (hx a (by simp [ho, Op.operands]))
 | store t a x => exact s_store hP hw ho (hx a (by simp [ho, Op.operands])) (hx x (by simp [ho, Op.operands]))
 | fieldAddr s x f => exact s_fieldAddr hP hw ho (hx x (by simp [ho, Op.operands]))
 | field s x f => exact s_field (hp := hp) hP ho (hx x (by simp [ho, Op.operands]))
 | nilCheck x => exact s_nilCheck (hp := hp) ho (hx x (by simp [ho, Op.operands]))
 | binOp op t x y t' => exact s_binOp hP hw ho (hx x (by simp [ho, Op.operands])) (hx y (by simp [ho, Op.operands]))
 | unOp op t x => exact s_unOp (hp := hp) ho (hx x (by simp [ho, Op.operands]))
 | extract x i => exact s_extract (hp := hp) ho (hx x (by simp [ho, Op.operands]))
 | build t ps => exact s_build (hp := hp) hP ho fun q hq => hx q.2 (by simp only [ho, Op.operands]; exact List.mem_map_of_mem hq)
 | buildSlice t len ps => exact s_buildSlice hP hw ho fun q hq => hx q.2 (by simp only [ho, Op.operands]; exact List.mem_map_of_mem hq)
 | makeFunc fn a b => exact s_makeFunc (hp := hp) ho (fun x h => hx x (by simp [ho, Op.operands]; exact .inl (by simpa using h))) (fun x h => hx x (by simp [ho, Op.operands]; exact .inr (by simpa using h)))
 | makeInterface t x => exact s_makeInterface (hp := hp) hP ho (hx x (by simp [ho, Op.operands]))
 | indexAddr t x i => exact s_indexAddr hP hw ho (hx x (by simp [ho, Op.operands])) (hx i (by simp [ho, Op.operands]))
 | index t x i => exact s_index (hp := hp) hP hw ho (hx x (by simp [ho, Op.operands])) (hx i (by simp [ho, Op.operands]))
 | lookup t x k ok => exact s_lookup hP hw ho (hx x (by simp [ho, Op.operands])) (hx k (by simp [ho, Op.operands]))
 | insert t m k v => exact s_update hP hw (.inl ho) (hx m (by simp [ho, Op.operands])) (hx k (by simp [ho, Op.operands])) (hx v (by simp [ho, Op.operands]))
 | mapUpdate t m k v => exact s_update hP hw (.inr ho) (hx m (by simp [ho, Op.operands])) (hx k (by simp [ho, Op.operands])) (hx v (by simp [ho, Op.operands]))
 | makeMap t r => exact s_makeMap (tm := tm) hw ho
 | makeSlice t l c => exact s_makeSlice hP hw ho (hx l (by simp [ho, Op.operands])) (hx c (by simp [ho, Op.operands]))
 | slice t x lo hi mx => exact s_slice (hp := hp) hP hw ho (hx x (by simp [ho, Op.operands])) (fun q h => hx q (by simp [ho, Op.operands, h])) (fun q h => hx q (by simp [ho, Op.operands, h])) (fun q h => hx q (by simp [ho, Op.operands, h]))
 | convert s d x => exact s_convert (hp := hp) hP ho (hx x (by simp [ho, Op.operands]))
 | range t x => exact s_range hP hw ho (hx x (by simp [ho, Op.operands]))
 | next it str => exact s_next hw ho (hx it (by simp [ho, Op.operands]))
 | typeAssert x xt a ok => exact s_typeAssert (hp := hp) hP ho (hx x (by simp [ho, Op.operands]))
 | panic x => exact s_panic (hp := hp) ho (hx x (by simp [ho, Op.operands]))
 | defer c => exact s_defer (hp := hp) ho fun x h => hx x (by simp only [ho, Op.operands]; exact h)
 | call c =>
   obtain ⟨callee, xs, ts⟩ := c
   have hxs : ∀ x ∈ xs.toList, RV e n (ev tm x) (evx fr x) := fun x h => hx x (by simp [ho, Op.operands, Call.operands]; exact .inr (by simpa using h))
   cases callee with
   | value f => exact s_callV (hp := hp) hP ho (hx f (by simp [ho, Op.operands, Call.operands])) hxs
   | invoke r m => exact s_callI (hp := hp) hP ho (hx r (by simp [ho, Op.operands, Call.operands])) hxs
   | builtin b =>
     show OpS P B e n w (aBuiltin b xs ts P tm n hp) _
     unfold aBuiltin
     split
     ·split
      ·rename_i t hts; exact s_len hP hw hts ho hxs
      ·trivial
     ·split
      ·rename_i t t2 hts; exact s_append hP hw hts ho hxs
      ·trivial
     ·split
      ·rename_i t t2 hts; exact s_copy hP hw hts ho hxs
      ·trivial
     ·exact s_max hw ho hxs
     ·exact s_min hw ho hxs
     ·show _ = _
      simp [execOp, ho, resolve, invoke, builtin]
     ·trivial
 | _ => trivial
end
end Go.Gz
