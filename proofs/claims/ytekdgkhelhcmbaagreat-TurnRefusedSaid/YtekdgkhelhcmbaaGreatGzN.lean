/- The evaluator that the kernel runs: one operation, part 8: copy; all of them together. -/
import Derived.Test.YtekdgkhelhcmbaaGreatGzM
namespace Go.Gz
open Go Go.Gx Go.RowKit

section
variable {P : Program} (hP : Small P) {B : Base} {e : Env} {n : Nat} {hp : Hp} {w : World} {tm : Tm} {fr : List Value} {o : Oper}
theorem srcPart (hw : WR P B e n hp w) {el el2 m k : Nat} {et2 : TypeId} {x x' : Value} {new : List Value} (h : srcOf hp el (.sl el2 et2) x = some (m, new)) (hx : RV e n x x') (hk : k ≤ m) :
    ∃ new' c a, (Builtin.firstCells el k x').run P w = .ok (new'.take (k * el)).toArray w ∧ RL e n new new' ∧ new'.length = m * el ∧ x' = .slice a m c := by
  unfold srcOf at h
  simp only at h
  split at h
  · rename_i m0 c0
    rw [cnd_ite] at h
    split at h
    · rename_i hm
      have := beq_eq hm
      subst this
      cases h
      have := hx.slN; subst this
      have : k = 0 := by omega
      subst this
      exact ⟨[], c0, none, by simp [Builtin.firstCells], .nil, by simp, rfl⟩
    · cases h
  · rename_i b off m0 c0
    obtain ⟨hb, cap', rfl, _⟩ := hx.slI
    split at h
    · rename_i l hl
      obtain ⟨ty, gr, hg⟩ := cellsAt_some hl
      obtain ⟨l', y, hc, hr, _, _⟩ := hw.cells hb hg
      rw [cnd_ite] at h
      split at h
      · rename_i hle
        have hle := ble_le hle
        cases h
        have hr2 := (hr.drop off).take (m * el)
        have hlen : ((l'.drop off).take (m * el)).length = m * el := by rw [← hr2.length]; simp; omega
        have hkm : k * el ≤ m * el := Nat.mul_le_mul_right _ hk
        refine ⟨(l'.drop off).take (m * el), cap', some ⟨e.β b, off, none⟩, ?_, hr2, hlen, rfl⟩
        refine run_firstCells_some w el k _ _ _ _ (by rw [List.length_take, hlen]; omega) fun j u hu => ?_
        rw [add_none, cell_list hc]
        rw [List.getElem?_take] at hu
        split at hu
        · rw [List.getElem?_take] at hu
          split at hu
          · rw [List.getElem?_drop] at hu
            rw [List.getElem?_append_left (List.getElem?_eq_some_iff.1 hu).1]
            exact hu
          · cases hu
        · cases hu
      · cases h
    · cases h
  · cases h

include hP
theorem copy_run (hw : WR P B e n hp w) {t t2 ty : TypeId} {d s d' s' : Value} {m : Nat} {hp' : Hp} (h : copyx P hp t t2 d s = some (m, hp')) (hd : RV e n d d') (hs : RV e n s s') :
    ∃ w', (Builtin.copy_ #[t, t2] ty #[d', s']).run P w = .ok (.int .i64 m) w' ∧ WR P B e n hp' w' := by
  unfold copyx at h
  split at h
  · rename_i sz ag z el et sz2 ag2 z2 el2 et2 base dl cap hti hti2
    obtain ⟨i0, d0, zz0, _, hu, _, _, _, _, rfl, hel, hall⟩ := tiof_info (ti_tiof hP hti)
    obtain ⟨i2, hi2⟩ := Option.isSome_iff_exists.1 hall
    have hsz : i2.size = el := by rw [hel]; simp [cellsOf, hi2]
    split at h
    · cases h
    · rename_i sl new0 hsrc
      simp only [cnd_ite] at h
      have hm : ∃ k, k = (if Nat.ble sl dl = true then sl else dl) ∧ k = Nat.min sl dl := by
        refine ⟨_, rfl, ?_⟩
        by_cases hle : sl ≤ dl
        · rw [if_pos (Nat.ble_eq_true_of_le hle)]; exact (Nat.min_eq_left hle).symm
        · rw [if_neg (fun h => hle (ble_le h))]; exact (Nat.min_eq_right (by omega)).symm
      obtain ⟨k, hk1, hk2⟩ := hm
      rw [← hk1] at h
      have hksl : k ≤ sl := hk2 ▸ Nat.min_le_left sl dl
      obtain ⟨new', c', a', hf, hr, hl, rfl⟩ := srcPart hw hsrc hs hksl
      split at h
      · rename_i hone
        split at h
        · split at h
          · rename_i hd0
            have := beq_eq hd0; subst this
            cases h
            have := hd.slN; subst this
            have hk0 : k = 0 := by rw [hk2]; simp
            subst hk0
            refine ⟨w, ?_, hw⟩
            simp only [Nat.zero_mul, List.take_zero] at hf
            simp [Builtin.copy_, run_underlying hu, Builtin.lenOf, run_sizeOf' hi2, hsz, hf, goInt]
          · cases h
        · rename_i b off
          obtain ⟨hb, cap', rfl, _⟩ := hd.slI
          split at h
          · rename_i l tyb gr hg
            obtain ⟨l', y2, hc, hrl, hy1, hy2⟩ := hw.cells hb hg
            have hll := hrl.length
            split at h
            · rename_i hfit
              have hfit := ble_le hfit
              cases h
              have hkm : m * el ≤ sl * el := Nat.mul_le_mul_right _ hksl
              have hnl : (new'.take (m * el)).length = m * el := by rw [List.length_take, hl]; omega
              have hr2 := hr.take (m * el)
              have hone' : (new'.take (m * el)).all one = true := by rw [← hr2.allOne]; exact hone
              have hst := run_storeCells' (P := P) off (new'.take (m * el)) 0 w (l' ++ y2) hc hone' (by rw [hnl, List.length_append]; omega)
              simp only [Nat.add_zero] at hst
              have hnl2 : (new0.take (m * el)).length = m * el := by rw [hr2.length, hnl]
              refine ⟨setB w (e.β b) (.cells (splice (l' ++ y2) off (new'.take (m * el))).toArray tyb), ?_, ?_⟩
              · have hst' : (storeCells ⟨e.β b, off, none⟩ (new'.take (m * el))).run P w = .ok () (setB w (e.β b) (.cells (splice (l' ++ y2) off (new'.take (m * el))).toArray tyb)) := hst
                simp [Builtin.copy_, run_underlying hu, Builtin.lenOf, ← hk2, run_sizeOf' hi2, hsz, hf, goInt, hst']
              · rw [splx_eq _ _ _ (by omega)]
                have e1 : splice (l' ++ y2) off (new'.take (m * el)) = splice l' off (new'.take (m * el)) ++ y2 := by
                  unfold splice
                  rw [List.take_append_of_le_length (by omega), List.drop_append_of_le_length (by omega)]
                  simp
                rw [e1]
                refine hw.set hb (by rw [hg]; simp) ?_
                have hrl2 := hrl.splice hr2 off
                cases gr with
                | false => rw [hy1 rfl, List.append_nil]; exact .cells _ _ _ hrl2
                | true =>
                  refine .grown _ _ _ _ hrl2 ?_
                  rw [← hy2 rfl]
                  simp only [List.length_append]
                  rw [splice_length _ _ _ (by omega)]
            · cases h
          · cases h
        · cases h
      · cases h
  · cases h

theorem s_copy {xs : Array Operand} {ts : Array TypeId} {t t2 : TypeId} (hw : WR P B e n hp w) (hts : ts.toList = [t, t2]) (ho : o.op = .call ⟨.builtin .copy, xs, ts⟩) (hx : ∀ x ∈ xs.toList, RV e n (ev tm x) (evx fr x)) : OpS P B e n w (bCopy (evs tm xs.toList) t t2 P tm n hp) ((execOp (evx fr) o).run P w) := by
  unfold bCopy
  have hr := RL.evs (e := e) (n := n) (tm := tm) (ρ := evx fr) xs.toList hx
  have ets : ts = #[t, t2] := by apply Array.ext'; simpa using hts
  generalize hL : xs.toList.map (evx fr) = L at hr
  split
  · rename_i s x hxs
    rw [hxs] at hr
    cases hr with
    | cons _ s' _ l' hv hl =>
    cases hl with
    | cons _ x' _ l2 hv2 hl2 =>
    cases hl2
    have exs : xs.map (evx fr) = #[s', x'] := by apply Array.ext'; simpa using hL
    split
    · rename_i m hp' h
      obtain ⟨w', h1, h2⟩ := copy_run hP hw (ty := o.type) h hv hv2
      refine ⟨.int .i64 m, w', .inl ?_, .plain _ rfl, h2⟩
      simp only [execOp, ho, resolve, Sem.run_bind, Sem.run_pure, Result.andThen_ok, invoke, builtin, exs, ets, h1]
    · trivial
  · trivial

omit hP in
theorem findM_find {name : String} : ∀ {l : List Method} {m : Method}, findM name l = some m → l.find? (fun q => q.name == name) = some m
  | [], m, h => by cases h
  | a :: l, m, h => by
    unfold findM at h
    rw [cnd_ite] at h
    split at h
    · rename_i ha
      cases h
      simp [List.find?, ha]
    · rename_i ha
      have ih := findM_find h
      simp [List.find?, ha, ih]

theorem methF_run {t : TypeId} {name : String} {f : FuncId} (h : methF P t name = some f) (v : Value) (k : Nat) : (method (k + 1) t v name).run P w = .ok (f, v) w := by
  unfold methF at h
  split at h
  · rename_i sz ag z kd hti
    split at h
    · split at h
      · rename_i i hi
        split at h
        · rename_i m hm
          split at h
          · rename_i hpath
            split at h
            · rename_i f2 b hfn
              rw [cnd_ite] at h
              split at h
              · rename_i hb
                cases h
                subst hb
                have hi' := infoT_info hP hi
                obtain ⟨i2, d, zz, _, hd, _, _, _, _, hk⟩ := tiof_info (ti_tiof hP hti)
                simp only at hk
                obtain ⟨el, rfl⟩ := hk
                have hfind : i.methods.find? (fun q => q.name == name) = some m := by
                  rw [← Array.find?_toList]; exact findM_find hm
                simp [method, typeInfo, hi', hfind, hpath, follow, hfn, receiverAt, run_underlying hd, Place.get]
              · cases h
            · cases h
          · cases h
        · cases h
      · cases h
    · cases h
  · cases h

theorem s_callI {r : Operand} {name : String} {xs : Array Operand} {ts : Array TypeId} (ho : o.op = .call ⟨.invoke r name, xs, ts⟩) (hr : RV e n (ev tm r) (evx fr r)) (hx : ∀ x ∈ xs.toList, RV e n (ev tm x) (evx fr x)) : OpS P B e n w (aCallI r name xs P tm n hp) ((execOp (evx fr) o).run P w) := by
  unfold aCallI
  split
  · rename_i t v hev
    rw [hev] at hr
    obtain ⟨v', hr', hv⟩ := hr.ifaceI
    split
    · rename_i f hf
      intro hbody
      refine ⟨v' :: xs.toList.map (evx fr), ?_, .cons _ _ _ _ hv (RL.evs _ hx)⟩
      have hfn := fnOk_body hP hbody
      unfold fnOk at hfn
      split at hfn
      · rename_i fn hfn2
        simp only [Bool.and_eq_true, bne_iff_ne, ne_eq] at hfn
        obtain ⟨c, hc⟩ := Option.isSome_iff_exists.1 hfn.2
        have hm := methF_run hP (w := w) hf v' (P.types.size + 99)
        have e1 : (v' :: xs.toList.map (evx fr)).toArray = #[v'] ++ xs.map (evx fr) := by apply Array.ext'; simp
        have e2 : (#[Value.iface t v'] ++ xs.map (evx fr))[0]? = some (.iface t v') := by rw [Array.getElem?_append_left (by simp)]; rfl
        have e3 : (#[Value.iface t v'] ++ xs.map (evx fr)).extract 1 (#[Value.iface t v'] ++ xs.map (evx fr)).size = xs.map (evx fr) := by
          apply Array.ext'
          simp only [Array.toList_extract, List.extract]
          simp
          exact List.take_of_length_le (by simp)
        rw [e1]
        simp only [execOp, ho, resolve, Sem.run_bind, Sem.run_pure, Result.andThen_ok, hr', invoke, e2, e3, callMethod, run_program, Made.depth]
        rw [show P.types.size + 100 = P.types.size + 99 + 1 by omega, hm]
        simp [callFunc, hfn2, hfn.1, hc]
      · cases hfn
    · trivial
  · trivial

/-- ONE OPERATION. -/
theorem aop_sound (hw : WR P B e n hp w) (hx : ∀ x ∈ o.op.operands.toList, RV e n (ev tm x) (evx fr x)) : OpS P B e n w ((aopW o.op).f P tm n hp) ((execOp (evx fr) o).run P w) := by
  cases ho : o.op with
  | move x => exact s_move (hp := hp) (.inl ho) (hx x (by simp [ho, Op.operands]))
  | assign x => exact s_move (hp := hp) (.inr ho) (hx x (by simp [ho, Op.operands]))
  | pick c a b => exact s_pick hw ho (hx c (by simp [ho, Op.operands])) (hx a (by simp [ho, Op.operands])) (hx b (by simp [ho, Op.operands]))
  | alloc t => exact s_alloc hP (tm := tm) hw ho
  | box t x => exact s_box hw ho (hx x (by simp [ho, Op.operands]))
  | load t a => exact s_load hP hw ho (hx a (by simp [ho, Op.operands]))
  | store t a x => exact s_store hP hw ho (hx a (by simp [ho, Op.operands])) (hx x (by simp [ho, Op.operands]))
  | fieldAddr s x f => exact s_fieldAddr hP hw ho (hx x (by simp [ho, Op.operands]))
  | field s x f => exact s_field (hp := hp) hP ho (hx x (by simp [ho, Op.operands]))
  | nilCheck x => exact s_nilCheck (hp := hp) ho (hx x (by simp [ho, Op.operands]))
  | binOp op t x y t' => exact s_binOp hP hw ho (hx x (by simp [ho, Op.operands])) (hx y (by simp [ho, Op.operands]))
  | unOp op t x => exact s_unOp (hp := hp) ho (hx x (by simp [ho, Op.operands]))
  | extract x i => exact s_extract (hp := hp) ho (hx x (by simp [ho, Op.operands]))
  | build t ps => exact s_build (hp := hp) hP ho fun q hq => hx q.2 (by simp only [ho, Op.operands]; exact List.mem_map_of_mem hq)
  | buildSlice t len ps => exact s_buildSlice hP hw ho fun q hq => hx q.2 (by simp only [ho, Op.operands]; exact List.mem_map_of_mem hq)
  | makeFunc fn a b => exact s_makeFunc (hp := hp) ho (fun x h => hx x (by simp [ho, Op.operands]; exact .inl (by simpa using h))) (fun x h => hx x (by simp [ho, Op.operands]; exact .inr (by simpa using h)))
  | makeInterface t x => exact s_makeInterface (hp := hp) hP ho (hx x (by simp [ho, Op.operands]))
  | indexAddr t x i => exact s_indexAddr hP hw ho (hx x (by simp [ho, Op.operands])) (hx i (by simp [ho, Op.operands]))
  | index t x i => exact s_index (hp := hp) hP hw ho (hx x (by simp [ho, Op.operands])) (hx i (by simp [ho, Op.operands]))
  | lookup t x k ok => exact s_lookup hP hw ho (hx x (by simp [ho, Op.operands])) (hx k (by simp [ho, Op.operands]))
  | insert t m k v => exact s_update hP hw (.inl ho) (hx m (by simp [ho, Op.operands])) (hx k (by simp [ho, Op.operands])) (hx v (by simp [ho, Op.operands]))
  | mapUpdate t m k v => exact s_update hP hw (.inr ho) (hx m (by simp [ho, Op.operands])) (hx k (by simp [ho, Op.operands])) (hx v (by simp [ho, Op.operands]))
  | makeMap t r => exact s_makeMap (tm := tm) hw ho
  | makeSlice t l c => exact s_makeSlice hP hw ho (hx l (by simp [ho, Op.operands])) (hx c (by simp [ho, Op.operands]))
  | slice t x lo hi mx => exact s_slice (hp := hp) hP ho (hx x (by simp [ho, Op.operands])) (fun q h => hx q (by simp [ho, Op.operands, h])) (fun q h => hx q (by simp [ho, Op.operands, h])) (fun q h => hx q (by simp [ho, Op.operands, h]))
  | convert s d x => exact s_convert (hp := hp) hP ho (hx x (by simp [ho, Op.operands]))
  | range t x => exact s_range hP hw ho (hx x (by simp [ho, Op.operands]))
  | next it str => exact s_next hw ho (hx it (by simp [ho, Op.operands]))
  | typeAssert x xt a ok => exact s_typeAssert (hp := hp) hP ho (hx x (by simp [ho, Op.operands]))
  | panic x => exact s_panic (hp := hp) ho (hx x (by simp [ho, Op.operands]))
  | defer c => exact s_defer (hp := hp) ho fun x h => hx x (by simp only [ho, Op.operands]; exact h)
  | call c =>
    obtain ⟨callee, xs, ts⟩ := c
    have hxs : ∀ x ∈ xs.toList, RV e n (ev tm x) (evx fr x) := fun x h => hx x (by simp [ho, Op.operands, Call.operands]; exact .inr (by simpa using h))
    cases callee with
    | value f => exact s_callV (hp := hp) hP ho (hx f (by simp [ho, Op.operands, Call.operands])) hxs
    | invoke r m => exact s_callI (hp := hp) hP ho (hx r (by simp [ho, Op.operands, Call.operands])) hxs
    | builtin b =>
      show OpS P B e n w (aBuiltin b xs ts P tm n hp) _
      unfold aBuiltin
      split
      · split
        · rename_i t hts; exact s_len hP hw hts ho hxs
        · trivial
      · split
        · rename_i t t2 hts; exact s_append hP hw hts ho hxs
        · trivial
      · split
        · rename_i t t2 hts; exact s_copy hP hw hts ho hxs
        · trivial
      · exact s_max hw ho hxs
      · exact s_min hw ho hxs
      · show _ = _
        simp [execOp, ho, resolve, invoke, builtin]
      · trivial
  | _ => trivial
end

end Go.Gz
