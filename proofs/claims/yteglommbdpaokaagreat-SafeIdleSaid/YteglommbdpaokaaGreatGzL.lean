/- The evaluator that the kernel runs: one operation, part 6: ranges, calls, what is built in. -/
import Derived.Test.YteglommbdpaokaaGreatGzJ
namespace Go.Gz
open Go Go.Gx Go.RowKit
section
variable {P : Program} (hP : Small P) {B : Base} {e : Env} {n : Nat} {hp : Hp} {w : World} {tm : Tm} {fr : List Value} {o : Oper}
include hP
theorem s_range {t : TypeId} {x : Operand} (hw : WR P B e n hp w) (ho : o.op = .range t x) (hx : RV e n (ev tm x) (evx fr x)) : OpS P B e n w (aRange t x P tm n hp) ((execOp (evx fr) o).run P w) := by
 unfold aRange
 split
 ·rename_i sz ag z s hti hev
  rw [hev] at hx
  have hx' := hx.strI
  obtain ⟨i, d, zz, hi, hd, hz, _, _, _, hk⟩ := zai (zam hP hti)
  simp only at hk
  subst hk
  intro hn
  refine ⟨.pointer (some ⟨w.heap.size, 0, none⟩), _, w.heap.size, 0, by simp [execOp, ho, hx', Instr.range, run_underlying hd], ?_, hw.alloc hn (.sit s 0)⟩
  have := RV.ptr (e := e.add n w.heap.size 0) (n := n + 1) n 0 (by omega)
  rwa [Env.add_β] at this
 ·trivial
omit hP
theorem WR.sit (hw : WR P B e n hp w) {b : Nat} (hb : b < n) {s : ByteArray} {pos : Nat} (h : hp.get b = .sit s pos) : w.heap[e.β b]? = some (.stringIter s pos) := by
 obtain ⟨o, ho, hr⟩ := hw.obj b hb (by rw [h]; simp)
 rw [h] at hr
 cases hr with
 | sit => exact ho
theorem decode_one (s : ByteArray) (pos : Nat) {b : UInt8} (h : s.data.toList[pos]? = some b) (hl : b.toNat < 128) : Utf8.decode s pos = (b.toNat, 1) := by
 have hlt : pos < s.size := by
  have := (List.getElem?_eq_some_iff.1 h).1
  simpa using this
 have e1 : s.get! (pos + 0) = b := by
  show s.get! pos = _
  have h2 : s.data[pos]? = some b := by simpa using h
  simp [ByteArray.get!, getElem!_def, h2]
 simp only [Utf8.decode, e1]
 rw [if_pos (by omega)]
theorem s_next {it : Operand} {str : Bool} (hw : WR P B e n hp w) (ho : o.op = .next it str) (hx : RV e n (ev tm it) (evx fr it)) : OpS P B e n w (aNext it str P tm n hp) ((execOp (evx fr) o).run P w) := by
 unfold aNext
 split
 ·rename_i r hev
  rw [hev] at hx
  obtain ⟨hx', hb⟩ := hx.ptrI
  split
  ·rename_i s pos hg
   have ho2 := hw.sit hb hg
   have hget := getObj_run (P := P) ho2 (by simp)
   have hset := fun o' => setObj_run (P := P) (o' := o') ho2 (by simp)
   rw [zaa]
   split
   ·rename_i hst
    subst hst
    split
    ·rename_i b hbb
     rw [zaa]
     split
     ·rename_i hlow
      have hlow := blt_lt hlow
      have hd := decode_one s pos hbb hlow
      have hlt : pos < s.size := by
       have := (List.getElem?_eq_some_iff.1 hbb).1
       simpa using this
      refine ⟨.tuple #[.bool true, .int .i64 pos, .int .i32 b.toNat], setB w (e.β r) (.stringIter s (pos + 1)), .inl ?_, .tuple _ _ (.cons _ _ _ _ (.plain _ rfl) (.cons _ _ _ _ (.plain _ rfl) (.cons _ _ _ _ (.plain _ rfl) .nil))), hw.set hb (by rw [hg]; simp) (.sit s (pos + 1))⟩
      simp [execOp, ho, hx', Instr.next, hget, hlt, hd, hset, goInt]
     ·trivial
    ·rename_i hbb
     have hlt : ¬ pos < s.size := by
      intro h
      rw [List.getElem?_eq_getElem (by simpa using h)] at hbb
      cases hbb
     exact ⟨.tuple #[.bool false], by simp [execOp, ho, hx', Instr.next, hget, hlt], .tuple _ _ (.cons _ _ _ _ (.plain _ rfl) .nil)⟩
   ·trivial
  ·trivial
 ·trivial
include hP
theorem s_typeAssert {x : Operand} {xt a : TypeId} {ok : Bool} (ho : o.op = .typeAssert x xt a ok) (hx : RV e n (ev tm x) (evx fr x)) : OpS P B e n w (aTypeAssert x a ok P tm n hp) ((execOp (evx fr) o).run P w) := by
 unfold aTypeAssert
 split
 ·rename_i t v sz ag z kd hev hti
  rw [hev] at hx
  obtain ⟨v', hx', hr⟩ := hx.ifaceI
  obtain ⟨i, d, zz, hi, hd, hz, _, _, _, hk⟩ := zai (zam hP hti)
  split
  ·trivial
  ·trivial
  ·rename_i h1 h2
   rw [zaa]
   split
   ·rename_i ht
    have := zad ht
    subst this
    have hni : ∀ ms, d ≠ .interface ms := by
     intro ms hms
     subst hms
     cases kd <;> simp_all
    refine ⟨if ok then .tuple #[v', .bool true] else v', ?_, ?_⟩
    ·cases d <;> first
      | exact absurd rfl (hni _)
      | (cases ok <;> simp [execOp, ho, hx', Instr.typeAssert, run_underlying hd])
    ·cases ok
     ·exact hr
     ·exact .tuple _ _ (.cons _ _ _ _ hr (.cons _ _ _ _ (.plain _ rfl) .nil))
   ·trivial
 ·trivial
omit hP
theorem s_defer {c : Call} (ho : o.op = .defer c) (hx : ∀ x ∈ c.operands.toList, RV e n (ev tm x) (evx fr x)) : OpS P B e n w (aDefer c P tm n hp) ((execOp (evx fr) o).run P w) := by
 unfold aDefer
 split
 ·rename_i f xs ts
  split
  ·rename_i g a b hev
   have hf := hx f (by simp [Call.operands])
   rw [hev] at hf
   obtain ⟨a', b', hf', ha, hb⟩ := hf.funcI
   have hxs : RL e n (evs tm xs.toList) (xs.toList.map (evx fr)) := RL.evs _ fun y hy => hx y (by simp [Call.operands]; exact .inr (by simpa using hy))
   refine ⟨⟨.fn (.func g) b', a' ++ xs.map (evx fr)⟩, ?_, .fn g _ _ _ _ hb ?_⟩
   ·simp [execOp, ho, resolve, Deferred.ofValue, hf']
   ·simpa using ha.append hxs
  ·trivial
 ·trivial
include hP
theorem fnOk_body {g : FuncId} (h : (bodyOf P g).isSome = true) : fnOk P g = true := by
 unfold bodyOf at h
 rw [zaa] at h
 split at h
 ·rename_i hb
  split at h
  ·rename_i fn hf
   have hf' := ftab_get hP (blt_lt hb) hf
   split at h
   ·rename_i c hc
    have := hP.2.2.2 g fn hf' (by simp [hc])
    unfold fnOk
    rw [hf']
    simp [hc, this, bne]
   ·simp at h
  ·simp at h
 ·simp at h
theorem s_callV {f : Operand} {xs : Array Operand} {ts : Array TypeId} (ho : o.op = .call ⟨.value f, xs, ts⟩) (hf : RV e n (ev tm f) (evx fr f)) (hx : ∀ x ∈ xs.toList, RV e n (ev tm x) (evx fr x)) : OpS P B e n w (aCallV f xs P tm n hp) ((execOp (evx fr) o).run P w) := by
 unfold aCallV
 split
 ·rename_i g a b hev
  rw [hev] at hf
  obtain ⟨a', b', hf', ha, hb⟩ := hf.funcI
  intro hbody
  refine ⟨a'.toList ++ xs.toList.map (evx fr) ++ b'.toList, opx_call ho hf' (fnOk_body hP hbody) w, ?_⟩
  rw [List.append_assoc]
  exact ha.append ((RL.evs _ hx).append hb)
 ·rename_i l a b hev
  rw [hev] at hf
  rw [zaa]
  split
  rotate_left
  ·trivial
  rename_i hab
  obtain ⟨hf', hl⟩ := hf.yieldI (by rw [Bool.and_eq_true] at hab; exact hab.1)
  refine ⟨xs.toList.map (evx fr), ?_, RL.evs _ hx, hl⟩
  have e1 : (xs.toList.map (evx fr)).toArray = xs.map (evx fr) := by apply Array.ext'; simp
  rw [e1]
  simp [execOp, ho, resolve, Deferred.ofValue, hf', invoke]
 ·trivial
theorem s_len {xs : Array Operand} {ts : Array TypeId} {t : TypeId} (hw : WR P B e n hp w) (hts : ts.toList = [t]) (ho : o.op = .call ⟨.builtin .len, xs, ts⟩) (hx : ∀ x ∈ xs.toList, RV e n (ev tm x) (evx fr x)) : OpS P B e n w (bLen (evs tm xs.toList) t P tm n hp) ((execOp (evx fr) o).run P w) := by
 unfold bLen
 have hr := RL.evs (e := e) (n := n) (tm := tm) (ρ := evx fr) xs.toList hx
 have ets : ts = #[t] := by apply Array.ext'; simpa using hts
 generalize hL : xs.toList.map (evx fr) = L at hr
 split
 ·rename_i x hxs
  rw [hxs] at hr
  cases hr with
  | cons _ x' _ l' hv hl =>
  cases hl
  have exs : xs.map (evx fr) = #[x'] := by apply Array.ext'; simpa using hL
  split
  ·rename_i b off len cap sz ag z el et hti
   obtain ⟨i, d, zz, hi, hd, hz, _, _, _, rfl, _, _⟩ := zai (zam hP hti)
   show OpS P B e n w (lenG hp b) _
   unfold lenG
   split
   ·rename_i v ty hg
    obtain ⟨rfl, hb, _⟩ := hv.slGI
    obtain ⟨l, y, h1, h2, h3, h4, _⟩ := hw.garr hb hg
    have h5 : l.length < 9223372036854775808 := by
     have := Nat.mod_lt (e.tot b) (show 0 < 9223372036854775808 by decide)
     omega
    have hwf : wfK .i64 (l.length : Int) = true := by rw [wfK_iff]; simp only; omega
    exact ⟨.int .i64 l.length, by rw [h3]; simp [execOp, ho, resolve, invoke, builtin, exs, ets, Builtin.len_, run_underlying hd, goInt], RV.ofDenV (lenGT_den 200 h2 h5) (zav (k := .i64) hwf)⟩
   ·trivial
  ·rename_i a m c sz ag z el et hno hti
   obtain ⟨i, d, zz, hi, hd, hz, _, _, _, rfl, _, _⟩ := zai (zam hP hti)
   obtain ⟨a', c', rfl⟩ : ∃ a' c', x' = .slice a' m c' := by
    cases hv with
    | plain _ h => exact ⟨_, _, rfl⟩
    | slice => exact ⟨_, _, rfl⟩
    | sliceU => exact ⟨_, _, rfl⟩
    | sliceV => exact ⟨_, _, rfl⟩
    | sliceZ => exact ⟨_, _, rfl⟩
    | sliceG => exact absurd rfl (hno _ _)
   exact ⟨.int .i64 m, by simp [execOp, ho, resolve, invoke, builtin, exs, ets, Builtin.len_, run_underlying hd, goInt], .plain _ rfl⟩
  ·rename_i s sz ag z hti
   obtain ⟨i, d, zz, hi, hd, hz, _, _, _, hk⟩ := zai (zam hP hti)
   simp only at hk
   subst hk
   have := hv.strI; subst this
   exact ⟨.int .i64 s.size, by simp [execOp, ho, resolve, invoke, builtin, exs, ets, Builtin.len_, run_underlying hd, goInt], .plain _ rfl⟩
  ·rename_i m x0 hti
   split
   ·rename_i q es hmk hes
    obtain ⟨kd, et⟩ := q
    obtain ⟨kt, ht, _⟩ := mapK_run hP hmk
    unfold entriesOf at hes
    split at hes
    ·rename_i heq
     cases heq
     cases hes
     have := hv.mapN; subst this
     exact ⟨.int .i64 0, by simp [execOp, ho, resolve, invoke, builtin, exs, ets, Builtin.len_, run_underlying ht, goInt], .plain _ rfl⟩
    ·rename_i r heq
     cases heq
     obtain ⟨rfl, hb⟩ := hv.mapI
     split at hes
     ·rename_i l c hg
      cases hes
      obtain ⟨l', h1, h2⟩ := hw.map hb hg
      have hget := getObj_run (P := P) h1 (by simp)
      exact ⟨.int .i64 es.length, by simp [execOp, ho, resolve, invoke, builtin, exs, ets, Builtin.len_, run_underlying ht, goInt, hget, h2.length], .plain _ rfl⟩
     ·cases hes
    ·cases hes
   ·trivial
  ·rename_i x _ _ sz ag z kd _ _ _ _ hti
   show OpS P B e n w (lenS hp x kd) _
   unfold lenS
   split
   ·rename_i s hs
    obtain ⟨h1, h2⟩ := hv.leaf hs
    cases kd with
    | sl el et =>
      show OpS P B e n w (cnd (Nat.beq s 11) (.val (sy (opc 42 3) [x])) .bad) _
      rw [zaa]
      split
      ·rename_i h11
       rw [zad h11] at h2
       obtain ⟨a, l, c, rfl, hl⟩ := srt_slice h2
       obtain ⟨i, d, zz, hi, hd, hz, _, _, _, rfl, _, _⟩ := zai (zam hP hti)
       have hwf : wfK .i64 (l : Int) = true := by rw [wfK_iff]; simp only; omega
       exact ⟨.int .i64 l, by simp [execOp, ho, resolve, invoke, builtin, exs, ets, Builtin.len_, run_underlying hd, goInt], RV.sy (by decide) (by decide) (denL1 h1) (by simp [stdI]) (zav (k := .i64) hwf)⟩
      ·exact trivial
    | str =>
      show OpS P B e n w (cnd (Nat.beq s 9) (grd hp (sy (opc 43 3) [x])) .bad) _
      rw [zaa]
      split
      ·rename_i h9
       rw [zad h9] at h2
       obtain ⟨b, rfl⟩ := srt_text h2
       unfold grd
       split
       ·rename_i bb hdd
        cases bb with
        | false => exact trivial
        | true =>
          obtain ⟨u, hu⟩ := hw.grd hdd
          obtain ⟨l', hl, hst, _⟩ := den_sy_inv (by decide) (by decide) hu
          obtain ⟨vx, g1, rfl⟩ := denL1_inv hl
          rw [h1] at g1
          cases g1
          have hst : some (Value.int .i64 b.size) = some u := hst
          cases hst
          obtain ⟨i, d, zz, hi, hd, hz, _, _, _, hk⟩ := zai (zam hP hti)
          simp only at hk
          subst hk
          exact ⟨.int .i64 b.size, by simp [execOp, ho, resolve, invoke, builtin, exs, ets, Builtin.len_, run_underlying hd, goInt], RV.ofDen hu (by decide) (by decide)⟩
       ·exact trivial
      ·exact trivial
    | _ => exact trivial
   ·exact trivial
  ·trivial
 ·trivial
omit hP
theorem s_max {xs : Array Operand} {ts : Array TypeId} (hw : WR P B e n hp w) (ho : o.op = .call ⟨.builtin .max, xs, ts⟩) (hx : ∀ x ∈ xs.toList, RV e n (ev tm x) (evx fr x)) : OpS P B e n w (bMax (evs tm xs.toList) P tm n hp) ((execOp (evx fr) o).run P w) := by
 unfold bMax
 have hr := RL.evs (e := e) (n := n) (tm := tm) (ρ := evx fr) xs.toList hx
 generalize hL : xs.toList.map (evx fr) = L at hr
 split
 ·rename_i k a k' b hxs
  rw [hxs] at hr
  rw [zaa]
  split
  ·rename_i hk
   have := kEq_eq hk; subst this
   cases hr with
   | cons _ x' _ l' hv hl =>
   cases hl with
   | cons _ y' _ l2 hv2 hl2 =>
   cases hl2
   have := hv.intI; subst this
   have := hv2.intI; subst this
   have exs : xs.map (evx fr) = #[.int k a, .int k b] := by apply Array.ext'; simpa using hL
   refine ⟨.int k (if b > a then b else a), ?_, ?_⟩
   ·simp [execOp, ho, resolve, invoke, builtin, exs, Builtin.max_, Builtin.max2]
   ·rw [zaa]
    have : (if decide (b > a) = true then b else a) = (if b > a then b else a) := by by_cases h : b > a <;> simp [h]
    rw [this]; exact .plain _ rfl
  ·trivial
 ·rename_i u v hno hxs
  rw [hxs] at hr
  cases hr with
  | cons _ x' _ l' hv hl =>
  cases hl with
  | cons _ y' _ l2 hv2 hl2 =>
  cases hl2
  have exs : xs.map (evx fr) = #[x', y'] := by apply Array.ext'; simpa using hL
  unfold bPick
  split
  ·rename_i c hc
   obtain ⟨k, i, j, r, rfl, rfl, _, h2, h3⟩ := symBin_run hv2 hv hc
   split
   ·rename_i b hb
    have hd := hw.dec hb h3
    subst hd
    have hb2 : b = decide (i > j) := by simpa [zao] using h2.symm
    subst hb2
    refine ⟨.int k (if i > j then i else j), ?_, ?_⟩
    ·simp [execOp, ho, resolve, invoke, builtin, exs, Builtin.max_, Builtin.max2]
    ·by_cases h : i > j
     ·simp only [h, decide_true, cnd_t, if_true]; exact hv2
     ·simp only [h, decide_false, cnd_f, if_false]; exact hv
   ·trivial
  ·trivial
 ·trivial
theorem s_min {xs : Array Operand} {ts : Array TypeId} (hw : WR P B e n hp w) (ho : o.op = .call ⟨.builtin .min, xs, ts⟩) (hx : ∀ x ∈ xs.toList, RV e n (ev tm x) (evx fr x)) : OpS P B e n w (bMin (evs tm xs.toList) P tm n hp) ((execOp (evx fr) o).run P w) := by
 unfold bMin
 have hr := RL.evs (e := e) (n := n) (tm := tm) (ρ := evx fr) xs.toList hx
 generalize hL : xs.toList.map (evx fr) = L at hr
 split
 ·rename_i k a k' b hxs
  rw [hxs] at hr
  rw [zaa]
  split
  ·rename_i hk
   have := kEq_eq hk; subst this
   cases hr with
   | cons _ x' _ l' hv hl =>
   cases hl with
   | cons _ y' _ l2 hv2 hl2 =>
   cases hl2
   have := hv.intI; subst this
   have := hv2.intI; subst this
   have exs : xs.map (evx fr) = #[.int k a, .int k b] := by apply Array.ext'; simpa using hL
   refine ⟨.int k (if b < a then b else a), ?_, ?_⟩
   ·simp [execOp, ho, resolve, invoke, builtin, exs, Builtin.min_, Builtin.min2]
   ·rw [zaa]
    have : (if decide (b < a) = true then b else a) = (if b < a then b else a) := by by_cases h : b < a <;> simp [h]
    rw [this]; exact .plain _ rfl
  ·trivial
 ·rename_i u v hno hxs
  rw [hxs] at hr
  cases hr with
  | cons _ x' _ l' hv hl =>
  cases hl with
  | cons _ y' _ l2 hv2 hl2 =>
  cases hl2
  have exs : xs.map (evx fr) = #[x', y'] := by apply Array.ext'; simpa using hL
  unfold bPick
  split
  ·rename_i c hc
   obtain ⟨k, i, j, r, rfl, rfl, _, h2, h3⟩ := symBin_run hv2 hv hc
   split
   ·rename_i b hb
    have hd := hw.dec hb h3
    subst hd
    have hb2 : b = decide (i < j) := by simpa [zao] using h2.symm
    subst hb2
    refine ⟨.int k (if i < j then i else j), ?_, ?_⟩
    ·simp [execOp, ho, resolve, invoke, builtin, exs, Builtin.min_, Builtin.min2]
    ·by_cases h : i < j
     ·simp only [h, decide_true, cnd_t, if_true]; exact hv2
     ·simp only [h, decide_false, cnd_f, if_false]; exact hv
   ·trivial
  ·trivial
 ·trivial
end
end Go.Gz
