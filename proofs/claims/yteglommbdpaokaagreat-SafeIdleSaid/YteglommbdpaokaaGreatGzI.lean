/- The evaluator that the kernel runs: one operation, part 4. -/
import Derived.Test.YteglommbdpaokaaGreatGzH
import Derived.Deep.AppendSrc
import Derived.IntWalk
namespace Go.Gz
open Go Go.Gx Go.RowKit
theorem setObj_run {P : Program} {w : World} {b : Nat} {o o' : Obj} (h : w.heap[b]? = some o) (hc : ∀ c t z, o ≠ .cells c t z) : (setObj b o').run P w = .ok () (setB w b o') := by
 cases o <;> first | exact absurd rfl (hc _ _ _) | simp [setObj, Sem.run, h, setB]
theorem getObj_run {P : Program} {w : World} {b : Nat} {o : Obj} (h : w.heap[b]? = some o) (hc : ∀ c t z, o ≠ .cells c t z) : (getObj b).run P w = .ok o w := by
 cases o <;> first | exact absurd rfl (hc _ _ _) | simp [getObj, Sem.run, h]
section
variable {P : Program} (hP : Small P) {B : Base} {e : Env} {n : Nat} {hp : Hp} {w : World} {tm : Tm} {fr : List Value} {o : Oper}
theorem RM.append : ∀ {l l' r r' : List MapEntry}, RM e n l l' → RM e n r r' → RM e n (l ++ r) (l' ++ r')
 | _, _, _, _, .nil, hr => hr
 | _, _, _, _, .cons a b l l' h1 h2 h3 hl, hr => .cons a b _ _ h1 h2 h3 (RM.append hl hr)
theorem keyStays {hp : Hp} (hfk : ∀ c b, decH hp c = some b → den e.m c = some (.bool b)) {kd : MK} {x y x' y' : Value} (h : keyEq hp kd x y = some true) (hx : RV e n x x') (hy : RV e n y y') : Instr.sameBits 10000 y' x' = true ∧ x' = y' := by
 unfold keyEq at h
 split at h
 ·have := hx.intI; subst this
  have := hy.intI; subst this
  rw [zaa] at h
  split at h
  ·rename_i hk
   have := kEq_eq hk; subst this
   simp only [Option.some.injEq, beq_iff_eq] at h
   subst h
   exact ⟨by simp [Instr.sameBits], rfl⟩
  ·cases h
 ·have := hx.strI; subst this
  have := hy.strI; subst this
  rename_i a b
  simp only [Option.some.injEq] at h
  have h2 : a = b := by
   have h3 := eq_of_beq h
   obtain ⟨⟨x⟩⟩ := a
   obtain ⟨⟨y⟩⟩ := b
   simp only at h3
   subst h3; rfl
  subst h2
  exact ⟨by simp only [Instr.sameBits]; rw [beq_toListBytes]; simp, rfl⟩
 ·split at h
  ·rename_i c hc
   have hden := hfk _ _ h
   unfold keyTerm at hc
   cases kd with
   | int =>
     obtain ⟨s, _, hs, h1, h2, h3⟩ := symEq_run hx hy hc
     obtain ⟨k, i, rfl, hk, _⟩ := srt_num (by omega) h1
     obtain ⟨k', j, rfl, hk', _⟩ := srt_num (by omega) h2
     rw [hk] at hk'
     have := kCode_inj hk'; subst this
     have := (h3 (i == j) (by simp [zag, isShift, kEq_refl, zao])).den hden rfl
     simp only [Value.bool.injEq, beq_iff_eq] at this
     subst this
     exact ⟨by simp [Instr.sameBits], rfl⟩
   | str =>
     obtain ⟨s, hl, hs, h1, h2, h3⟩ := symEq_run hx hy hc
     have : s = 9 := by omega
     subst this
     obtain ⟨a, rfl⟩ := srt_text h1
     obtain ⟨b, rfl⟩ := srt_text h2
     have := (h3 (a.data.toList == b.data.toList) (by simp [zag])).den hden rfl
     simp only [Value.bool.injEq] at this
     have h2 : a = b := by
      have h3 := eq_of_beq this
      obtain ⟨⟨x⟩⟩ := a
      obtain ⟨⟨y⟩⟩ := b
      simp only at h3
      subst h3; rfl
     subst h2
     exact ⟨by simp only [Instr.sameBits]; rw [beq_toListBytes]; simp, rfl⟩
  ·cases h
theorem setVal_modify {v v' : Value} (hv : RV e n v v') (k' : Value) : ∀ (i : Nat) (l l' : List MapEntry), RM e n l l' → (∀ y', l'[i]? = some y' → y'.key = k') →
  RM e n (setVal v i l) (l'.modify i fun q => { q with key := k', val := v' })
 | i, [], _, .nil, _ => by simpa [setVal] using RM.nil
 | 0, x :: l, _, .cons _ x' _ l' h1 h2 h3 hl, h => by
   have := h x' (by simp)
   simp only [setVal, List.modify_zero_cons]
   exact .cons _ _ _ _ (by rw [← this]; exact h1) hv h3 hl
 | i + 1, x :: l, _, .cons _ x' _ l' h1 h2 h3 hl, h => by
   simp only [setVal, List.modify_succ_cons]
   exact .cons _ _ _ _ h1 h2 h3 (setVal_modify hv k' i l l' hl fun y' hy => h y' (by simpa using hy))
theorem RM.get : ∀ {l l' : List MapEntry}, RM e n l l' → ∀ {i : Nat} {x : MapEntry}, l[i]? = some x → ∃ x', l'[i]? = some x' ∧ RV e n x.key x'.key ∧ RV e n x.val x'.val
 | _, _, .nil, i, x, h => by simp at h
 | _, _, .cons a b l l' h1 h2 h3 hl, i, x, hi => by
   cases i with
   | zero => simp at hi; subst hi; exact ⟨b, by simp, h1, h2⟩
   | succ i => simp at hi; obtain ⟨x', h4, h5⟩ := RM.get hl hi; exact ⟨x', by simp [h4], h5⟩
include hP
theorem updatex_run {t : TypeId} {m k v m' k' v' : Value} {hp' : Hp} (hw : WR P B e n hp w) (h : updatex P hp t m k v = some hp') (hm : RV e n m m') (hk : RV e n k k') (hv : RV e n v v') :
  ∃ w', (Instr.mapUpdate t m' k' v').run P w = .ok () w' ∧ WR P B e n hp' w' := by
 unfold updatex at h
 split at h
 ·rename_i kd et r hmk
  obtain ⟨hm', hb⟩ := hm.mapI
  subst hm'
  obtain ⟨kt, ht, hkd⟩ := mapK_run hP hmk
  obtain ⟨dd, hkt, hdd, hne⟩ : ∃ dd, P.underlying kt = some dd ∧ kdOk kd dd ∧ (∀ b m v, (Instr.checkKey b (m + 1) kt v).run P w = .ok () w) := by
   rcases hkd with ⟨rfl, k0, h0⟩ | ⟨rfl, h0⟩
   ·exact ⟨_, h0, ⟨k0, rfl⟩, fun b m v => by rw [Instr.checkKey]; simp [run_underlying h0]⟩
   ·exact ⟨_, h0, rfl, fun b m v => by rw [Instr.checkKey]; simp [run_underlying h0]⟩
  have hck : ∀ b v, (Instr.checkKey b 10000 kt v).run P w = .ok () w := fun b v => hne b 9999 v
  split at h
  ·rename_i es clock hg
   obtain ⟨es', ho, hr⟩ := hw.map hb hg
   have hlive : hp.get r ≠ .dead := by rw [hg]; simp
   have hget := getObj_run (P := P) ho (by simp)
   have hset := fun o' => setObj_run (P := P) (o' := o') ho (by simp)
   split at h
   ·rename_i i u hf
    cases h
    obtain ⟨r', h1, h2⟩ := findx_now hw.fk hdd hk es es' 0 _ hr hf
    rcases h2 with ⟨h2, _⟩ | ⟨j, v0, v0', y, h3, h4, h5, h6, h7, h8⟩
    ·cases h2
    ·cases h3
     simp only [Nat.sub_zero] at h7
     obtain ⟨y', h9, h10, _⟩ := hr.get h7
     obtain ⟨hb1, hb2⟩ := keyStays hw.fk h8 hk h10
     refine ⟨setB w (e.β r) (.map ((es'.modify i fun q => { q with key := k', val := v' }).toArray) clock), ?_, hw.set hb hlive (.map _ _ _ (setVal_modify hv k' i es es' hr fun y2 hy2 => ?_))⟩
     ·have hk2 : (Instr.keyThatStays y'.key k').run P w = .ok k' w := by
        simp [Instr.keyThatStays, hb1]
      simp [Instr.mapUpdate, run_underlying ht, run_underlying hkt, hget, hck, Instr.findKey, h1, h4, h9, hk2, hset]
     ·rw [h9] at hy2; cases hy2; exact hb2.symm
   ·rename_i hf
    cases h
    obtain ⟨r', h1, h2⟩ := findx_now hw.fk hdd hk es es' 0 _ hr hf
    rcases h2 with ⟨_, h2⟩ | ⟨j, v0, v0', y, h3, _⟩
    ·subst h2
     refine ⟨setB w (e.β r) (.map ((es' ++ [({ key := k', val := v', born := clock } : MapEntry)]).toArray) (clock + 1)), ?_, hw.set hb hlive (.map _ _ _ (hr.append (.cons _ _ _ _ hk hv rfl .nil)))⟩
     simp [Instr.mapUpdate, run_underlying ht, run_underlying hkt, hget, hck, Instr.findKey, h1, hset]
    ·cases h3
   ·cases h
  ·cases h
 ·cases h
theorem s_update {t : TypeId} {m k v : Operand} (hw : WR P B e n hp w) (ho : o.op = .insert t m k v ∨ o.op = .mapUpdate t m k v) (hm : RV e n (ev tm m) (evx fr m)) (hk : RV e n (ev tm k) (evx fr k)) (hv : RV e n (ev tm v) (evx fr v)) :
  OpS P B e n w (aUpdate t m k v P tm n hp) ((execOp (evx fr) o).run P w) := by
 unfold aUpdate
 split
 ·rename_i hp' h
  obtain ⟨w', h1, h2⟩ := updatex_run hP hw h hm hk hv
  refine ⟨undef, w', .inr ⟨?_, rfl⟩, .plain _ rfl, h2⟩
  rcases ho with ho | ho <;> simp [execOp, ho, h1]
 ·exact askM_ok
omit hP
theorem s_makeMap {t : TypeId} {r : Option Operand} (hw : WR P B e n hp w) (ho : o.op = .makeMap t r) : OpS P B e n w (aMakeMap t r P tm n hp) ((execOp (evx fr) o).run P w) := by
 unfold aMakeMap
 split
 ·intro hn
  refine ⟨.map (some w.heap.size), _, w.heap.size, 0, by simp [execOp, ho, Instr.makeMap], ?_, hw.alloc hn (.map [] [] 0 .nil)⟩
  have := RV.map (e := e.add n w.heap.size 0) (n := n + 1) n (by omega)
  rwa [Env.add_β] at this
 ·trivial
theorem rep_eq (z : List Value) (hz : z ≠ []) : ∀ k, (List.range (k * z.length)).map (fun i => z.toArray[i % z.length]!) = rep z k
 | 0 => by simp [rep]
 | k + 1 => by
   have hl : 0 < z.length := List.length_pos_iff.2 hz
   rw [rep, ← rep_eq z hz k, show (k + 1) * z.length = z.length + k * z.length by rw [Nat.add_mul]; omega, List.range_add, List.map_append, List.map_map]
   congr 1
   ·apply List.ext_getElem?
    intro i
    rw [List.getElem?_map]
    by_cases hi : i < z.length
    ·rw [List.getElem?_range hi]
     simp [Nat.mod_eq_of_lt hi, hi]
    ·rw [List.getElem?_eq_none (by simp; omega), List.getElem?_eq_none (by omega)]; rfl
   ·apply List.map_congr_left
    intro i _
    simp
theorem rep_plain {z : List Value} (h : ∀ v ∈ z, zas v = true) : ∀ k, ∀ v ∈ rep z k, zas v = true
 | 0, v, hv => by simp [rep] at hv
 | k + 1, v, hv => by
   rw [rep, List.mem_append] at hv
   rcases hv with hv | hv
   ·exact h v hv
   ·exact rep_plain h k v hv
include hP
theorem zero_run {et : TypeId} {el : Nat} {y : TI} (hy : ti P et = some y) (hc : (P.info? et).isSome = true) (he : cellsOf P et = el) (h0 : el ≠ 0) (hl : y.zero.length = el) :
  ∃ z i2, P.info? et = some i2 ∧ i2.size = el ∧ (zeroValue et).run P w = .ok z w ∧ z.cells.size = el ∧ ∀ k, (Array.range (k * el)).map (z.cells[· % z.cells.size]!) = (rep y.zero k).toArray := by
 obtain ⟨i2, hi2⟩ := Option.isSome_iff_exists.1 hc
 obtain ⟨i3, d3, z3, hi3, hd3, hz3, _, hzz, _⟩ := zai (zam hP hy)
 rw [hi2] at hi3
 cases hi3
 have hs : z3.cells.size = el := by rw [← hl, hzz]; simp
 refine ⟨z3, i2, hi2, by simpa [cellsOf, hi2] using he, run_zero' hi2 hz3 w, hs, fun k => ?_⟩
 apply Array.ext'
 have hne : y.zero ≠ [] := by intro h; rw [h] at hl; simp at hl; omega
 have := rep_eq y.zero hne k
 rw [hl] at this
 rw [← this]
 simp [hzz, hs]
theorem s_buildSlice {t : TypeId} {len : Nat} {ps : Array (Nat × Operand)} (hw : WR P B e n hp w) (ho : o.op = .buildSlice t len ps) (hq : ∀ q ∈ ps.toList, RV e n (ev tm q.2) (evx fr q.2)) : OpS P B e n w (aBuildSlice t len ps P tm n hp) ((execOp (evx fr) o).run P w) := by
 unfold aBuildSlice
 split
 ·rename_i sz ag z el et hti
  split
  ·rename_i y hy
   split
   ·rename_i l h
    intro hn
    rw [zaa] at h
    split at h
    ·cases h
    ·rename_i hck
     simp only [Bool.or_eq_true, Bool.not_eq_true', not_or, Bool.not_eq_true, Bool.not_eq_false] at hck
     obtain ⟨⟨hc0, hc1⟩, hc2⟩ := hck
     have hc1 := zaw hc1
     have hc2 := zad hc2
     have h0 : el ≠ 0 := by intro h0; subst h0; simp at hc0
     obtain ⟨i, dd, zz, hi, hd, hz, _, _, _, rfl, hel, hall⟩ := zai (zam hP hti)
     obtain ⟨z3, i2, hi2, hs2, hz3, hzs, hrep⟩ := zero_run hP (w := w) hy hall hel.symm h0 hc2
     obtain ⟨l', h1, h2⟩ := fillv_run _ _ _ _ _ (RL.plain (rep_plain (ti_plain hy) len)) hq h
     refine ⟨.slice (some ⟨w.heap.size, 0, none⟩) len len, _, w.heap.size, 0, ?_, ?_, hw.alloc hn (.cells _ _ _ (h2.mono (e.ext n _ _)))⟩
     ·have hf : Instr.fill (fun i => some (i * el, el)) (rep y.zero len).toArray (ps.toList.map fun q => (q.1, evx fr q.2)) = some l'.toArray := by
        rw [fill_fillx, h1]; rfl
      have hf2 : Instr.fill (fun i => some (i * el, el)) ((Array.range (len * el)).map (z3.cells[· % z3.cells.size]!)) (ps.toList.map fun q => (q.1, evx fr q.2)) = some l'.toArray := by rw [hrep]; exact hf
      have hlen : ¬ (len * el > 2 ^ 24) := by omega
      by_cases hl0 : len * el = 0
      ·have hl1 : len = 0 := by rcases Nat.mul_eq_zero.1 hl0 with h | h; exact h; exact absurd h h0
       subst hl1
       have hf3 : Instr.fill (fun i => some (i * el, el)) #[] (ps.toList.map fun q => (q.1, evx fr q.2)) = some l'.toArray := by simpa [rep] using hf
       have hr0 : (Array.range 0).map (fun x : Nat => ((#[] : Array Value)[x % (#[] : Array Value).size]!)) = #[] := by simp
       simp only [execOp, ho, Instr.buildSlice, Sem.run_bind, run_underlying hd, Result.andThen_ok, zar hi2, hs2]
       simp [show Array.map (fun _ : Nat => (default : Value)) (Array.range 0) = #[] from by apply Array.ext'; simp, hf3, newRow]
      ·simp only [execOp, ho, Instr.buildSlice, Sem.run_bind, run_underlying hd, Result.andThen_ok, zar hi2, hs2]
       rw [if_neg hlen]
       simp only [Sem.run_pure]
       rw [if_neg hl0]
       simp only [Sem.run_bind, hz3, Sem.run_pure, Result.andThen_ok]
       simp only [Array.toList_map, hf2]
       simp [newRow]
     ·have := RV.slice (e := e.add n w.heap.size 0) (n := n + 1) n 0 len len (by omega) (by unfold CAPU; have := Nat.le_mul_of_pos_right len (Nat.pos_of_ne_zero h0); omega)
      rwa [Env.add_β] at this
   ·trivial
  ·trivial
 ·trivial
omit hP in
theorem makeSlice_run {t et : TypeId} {k1 k2 : IntKind} {ln cn : Nat} {i : TypeInfo} {z : Value} {c' : Array Value} (hd : P.underlying t = some (.slice et)) (hi : P.info? et = some i) (hz : (zeroValue et).run P w = .ok z w)
  (h1 : cn ≤ 1048576) (h2 : ln ≤ cn) (h3 : i.bytes * cn ≤ 1099511627776) (hc : cn * i.size ≠ 0 → (Array.range (cn * i.size)).map (z.cells[· % z.cells.size]!) = c') (hc0 : cn * i.size = 0 → c' = #[]) :
  (Instr.makeSlice t (.int k1 ln) (.int k2 cn)).run P w = .ok (.slice (some ⟨w.heap.size, 0, none⟩) ln cn) { w with heap := w.heap.push (.cells c' et) } := by
 have w1 : IntKind.i64.wrap (cn : Int) = cn := IntWalk.i64_in _ (by omega)
 have w2 : IntKind.i64.wrap (ln : Int) = ln := IntWalk.i64_in _ (by omega)
 have hask : ∀ k, (askRoom k).run P w = .ok () w := by
  intro k; unfold askRoom; split <;> simp [mark, Sem.run]
 have ht : (typeInfo et).run P w = .ok i w := by simp [typeInfo, hi]
 have hb : ¬ ((i.bytes : Int) * (cn : Int) > 2 ^ 48) := by rw [← Int.natCast_mul]; omega
 unfold Instr.makeSlice
 simp only [Sem.run_bind, run_underlying hd, Result.andThen_ok, asInt, asIntOf, Sem.run_pure, ht, w1, w2]
 rw [if_neg (by
  simp only [Bool.or_eq_true, decide_eq_true_eq, not_or]
  refine ⟨⟨⟨by omega, hb⟩, by omega⟩, by omega⟩)]
 simp only [Sem.run_bind, hask, Result.andThen_ok, zar hi, Int.toNat_natCast]
 by_cases h0 : cn * i.size = 0
 ·simp [h0, hc0 h0, newRow, show Array.map (fun _ : Nat => (default : Value)) (Array.range 0) = #[] from by apply Array.ext'; simp]
 ·rw [if_neg h0]
  simp only [Sem.run_bind, hz, Result.andThen_ok, Sem.run_pure]
  rw [hc h0]
  simp [newRow]
omit hP in
theorem rep_one (z : Value) : ∀ q, rep [z] q = List.replicate q z
 | 0 => rfl
 | q + 1 => by rw [rep, rep_one z q, List.replicate_succ]; rfl
theorem s_makeSlice {t : TypeId} {l c : Operand} (hw : WR P B e n hp w) (ho : o.op = .makeSlice t l c) (hl : RV e n (ev tm l) (evx fr l)) (hc : RV e n (ev tm c) (evx fr c)) : OpS P B e n w (aMakeSlice t l c P tm n hp) ((execOp (evx fr) o).run P w) := by
 unfold aMakeSlice
 rw [zaa]
 split
 ·unfold makeG
  split
  ·rename_i sz ag z kd hti
   cases kd with
   | sl el et =>
     simp only []
     split
     ·rename_i y hy
      split
      ·rename_i z0 hz0
       rw [zaa]
       split
       ·rename_i hck
        simp only [Bool.and_eq_true] at hck
        obtain ⟨g1, g2, g3, g4, g5, g6⟩ := hck
        have g1 := zad g1
        have g3 := veq_eq _ _ _ g3
        subst g1
        split
        ·rename_i i1 hi1
         rw [zaa]
         split
         ·rename_i hby
          simp only [Bool.and_eq_true] at hby
          have hb1 := zaw hby.1
          refine inGe_run (kk := .i64) (len := 1048576) hw.fk hl g5 (by rw [den]; rfl) fun q hlq hq hdl => ?_
          have hcq : evx fr c = .int .i64 q := by
           obtain ⟨a, ha, hda⟩ := i64S_some (i := ev tm c) (by rw [← g3]; exact g5) hc
           rw [← g3, hdl] at hda
           cases hda
           exact ha
          intro hn
          obtain ⟨i, dd, zz, hi, hd, hz, _, _, _, rfl, hel2, hall⟩ := zai (zam hP hti)
          obtain ⟨z3, i2, hi2, hs2, hz3, hzs, hrep⟩ := zero_run hP (w := w) hy hall hel2.symm (by decide) (by rw [hz0]; rfl)
          have hi1' := infoT_info hP hi1
          rw [hi1'] at hi2
          cases hi2
          have hmul : i1.bytes * q ≤ 512 * 1048576 := Nat.mul_le_mul hb1 hq
          have hrun := makeSlice_run (P := P) (w := w) (k1 := .i64) (k2 := .i64) (c' := (rep y.zero q).toArray) hd hi1' hz3 hq (Nat.le_refl q) (by omega) (fun _ => by rw [hs2]; exact hrep q) (fun h => by
           rw [hs2] at h
           have : q = 0 := by omega
           subst this; simp [rep])
          have hrp : rep y.zero q = List.replicate q z0 := by rw [hz0]; exact rep_one z0 q
          have hzz : zsT P et = zsort z0 := by unfold zsT; rw [hy]; simp only [hz0]
          obtain ⟨hzd, hzs0⟩ := (RV.plain (e := e) (n := n) z0 (by
           have := ti_plain hy
           rw [hz0] at this
           exact this z0 (by simp))).leaf (hasS_some g6)
          refine ⟨.slice (some ⟨w.heap.size, 0, none⟩) q q, _, w.heap.size, 9223372036854775808 * q + q, ?_, ?_, hw.alloc (o' := .cells (rep y.zero q).toArray et) hn ?_⟩
          ·simp only [execOp, ho, hlq, hcq]
           rw [Sem.run_bind, hrun]; rfl
          ·have := RV.sliceG (e := e.add n w.heap.size (9223372036854775808 * q + q)) (n := n + 1) n (by omega)
           rw [Env.add_β, Env.add_tot] at this
           rw [show (9223372036854775808 * q + q) % 9223372036854775808 = q by omega, show (9223372036854775808 * q + q) / 9223372036854775808 = q by omega] at this
           exact this
          ·rw [hrp]
           have h1 : den e.m (sy (opc 52 13) [ev tm l, z0]) = some (.agg ⟨List.replicate q z0⟩) := by
            refine den_syA (c := 52) (s := 13) (by decide) (by decide) (denL2 hdl hzd) ?_ rfl
            show noughtI (.int .i64 q) z0 = some (.agg ⟨List.replicate q z0⟩)
            unfold noughtI
            show (if (0 : Int) ≤ (q : Nat) then some (Value.agg ⟨List.replicate (Int.toNat (q : Nat)) z0⟩) else none) = _
            rw [if_pos (by omega), Int.toNat_natCast]
           have h2 := RO.garr (P := P) (e := e.add n w.heap.size (9223372036854775808 * q + q)) (n := n + 1) (j := n) (sy (opc 52 13) [ev tm l, z0]) (List.replicate q z0) [] et h1 (by rw [Env.add_tot, List.length_replicate]; omega) (by rw [Env.add_tot, List.append_nil, List.length_replicate]; omega)
            hel2.symm (List.all_eq_true.2 fun v hv => by rw [List.eq_of_mem_replicate hv]; exact srt_one hzs0) (List.all_eq_true.2 fun v hv => by rw [List.eq_of_mem_replicate hv, hzz]; exact hzs0)
           simpa using h2
         ·exact trivial
        ·exact trivial
       ·exact trivial
      ·exact trivial
     ·exact trivial
   | _ => exact trivial
  ·exact trivial
 split
 ·rename_i sz ag z el et k1 lv k2 cv hti hel hec
  rw [hel] at hl
  rw [hec] at hc
  have hl' := hl.intI
  have hc' := hc.intI
  split
  ·rename_i y i1 cn hy hi1 hcn
   obtain ⟨rfl, hcn2⟩ := natLe_some hcn
   split
   ·rename_i ln hln
    obtain ⟨rfl, hln2⟩ := natLe_some hln
    rw [zaa]
    split
    ·rename_i hck
     intro hn
     simp only [Bool.and_eq_true, Bool.not_eq_true'] at hck
     obtain ⟨⟨hc0, hc2⟩, hc3⟩ := hck
     have hc2 := zad hc2
     have hc3 := zaw hc3
     have h0 : el ≠ 0 := by intro h0; subst h0; simp at hc0
     obtain ⟨i, dd, zz, hi, hd, hz, _, _, _, rfl, hel2, hall⟩ := zai (zam hP hti)
     obtain ⟨z3, i2, hi2, hs2, hz3, hzs, hrep⟩ := zero_run hP (w := w) hy hall hel2.symm h0 hc2
     have hi1' := infoT_info hP hi1
     rw [hi1'] at hi2
     cases hi2
     have hrun := makeSlice_run (P := P) (w := w) (k1 := k1) (k2 := k2) (c' := (rep y.zero cn).toArray) hd hi1' hz3 hcn2 hln2 hc3 (fun _ => by rw [hs2]; exact hrep cn) (fun h => by
      rw [hs2] at h
      have : cn = 0 := by rcases Nat.mul_eq_zero.1 h with h | h; exact h; exact absurd h h0
      subst this; simp [rep])
     refine ⟨.slice (some ⟨w.heap.size, 0, none⟩) ln cn, _, w.heap.size, 0, ?_, ?_, hw.alloc hn (.cells _ _ _ (RL.plain (rep_plain (ti_plain hy) cn)))⟩
     ·simp only [execOp, ho, hl', hc']
      rw [Sem.run_bind, hrun]; rfl
     ·have := RV.slice (e := e.add n w.heap.size 0) (n := n + 1) n 0 ln cn (by omega) (by unfold CAPU; omega)
      rwa [Env.add_β] at this
    ·trivial
   ·trivial
  ·trivial
 ·trivial
end
end Go.Gz
