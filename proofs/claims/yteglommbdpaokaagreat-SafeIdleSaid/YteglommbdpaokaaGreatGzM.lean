/- The evaluator that the kernel runs: one operation, part 7: append, copy; all of them. -/
import Derived.Test.YteglommbdpaokaaGreatGzL
namespace Go.Gz
open Go Go.Gx Go.RowKit
section
variable {P : Program} (hP : Small P) {B : Base} {e : Env} {n : Nat} {hp : Hp} {w : World} {tm : Tm} {fr : List Value} {o : Oper}
theorem one_mem {l : List Value} (h : l.all one = true) : ∀ u ∈ l, u.oneCell' = true := fun u hu => one_cell' (List.all_eq_true.1 h u hu)
theorem bytes_plain (l : List UInt8) : RL e n (l.map fun b => Value.int .u8 b.toNat) (l.map fun b => Value.int .u8 b.toNat) :=
 RL.plain fun v hv => by obtain ⟨b, _, rfl⟩ := List.mem_map.1 hv; rfl
include hP
theorem srcOf_run (hw : WR P B e n hp w) {el m : Nat} {kd : TK} {t2 : TypeId} {x x' : Value} {new : List Value} {sz : Nat} {ag : Bool} {z : List Value} (ht : ti P t2 = some ⟨sz, ag, z, kd⟩) (h : srcOf hp el kd x = some (m, new)) (hx : RV e n x x') (h1 : new.all one = true) :
  ∃ new', Src P el t2 x' m new' w ∧ RL e n new new' ∧ new'.length = m * el := by
 obtain ⟨i, d, zz, hi, hd, hz, _, _, _, hk⟩ := zai (zam hP ht)
 unfold srcOf at h
 cases kd with
 | sl el2 et2 =>
   simp only at h hk
   obtain ⟨rfl, _, _⟩ := hk
   split at h
   ·rename_i m0 c0
    rw [zaa] at h
    split at h
    ·rename_i hm
     have := zad hm
     subst this
     cases h
     have := hx.slN; subst this
     exact ⟨[], Src.ofNil w hd c0, .nil, by simp⟩
    ·cases h
   ·rename_i b off m0 c0
    obtain ⟨hb, cap', rfl, _⟩ := hx.slI
    split at h
    ·rename_i l hl
     obtain ⟨ty, gr, hg⟩ := cellsAt_some hl
     obtain ⟨l', y, hc, hr, _, _⟩ := hw.cells hb hg
     rw [zaa] at h
     split at h
     ·rename_i hle
      have hle := zaw hle
      cases h
      have hr2 := (hr.drop off).take (m * el)
      have hlen : ((l'.drop off).take (m * el)).length = m * el := by rw [← hr2.length]; simp; omega
      refine ⟨(l'.drop off).take (m * el), Src.ofSlice w hd _ _ _ _ hlen ?_ (one_mem (by rw [← hr2.allOne]; exact h1)), hr2, hlen⟩
      intro j u hu
      rw [add_none, cell_list hc]
      rw [List.getElem?_take] at hu
      split at hu
      ·rw [List.getElem?_drop] at hu
       rw [List.getElem?_append_left (List.getElem?_eq_some_iff.1 hu).1]
       exact hu
      ·cases hu
     ·cases h
    ·cases h
   ·cases h
 | str =>
   simp only at h hk
   subst hk
   split at h
   ·rename_i s
    rw [zaa] at h
    split at h
    ·rename_i he
     have := zad he
     subst this
     cases h
     have := hx.strI; subst this
     exact ⟨byteCells s, Src.ofString w hd s, bytes_plain _, by rw [byteCells_length]; omega⟩
    ·cases h
   ·cases h
 | _ => simp at h
omit hP in
theorem append_room_run {t t2 ty et : TypeId} {i : TypeInfo} (ht : P.underlying t = some (.slice et)) (hi : P.info? et = some i) {b off sl cap m : Nat} {x : Value} {new c : List Value} {ct : TypeId} (hs : Src P i.size t2 x m new w)
  (hc : w.heap[b]? = some (.cells c.toArray ct)) (h1 : sl + m ≤ cap) (h2 : off + sl * i.size + new.length ≤ c.length) (h3 : new.all one = true) :
  (Builtin.append_ #[t, t2] ty #[.slice (some ⟨b, off, none⟩) sl cap, x]).run P w = .ok (.slice (some ⟨b, off, none⟩) (sl + m) cap) (setB w b (.cells (splice c (off + sl * i.size) new).toArray ct)) := by
 have hst := run_storeCells' (P := P) (off + sl * i.size) new 0 w c hc h3 (by omega)
 simp only [Nat.add_zero] at hst
 rcases hs.kind with ⟨e', hk⟩ | hk <;> simp [Builtin.append_, run_underlying ht, run_underlying hk, sizeOf, typeInfo, hi, hs.len, h1, hs.cells, add_none, hst]
omit hP in
theorem wr_drew (hw : WR P B e n hp w) : WR P B e n hp w.drew := hw.same rfl rfl rfl rfl
theorem append_grow_run (hw : WR P B e n hp w) (hn : n < 32767) {t t2 ty et : TypeId} {i : TypeInfo} {y : TI} (ht : P.underlying t = some (.slice et)) (hi : P.info? et = some i) (hy : ti P et = some y) (hel : i.size ≠ 0) (hyl : y.zero.length = i.size)
  {base : Option Addr} {sl cap m : Nat} {x : Value} {old old' new new' : List Value} (hs : Src P i.size t2 x m new' w) (hold : (Builtin.firstCells i.size sl (.slice base sl cap)).run P w.drew = .ok old'.toArray w.drew)
  (ho : RL e n old old') (hnw : RL e n new new') (hol : old'.length = sl * i.size) (hnl : new'.length = m * i.size) (hg : cap < sl + m) (h1 : (sl + m) * i.bytes ≤ 1099511627776) (h2 : sl + m ≤ 1099511627776) :
  ∃ v' w' q tt, (Builtin.append_ #[t, t2] ty #[.slice base sl cap, x]).run P w = .ok v' w' ∧ RV (e.add n q tt) (n + 1) (.slice (some ⟨n, 0, none⟩) (sl + m) CAPU) v' ∧ WR P B (e.add n q tt) (n + 1) (hp.set n (.cells (old ++ new) et true)) w' := by
 obtain ⟨z, i2, hi2, hs2, hz, hzs, _⟩ := zero_run hP (w := w) hy (by simp [hi]) (show cellsOf P et = i.size by simp [cellsOf, hi]) hel hyl
 obtain ⟨i3, d3, z3, hi3, hd3, hz3, _, hzz, _⟩ := zai (zam hP hy)
 rw [hi] at hi3
 cases hi3
 have hz3s : z3.cells.size = i.size := by rw [← hyl, hzz]; simp
 have hr := run_append_grow_src (P := P) w t t2 ty et i z3 ht hi hz3 base sl cap old' hold x m new' hs hg (by omega) (growslice_fits hg (by omega))
 have hge := grownCap_ge w (sl + m) cap et
 refine ⟨_, _, w.heap.size, grownCap w (sl + m) cap et, hr, ?_, ?_⟩
 ·have := RV.sliceU (e := e.add n w.heap.size (grownCap w (sl + m) cap et)) (n := n + 1) n (sl + m) (by omega) (by rw [Env.add_tot]; exact hge)
  rwa [Env.add_β, Env.add_tot] at this
 ·have hd := wr_drew hw
  have := hd.alloc hn (t := grownCap w (sl + m) cap et) (o := .cells (old ++ new) et true) (o' := .cells ((old' ++ new').toArray ++ Builtin.zeroCells z3.cells (grownCap w (sl + m) cap et - (sl + m))) et) ?_
  ·exact this
  ·have hrl : RL (e.add n w.drew.heap.size (grownCap w (sl + m) cap et)) (n + 1) (old ++ new) (old' ++ new') := (ho.append hnw).mono (e.ext n _ _)
   have hfin := RO.grown (P := P) (j := n) (old ++ new) (old' ++ new') (Builtin.zeroCells z3.cells (grownCap w (sl + m) cap et - (sl + m))).toList et hrl (by
    rw [Env.add_tot]
    simp only [List.length_append, Array.length_toList, size_zeroCells, hol, hnl, hz3s]
    rw [show cellsOf P et = i.size by simp [cellsOf, hi], ← Nat.add_mul, ← Nat.add_mul]
    congr 1
    omega)
   have e1 : ((old' ++ new') ++ (Builtin.zeroCells z3.cells (grownCap w (sl + m) cap et - (sl + m))).toList).toArray = (old' ++ new').toArray ++ Builtin.zeroCells z3.cells (grownCap w (sl + m) cap et - (sl + m)) := by
    apply Array.ext'; simp
   rw [e1] at hfin
   exact hfin
omit hP in
theorem leaf_den : ∀ {l l' : List Value}, allB (fun x => (sortOf x).isSome) l = true → RL e n l l' → denL e.m l = some l'
 | [], [], _, .nil => rfl
 | v :: l, v' :: l', h, .cons _ _ _ _ hv hl => by
   unfold allB at h
   rw [zaa] at h
   split at h
   ·rename_i hs
    obtain ⟨s, hs⟩ := Option.isSome_iff_exists.1 hs
    simp only [denL, (hv.leaf hs).1, leaf_den h hl]
   ·cases h
omit hP in
theorem hasS_isSome {z : Nat} : ∀ {l : List Value}, allB (hasS z) l = true → allB (fun x => (sortOf x).isSome) l = true
 | [], _ => rfl
 | v :: l, h => by
   unfold allB at h ⊢
   rw [zaa] at h ⊢
   split at h
   ·rename_i hs
    rw [if_pos (by rw [hasS_some hs]; rfl)]
    exact hasS_isSome h
   ·cases h
omit hP in
theorem hasS_srt {z : Nat} : ∀ {l l' : List Value}, allB (hasS z) l = true → RL e n l l' → l'.all (srt z) = true
 | [], [], _, .nil => rfl
 | v :: l, v' :: l', h, .cons _ _ _ _ hv hl => by
   unfold allB at h
   rw [zaa] at h
   split at h
   ·rename_i hs
    simp only [List.all_cons, (hv.leaf (hasS_some hs)).2, hasS_srt h hl, Bool.and_self]
   ·cases h
omit hP in
theorem app_den {v : Value} {l new new' : List Value} (hv : den e.m v = some (.agg ⟨l⟩)) (hn : denL e.m new = some new') : den e.m (sy (opc 47 13) [v, .agg ⟨new⟩]) = some (.agg ⟨l ++ new'⟩) := by
 have h1 : denL e.m [v, .agg ⟨new⟩] = some [.agg ⟨l⟩, .agg ⟨new'⟩] := by simp [denL, hv, den, denA, hn]
 have e3 : ¬ opc 47 13 = 1016 := by decide
 unfold sy
 rw [den, denA, h1]
 simp only [e3, if_false, itp]
 rfl
theorem appG_run (hw : WR P B e n hp w) {t t2 ty et : TypeId} {i : TypeInfo} {y : TI} (hd : P.underlying t = some (.slice et)) (hi' : P.info? et = some i) (hy : ti P et = some y) (h0 : i.size ≠ 0) (hc1 : y.zero.length = i.size)
  {b off sl cap z m : Nat} {s' x' : Value} {new new' : List Value} (hs : RV e n (.slice (some ⟨b, off, some z⟩) sl cap) s') (hcap : cap = CAPU) (hsr : Src P i.size t2 x' m new' w) (hnr : RL e n new new') (hnl : new'.length = m * i.size) (hone : new'.all one = true) :
  OpS P B e n w (appG (zsT P et) n hp i.size et i.bytes b m new) (((Builtin.append_ #[t, t2] ty #[s', x']).run P w).andThen fun v w => .ok (.value v) w) := by
 subst hcap
 have hsG : s' = .slice (some ⟨e.β b, 0, none⟩) (e.tot b % 9223372036854775808) (e.tot b / 9223372036854775808) ∧ b < n := by
  cases hs with
  | plain _ h => simp [zas] at h
  | sliceG _ h => exact ⟨rfl, h⟩
 obtain ⟨rfl, hb⟩ := hsG
 unfold appG
 split
 ·rename_i v tyb hg
  rw [zaa]
  split
  ·rename_i hck
   simp only [Bool.and_eq_true] at hck
   obtain ⟨g1, g2, g3, g4, g5⟩ := hck
   have g1 := zad g1
   have g2 := zad g2
   have g3 := zaw g3
   have g4 := zaw g4
   subst g1
   split
   ·rename_i b0 hdec
    cases b0 with
    | false => exact trivial
    | true =>
      obtain ⟨l, y2, hc, hden, hlen, htot, hce, hol, hzl⟩ := hw.garr hb hg
      have hT : l.length < 9223372036854775808 := by rw [hlen]; exact Nat.mod_lt _ (by decide)
      have hLT : l.length ≤ (l ++ y2).length := by simp
      have hwfl : wfK .i64 (l.length : Int) = true := by rw [wfK_iff]; simp only; omega
      have hL : (l.length : Int) < 1073741824 := by
       have h1 := hw.fk _ _ hdec
       have h2 : den e.m (sy (opc 48 3) [v]) = some (.int .i64 l.length) := den_sy (by decide) (by decide) (denL1 hden) (by simp [stdI]) (zav (k := .i64) hwfl)
       have h3 : den e.m (sy (opc 12 8) [sy (opc 48 3) [v], .int .i64 1073741824]) = some (.bool (decide ((l.length : Int) < 1073741824))) :=
        den_sy (c := binCode .lss) (by decide) (by decide) (denL2 (y' := .int .i64 1073741824) h2 (by simp [den])) (by rw [stdI2]; simp [zag, isShift, kEq_refl, zao]) rfl
       rw [h3] at h1
       simpa using h1
      have hnew := leaf_den (hasS_isSome g5) hnr
      have hzn := hasS_srt g5 hnr
      have hadd := app_den hden hnew
      intro hn
      rw [← hlen, ← htot]
      have hlive : hp.get b ≠ .dead := by rw [hg]; simp
      have hlt := hw.lt hb hlive
      have hm0 : new'.length = m := by rw [hnl, g2, Nat.mul_one]
      have hoall : (l ++ new').all one = true := by rw [List.all_append, hol, hone]; rfl
      have hzall : (l ++ new').all (srt (zsT P tyb)) = true := by rw [List.all_append, hzl, hzn]; rfl
      by_cases hroom : l.length + m ≤ (l ++ y2).length
      ·have hfit : 0 + l.length * i.size + new'.length ≤ (l ++ y2).length := by rw [g2, hm0]; omega
       have hrun := append_room_run (ty := ty) hd hi' hsr hc hroom hfit hone
       refine ⟨_, _, e.β b, 9223372036854775808 * (l ++ y2).length + (l.length + m), by rw [hrun]; rfl, ?_, ?_⟩
       ·have := RV.sliceG (e := e.add n (e.β b) (9223372036854775808 * (l ++ y2).length + (l.length + m))) (n := n + 1) n (by omega)
        rw [Env.add_β, Env.add_tot] at this
        rw [show (9223372036854775808 * (l ++ y2).length + (l.length + m)) % 9223372036854775808 = l.length + m by omega, show (9223372036854775808 * (l ++ y2).length + (l.length + m)) / 9223372036854775808 = (l ++ y2).length by omega] at this
        exact this
       ·refine (hw.kill hb).add hn rfl rfl rfl (by rw [setB_size]; exact Nat.le_refl _) (setB_get hlt _) ?_ ?_ (hw.where_ hb) ?_ (hw.kn b hb hlive) (fun q o hq => by
          rw [setB_ne]
          ·exact hw.kp q o hq
          ·rintro rfl
           have h1 := hw.kn b hb hlive
           have hq : e.m.K (e.β b) = some o := hq
           rw [h1] at hq; cases hq) ?_
        ·intro j hj hjl
         have hjb : j ≠ b := by
          rintro rfl
          rw [hp_set_same _ _ (by have := hw.nmax; omega)] at hjl
          exact hjl rfl
         have hjl' : hp.get j ≠ .dead := by
          rw [hp_set_ne _ _ _ (by have := hw.nmax; omega) (by have := hw.nmax; omega) (Ne.symm hjb)] at hjl
          exact hjl
         rw [setB_ne]
         exact fun h => hjb (hw.inj j b hj hb hjl' hlive h)
        ·intro j hj hjl h
         have hjb : j ≠ b := by
          rintro rfl
          rw [hp_set_same _ _ (by have := hw.nmax; omega)] at hjl
          exact hjl rfl
         have hjl' : hp.get j ≠ .dead := by
          rw [hp_set_ne _ _ _ (by have := hw.nmax; omega) (by have := hw.nmax; omega) (Ne.symm hjb)] at hjl
          exact hjl
         exact hjb (hw.inj j b hj hb hjl' hlive h)
        ·intro q hq hno
         rw [setB_ne]
         intro h
         rcases hw.where_ hb with h3 | ⟨k, hk, h3⟩
         ·omega
         ·exact hno k hk (by rw [h, h3])
        ·have e1 : splice (l ++ y2) (0 + l.length * i.size) new' = (l ++ new') ++ y2.drop new'.length := by
           rw [Nat.zero_add, g2, Nat.mul_one]
           unfold splice
           rw [List.take_left]
           rw [← List.drop_drop, List.drop_left]
         rw [e1]
         have h5 : new'.length ≤ y2.length := by
          simp only [List.length_append] at hroom
          omega
         have hl2 : ((l ++ new') ++ y2.drop new'.length).length = (l ++ y2).length := by
          simp only [List.length_append, List.length_drop]; omega
         refine .garr _ _ _ _ hadd ?_ ?_ hce hoall hzall
         ·rw [Env.add_tot, List.length_append, hm0]; omega
         ·rw [Env.add_tot, hl2]; omega
      ·have hold : (Builtin.firstCells i.size l.length (.slice (some ⟨e.β b, 0, none⟩) l.length (l ++ y2).length)).run P w.drew = .ok l.toArray w.drew := by
         refine run_firstCells_some w.drew i.size l.length _ _ _ l (by rw [g2, Nat.mul_one]) fun j u hu => ?_
         rw [add_none]
         have : w.drew.heap[e.β b]? = some (.cells (l ++ y2).toArray tyb) := hc
         rw [cell_list this, Nat.zero_add, List.getElem?_append_left (List.getElem?_eq_some_iff.1 hu).1]
         exact hu
       obtain ⟨z0, i2, hi2, hs2, hz, hzs, _⟩ := zero_run hP (w := w) hy (by simp [hi']) (show cellsOf P tyb = i.size by simp [cellsOf, hi']) h0 hc1
       obtain ⟨i3, d3, z3, hi3, hd3, hz3, _, hzz, _⟩ := zai (zam hP hy)
       rw [hi'] at hi3
       cases hi3
       have hz3s : z3.cells.size = i.size := by rw [← hc1, hzz]; simp
       have hbytes : (l.length + m) * i.bytes ≤ 1099511627776 := by
        have h1 : l.length + m ≤ 1073742848 := by omega
        calc (l.length + m) * i.bytes ≤ 1073742848 * 512 := Nat.mul_le_mul h1 g4
         _ ≤ 1099511627776 := by decide
       have hgr : (l ++ y2).length < l.length + m := by omega
       have hr := run_append_grow_src (P := P) w t t2 ty tyb i z3 hd hi' hz3 (some ⟨e.β b, 0, none⟩) l.length (l ++ y2).length l hold x' m new' hsr hgr (by omega) (growslice_fits hgr (by omega))
       have hge := grownCap_ge w (l.length + m) (l ++ y2).length tyb
       refine ⟨_, _, w.heap.size, 9223372036854775808 * grownCap w (l.length + m) (l ++ y2).length tyb + (l.length + m), by rw [hr]; rfl, ?_, ?_⟩
       ·have := RV.sliceG (e := e.add n w.heap.size (9223372036854775808 * grownCap w (l.length + m) (l ++ y2).length tyb + (l.length + m))) (n := n + 1) n (by omega)
        rw [Env.add_β, Env.add_tot] at this
        rw [show (9223372036854775808 * grownCap w (l.length + m) (l ++ y2).length tyb + (l.length + m)) % 9223372036854775808 = l.length + m by omega, show (9223372036854775808 * grownCap w (l.length + m) (l ++ y2).length tyb + (l.length + m)) / 9223372036854775808 = grownCap w (l.length + m) (l ++ y2).length tyb by omega] at this
        exact this
       ·have hdd := wr_drew (hw.kill hb)
        have e1 : ((l ++ new') ++ (Builtin.zeroCells z3.cells (grownCap w (l.length + m) (l ++ y2).length tyb - (l.length + m))).toList).toArray = (l ++ new').toArray ++ Builtin.zeroCells z3.cells (grownCap w (l.length + m) (l ++ y2).length tyb - (l.length + m)) := by
         apply Array.ext'; simp
        have hfin : RO P (e.add n w.heap.size (9223372036854775808 * grownCap w (l.length + m) (l ++ y2).length tyb + (l.length + m))) (n + 1) n (.garr (sy (opc 47 13) [v, .agg ⟨new⟩]) tyb) (.cells (((l ++ new') ++ (Builtin.zeroCells z3.cells (grownCap w (l.length + m) (l ++ y2).length tyb - (l.length + m))).toList).toArray) tyb) := by
         refine .garr _ _ _ _ hadd ?_ ?_ hce hoall hzall
         ·rw [Env.add_tot, List.length_append, hm0]; omega
         ·rw [Env.add_tot]
          have hzl : ∀ k, (Builtin.zeroCells z3.cells k).toList.length = k := fun k => by rw [Array.length_toList, size_zeroCells, hz3s, g2, Nat.mul_one]
          rw [List.length_append (as := l ++ new'), hzl, List.length_append (as := l) (bs := new'), hm0]
          omega
        rw [e1] at hfin
        exact hdd.alloc hn hfin
   ·exact trivial
  ·exact trivial
 ·exact trivial
theorem append_run (hw : WR P B e n hp w) {t t2 ty : TypeId} {s x s' x' : Value} (hs : RV e n s s') (hx : RV e n x x') : OpS P B e n w (appendx P n hp t t2 s x) (((Builtin.append_ #[t, t2] ty #[s', x']).run P w).andThen fun v w => .ok (.value v) w) := by
 unfold appendx
 split
 ·rename_i sz ag z el et sz2 ag2 z2 kd base sl cap hti hti2
  obtain ⟨i0, d0, zz0, _, hd, _, _, _, _, rfl, hel, hall⟩ := zai (zam hP hti)
  split
  ·rename_i i y m new hi hy hsrc
   have hi' := infoT_info hP hi
   have hsz : i.size = el := by rw [hel]; simp [cellsOf, hi']
   subst hsz
   split
   ·rename_i b off z
    rw [zaa]
    split
    ·rename_i hck
     simp only [Bool.and_eq_true, Bool.not_eq_true'] at hck
     obtain ⟨hcc, hc0, hc1, hc2⟩ := hck
     have h0 : i.size ≠ 0 := by intro h0; rw [h0] at hc0; simp at hc0
     obtain ⟨new', hsr, hnr, hnl⟩ := srcOf_run hP hw hti2 hsrc hx hc2
     have hone : new'.all one = true := (by rw [← hnr.allOne]; exact hc2)
     exact appG_run hP hw hd hi' hy h0 (zad hc1) hs (zad hcc) hsr hnr hnl hone
    ·trivial
   rw [zaa]
   split
   ·rename_i hck
    simp only [Bool.and_eq_true, Bool.not_eq_true'] at hck
    obtain ⟨⟨⟨⟨hc0, hc1⟩, hc2⟩, hc3⟩, hc4⟩ := hck
    have hc1 := zad hc1
    have hc3 := zaw hc3
    have hc4 := zaw hc4
    have h0 : i.size ≠ 0 := by intro h0; rw [h0] at hc0; simp at hc0
    obtain ⟨new', hsr, hnr, hnl⟩ := srcOf_run hP hw hti2 hsrc hx hc2
    have hone : new'.all one = true := by rw [← hnr.allOne]; exact hc2
    unfold appTo
    split
    ·-- nil
     have := hs.slN; subst this
     rw [zaa]
     split
     ·rename_i hz
      obtain ⟨hz1, hz2⟩ := zac hz
      have := zad hz1; subst this
      have := zad hz2; subst this
      rw [zaa]
      split
      ·rename_i hm
       have := zad hm; subst this
       refine ⟨.slice none 0 0, ?_, .plain _ rfl⟩
       rcases hsr.kind with ⟨e', hk⟩ | hk <;> simp [Builtin.append_, run_underlying hd, run_underlying hk, sizeOf, typeInfo, hi', hsr.len, hsr.cells]
      ·rename_i hm
       have hm0 : 0 < m := Nat.pos_of_ne_zero fun h => hm (by rw [h]; rfl)
       intro hn
       obtain ⟨v', w', q, tt, h1, h2, h3⟩ := append_grow_run hP hw hn (ty := ty) hd hi' hy h0 hc1 (base := none) (sl := 0) (cap := 0) (old := []) (old' := []) hsr (by simp [Builtin.firstCells]) .nil hnr (by simp) hnl (by omega) hc3 hc4
       rw [Nat.zero_add] at h2
       exact ⟨v', w', q, tt, by rw [h1]; rfl, h2, h3⟩
     ·trivial
    ·rename_i b off _
     obtain ⟨hb, cap', rfl, hcap⟩ := hs.slI
     split
     ·rename_i l tyb gr hg
      obtain ⟨l', y2, hc, hr, hy1, hy2⟩ := hw.cells hb hg
      have hll := hr.length
      rw [zaa]
      split
      ·rename_i hcu
       have hcu := zad hcu
       subst hcu
       rcases hcap with ⟨h, _⟩ | ⟨_, hoff, hcap', hlen⟩ | ⟨h, _⟩
       ·exact (Nat.lt_irrefl _ h).elim
       rotate_left
       ·exfalso; unfold CAPU CAPV at h; omega
       ·rw [zaa]
        split
        ·rename_i hck2
         simp only [Bool.and_eq_true] at hck2
         obtain ⟨⟨⟨g1, g2⟩, g3⟩, g4⟩ := hck2
         have g2 := zad g2
         have g3 := zad g3
         subst hoff g3 g4
         intro hn
         have htot := hy2 rfl
         have hce : cellsOf P tyb = i.size := by simp [cellsOf, hi']
         rw [hce] at htot
         by_cases hroom : sl + m ≤ cap'
         ·-- it stays
          have hfit : 0 + sl * i.size + new'.length ≤ (l' ++ y2).length := by
           rw [htot, hnl, Nat.zero_add, ← Nat.add_mul, ← hcap']
           exact Nat.mul_le_mul_right _ hroom
          have hrun := append_room_run (ty := ty) hd hi' hsr hc hroom hfit hone
          refine ⟨_, _, e.β b, e.tot b, by rw [hrun]; rfl, ?_, ?_⟩
          ·have := RV.sliceU (e := e.add n (e.β b) (e.tot b)) (n := n + 1) n (sl + m) (by omega) (by rw [Env.add_tot, ← hcap']; exact hroom)
           rw [Env.add_β, Env.add_tot] at this
           rw [hcap']; exact this
          ·have hlive : hp.get b ≠ .dead := by rw [hg]; simp
           have hlt := hw.lt hb hlive
           refine (hw.kill hb).add hn rfl rfl rfl (by rw [setB_size]; exact Nat.le_refl _) (setB_get hlt _) ?_ ?_ (hw.where_ hb) ?_ (hw.kn b hb hlive) (fun q o hq => by
            rw [setB_ne]
            ·exact hw.kp q o hq
            ·rintro rfl
             have h1 := hw.kn b hb hlive
             have hq : e.m.K (e.β b) = some o := hq
             rw [h1] at hq; cases hq) ?_
           ·intro j hj hjl
            have hjb : j ≠ b := by
             rintro rfl
             rw [hp_set_same _ _ (by have := hw.nmax; omega)] at hjl
             exact hjl rfl
            have hjl' : hp.get j ≠ .dead := by
             rw [hp_set_ne _ _ _ (by have := hw.nmax; omega) (by have := hw.nmax; omega) (Ne.symm hjb)] at hjl
             exact hjl
            rw [setB_ne]
            exact fun h => hjb (hw.inj j b hj hb hjl' hlive h)
           ·intro j hj hjl h
            have hjb : j ≠ b := by
             rintro rfl
             rw [hp_set_same _ _ (by have := hw.nmax; omega)] at hjl
             exact hjl rfl
            have hjl' : hp.get j ≠ .dead := by
             rw [hp_set_ne _ _ _ (by have := hw.nmax; omega) (by have := hw.nmax; omega) (Ne.symm hjb)] at hjl
             exact hjl
            exact hjb (hw.inj j b hj hb hjl' hlive h)
           ·intro q hq hno
            rw [setB_ne]
            intro h
            rcases hw.where_ hb with h3 | ⟨k, hk, h3⟩
            ·omega
            ·exact hno k hk (by rw [h, h3])
           ·have hrl : RL (e.add n (e.β b) (e.tot b)) (n + 1) (l ++ new) (l' ++ new') := (hr.append hnr).mono (e.ext n _ _)
            have e1 : splice (l' ++ y2) (0 + sl * i.size) new' = (l' ++ new') ++ y2.drop new'.length := by
             rw [Nat.zero_add, ← g2, hll]
             unfold splice
             rw [List.take_left]
             rw [← List.drop_drop, List.drop_left]
            rw [e1]
            refine .grown _ _ _ _ hrl ?_
            rw [Env.add_tot, hce, ← htot]
            have h5 : new'.length ≤ y2.length := by
             simp only [List.length_append] at hfit
             rw [← hll, g2] at hfit
             omega
            simp only [List.length_append, List.length_drop]
            omega
         ·-- it grows
          have hold : (Builtin.firstCells i.size sl (.slice (some ⟨e.β b, 0, none⟩) sl cap')).run P w.drew = .ok l'.toArray w.drew := by
           refine run_firstCells_some w.drew i.size sl _ _ _ l' (by rw [← hll, g2]) fun j u hu => ?_
           rw [add_none]
           have : w.drew.heap[e.β b]? = some (.cells (l' ++ y2).toArray tyb) := hc
           rw [cell_list this, Nat.zero_add, List.getElem?_append_left (List.getElem?_eq_some_iff.1 hu).1]
           exact hu
          obtain ⟨v', w', q, tt, h1, h2, h3⟩ := append_grow_run hP (hw.kill hb) hn (ty := ty) hd hi' hy h0 hc1 hsr hold hr hnr (by rw [← hll, g2]) hnl (by omega) hc3 hc4
          exact ⟨v', w', q, tt, by rw [h1]; rfl, h2, h3⟩
        ·trivial
      ·rename_i hcu
       rw [zaa]
       split
       ·trivial
       rename_i hcu2
       have hcu2 : ¬ CAPU ≤ cap := fun h => hcu2 (by simpa using h)
       have hlc : cap < CAPU := by omega
       have hcc : cap' = cap := by
        rcases hcap with ⟨_, h⟩ | ⟨h, _⟩ | ⟨h, _⟩
        ·exact h
        ·omega
        ·unfold CAPU CAPV at *; omega
       subst hcc
       rw [zaa]
       split
       ·rename_i hroom
        have hroom := zaw hroom
        rw [zaa]
        split
        ·rename_i hfit
         have hfit := zaw hfit
         rw [Nat.add_mul] at hfit
         have hfit2 : off + sl * i.size + new'.length ≤ (l' ++ y2).length := by rw [hnl, List.length_append]; omega
         have hrun := append_room_run (ty := ty) hd hi' hsr hc hroom hfit2 hone
         refine ⟨_, _, .inl (by rw [hrun]; rfl), ?_, ?_⟩
         ·exact .slice _ _ _ _ hb hlc
         ·have hnl2 : new.length = m * i.size := by rw [hnr.length, hnl]
          rw [splx_eq _ _ _ (by omega)]
          have e1 : splice (l' ++ y2) (off + sl * i.size) new' = splice l' (off + sl * i.size) new' ++ y2 := by
           unfold splice
           rw [List.take_append_of_le_length (by omega), List.drop_append_of_le_length (by omega)]
           simp
          rw [e1]
          refine hw.set hb (by rw [hg]; simp) ?_
          have hrl := hr.splice hnr (off + sl * i.size)
          cases gr with
          | false => rw [hy1 rfl, List.append_nil]; exact .cells _ _ _ hrl
          | true =>
            refine .grown _ _ _ _ hrl ?_
            rw [← hy2 rfl]
            simp only [List.length_append]
            rw [splice_length _ _ _ (by omega)]
        ·trivial
       ·rename_i hroom
        have hroom : ¬ sl + m ≤ cap' := fun h => hroom (Nat.ble_eq_true_of_le h)
        rw [zaa]
        split
        ·rename_i hfit
         have hfit := zaw hfit
         intro hn
         have hr2 := (hr.drop off).take (sl * i.size)
         have hol : ((l'.drop off).take (sl * i.size)).length = sl * i.size := by simp; omega
         have hold : (Builtin.firstCells i.size sl (.slice (some ⟨e.β b, off, none⟩) sl cap')).run P w.drew = .ok ((l'.drop off).take (sl * i.size)).toArray w.drew := by
          refine run_firstCells_some w.drew i.size sl _ _ _ _ hol fun j u hu => ?_
          rw [add_none]
          have : w.drew.heap[e.β b]? = some (.cells (l' ++ y2).toArray tyb) := hc
          rw [cell_list this]
          rw [List.getElem?_take] at hu
          split at hu
          ·rw [List.getElem?_drop] at hu
           rw [List.getElem?_append_left (List.getElem?_eq_some_iff.1 hu).1]
           exact hu
          ·cases hu
         obtain ⟨v', w', q, tt, h1, h2, h3⟩ := append_grow_run hP hw hn (ty := ty) hd hi' hy h0 hc1 hsr hold hr2 hnr hol hnl (by omega) hc3 hc4
         exact ⟨v', w', q, tt, by rw [h1]; rfl, h2, h3⟩
        ·trivial
     ·trivial
    ·trivial
   ·trivial
  ·trivial
 ·trivial
theorem s_append {xs : Array Operand} {ts : Array TypeId} {t t2 : TypeId} (hw : WR P B e n hp w) (hts : ts.toList = [t, t2]) (ho : o.op = .call ⟨.builtin .append, xs, ts⟩) (hx : ∀ x ∈ xs.toList, RV e n (ev tm x) (evx fr x)) : OpS P B e n w (bAppend (evs tm xs.toList) t t2 P tm n hp) ((execOp (evx fr) o).run P w) := by
 unfold bAppend
 have hr := RL.evs (e := e) (n := n) (tm := tm) (ρ := evx fr) xs.toList hx
 have ets : ts = #[t, t2] := by apply Array.ext'; simpa using hts
 generalize hL : xs.toList.map (evx fr) = L at hr
 split
 ·rename_i s x hxs
  rw [hxs] at hr
  cases hr with
  | cons _ s' _ l' hv hl =>
  cases hl with
  | cons _ x' _ l2 hv2 hl2 =>
  cases hl2
  have exs : xs.map (evx fr) = #[s', x'] := by apply Array.ext'; simpa using hL
  have := append_run hP hw (t := t) (t2 := t2) (ty := o.type) hv hv2
  have e2 : (execOp (evx fr) o).run P w = ((Builtin.append_ #[t, t2] o.type #[s', x']).run P w).andThen fun v w => .ok (.value v) w := by
   simp only [execOp, ho, resolve, Sem.run_bind, Sem.run_pure, Result.andThen_ok, invoke, builtin, exs, ets]
  rw [e2]
  exact this
 ·trivial
end
end Go.Gz
