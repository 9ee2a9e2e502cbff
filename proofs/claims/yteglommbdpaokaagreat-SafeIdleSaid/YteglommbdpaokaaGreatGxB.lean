/- The symbolic evaluator is right, part 1: loads, stores, new blocks, and what the table of types says. -/
import Derived.Test.YteglommbdpaokaaGreatGxA
import Derived.Laws.Entries
import Derived.ChangeKeysEq
namespace Go.Gx
open Go.RowKit
theorem cell_list {w : World} {b : Nat} {l : List Value} {t : TypeId} {z : Nat × Nat} (h : w.heap[b]? = some (.cells l.toArray t z)) (off : Nat) : w.cell? ⟨b, off, none⟩ = l[off]? := by
 simp [World.cell?, h]
theorem frozen_list {w : World} {b : Nat} {l : List Value} {t : TypeId} (h : w.heap[b]? = some (.cells l.toArray t)) (off : Nat) : w.frozen? ⟨b, off, none⟩ = false := by
 simp [World.frozen?, h]
theorem add_none (b off i : Nat) : (Addr.add ⟨b, off, none⟩ i) = ⟨b, off + i, none⟩ := by
 unfold Addr.add; split
 ·simp [*]
 ·rfl
theorem zai {P : Program} {t : TypeId} {ti : TI} (h : tiof P t = some ti) :
  ∃ i d z, P.info? t = some i ∧ P.underlying t = some d ∧ i.zero = some z ∧ ti.sz = i.size ∧ ti.zero = z.cells.toList ∧
    (ti.ag = true ↔ (match d with | .struct _ => True | .array _ _ => True | _ => False)) ∧
    (match ti.kd with
     | .st fs c => ∃ gs, d = .struct gs ∧ (fs = gs.toList.map fun f => (f.offset, cellsOf P f.type, f.type)) ∧ c = cmpOk P t gs ∧ (∀ f ∈ gs.toList, (P.info? f.type).isSome = true)
     | .ar n e et => d = .array n et ∧ e = cellsOf P et ∧ (P.info? et).isSome = true
     | .sl e et => d = .slice et ∧ e = cellsOf P et ∧ (P.info? et).isSome = true
     | .it k => d = .int k
     | .bo => d = .bool
     | .str => d = .string
     | .pt => ∃ e, d = .pointer e
     | .fu => ∃ a b c, d = .func a b c
     | .ifc => ∃ ms, d = .interface ms
     | .other => True) := by
 unfold tiof at h
 split at h
 ·rename_i i d hi hd
  split at h
  ·cases h
  ·rename_i z hz
   cases d with
   | struct fs =>
     simp only at h
     split at h
     ·rename_i ha
      cases h
      refine ⟨i, _, z, hi, hd, hz, rfl, rfl, by simp, fs, rfl, rfl, rfl, fun f hf => ?_⟩
      exact Array.all_eq_true'.1 ha f (by simpa using hf)
     ·cases h
   | array n e =>
     simp only at h
     split at h
     ·rename_i ha; cases h; exact ⟨i, _, z, hi, hd, hz, rfl, rfl, by simp, rfl, rfl, ha⟩
     ·cases h
   | slice e =>
     simp only at h
     split at h
     ·rename_i ha; cases h; exact ⟨i, _, z, hi, hd, hz, rfl, rfl, by simp, rfl, rfl, ha⟩
     ·cases h
   | _ => simp only [Option.some.injEq] at h; subst h; refine ⟨i, _, z, hi, hd, hz, rfl, rfl, by simp, ?_⟩; simp
 ·cases h
theorem zar {P : Program} {t : TypeId} {i : TypeInfo} (h : P.info? t = some i) (w : World) : (sizeOf t).run P w = .ok i.size w := by
 simp [sizeOf, typeInfo, h]
theorem run_zero' {P : Program} {t : TypeId} {i : TypeInfo} {z : Value} (h : P.info? t = some i) (hz : i.zero = some z) (w : World) : (zeroValue t).run P w = .ok z w := by
 simp [zeroValue, typeInfo, h, hz]
theorem run_isAgg' {P : Program} {t : TypeId} {d : TypeDesc} (h : P.underlying t = some d) (w : World) :
  (isAgg t).run P w = .ok (match d with | .struct _ => true | .array _ _ => true | _ => false) w := by
 simp [isAgg, run_underlying h]
 cases d <;> rfl
theorem run_loadCells' {P : Program} {w : World} {b : Nat} {l : List Value} {t : TypeId} {z : Nat × Nat} (h : w.heap[b]? = some (.cells l.toArray t z)) (off : Nat) :
  ∀ (n i : Nat) (acc : Array Value), off + i + n ≤ l.length → (loadCellsFrom ⟨b, off, none⟩ i n acc).run P w = .ok (acc ++ ((l.drop (off + i)).take n).toArray) w := by
 intro n
 induction n with
 | zero => intro i acc _; simp [loadCellsFrom]
 | succ n ih =>
   intro i acc hl
   have hlt : off + i < l.length := by omega
   have hc := cell_list h (off + i)
   rw [List.getElem?_eq_getElem hlt] at hc
   simp only [loadCellsFrom, Sem.run_bind, run_load, add_none, hc, Result.andThen_ok]
   rw [ih (i + 1) _ (by omega)]
   rw [List.drop_eq_getElem_cons hlt, List.take_succ_cons]
   simp [Nat.add_assoc]
theorem run_load_one {P : Program} {w : World} {b : Nat} {l : List Value} {t ty : TypeId} {fz : Nat × Nat} {ti : TI} (h : w.heap[b]? = some (.cells l.toArray ty fz)) (off : Nat)
  (ht : tiof P t = some ti) (ha : ti.ag ≠ true) {v : Value} (hv : l[off]? = some v) : (loadVar t ⟨b, off, none⟩).run P w = .ok v w := by
 obtain ⟨i, d, z, hi, hd, hz, _, _, hag, _⟩ := zai ht
 have hd' : (isAgg t).run P w = .ok false w := by
  rw [run_isAgg' hd]; cases d <;> simp_all
 simp [loadVar, hd', cell_list h, hv]
theorem run_load_agg {P : Program} {w : World} {b : Nat} {l : List Value} {t ty : TypeId} {fz : Nat × Nat} {ti : TI} (h : w.heap[b]? = some (.cells l.toArray ty fz)) (off : Nat)
  (ht : tiof P t = some ti) (ha : ti.ag = true) (hl : off + ti.sz ≤ l.length) : (loadVar t ⟨b, off, none⟩).run P w = .ok (.agg ((l.drop off).take ti.sz).toArray) w := by
 obtain ⟨i, d, z, hi, hd, hz, hs, _, hag, _⟩ := zai ht
 have hd' : (isAgg t).run P w = .ok true w := by
  rw [run_isAgg' hd]; cases d <;> simp_all
 have := run_loadCells' (P := P) h off ti.sz 0 #[] (by omega)
 simp only [Nat.add_zero] at this
 simp [loadVar, hd', zar hi, ← hs, loadCells, this]
def setB (w : World) (b : Nat) (o : Obj) : World := { w with heap := w.heap.setIfInBounds b o }
theorem setCell_setB {w : World} {b : Nat} {l : List Value} {t : TypeId} (h : w.heap[b]? = some (.cells l.toArray t)) (off : Nat) (v : Value) :
  w.setCell ⟨b, off, none⟩ v = setB w b (.cells (l.set off v).toArray t) := by
 have hb : b < w.heap.size := (Array.getElem?_eq_some_iff.1 h).1
 have he : w.heap[b] = .cells l.toArray t := by
  have := h; rw [Array.getElem?_eq_getElem hb] at this; exact Option.some.inj this
 simp only [World.setCell, setB]
 congr 1
 apply Array.ext
 ·simp
 ·intro i h1 h2
  simp only [Array.getElem_modify, Array.getElem_setIfInBounds (by simpa using h2)]
  split
  ·subst_vars; simp [he]
  ·rfl
theorem setB_setB (w : World) (b : Nat) (o o' : Obj) : setB (setB w b o) b o' = setB w b o' := by
 simp [setB]
theorem setB_get {w : World} {b : Nat} (h : b < w.heap.size) (o : Obj) : (setB w b o).heap[b]? = some o := by
 simp [setB, h]
theorem setB_ne {w : World} {b r : Nat} (h : r ≠ b) (o : Obj) : (setB w b o).heap[r]? = w.heap[r]? := by
 simp only [setB, Array.getElem?_setIfInBounds]
 rw [if_neg (Ne.symm h)]
theorem setB_size (w : World) (b : Nat) (o : Obj) : (setB w b o).heap.size = w.heap.size := by simp [setB]
theorem splice_one (l : List Value) (off : Nat) (v : Value) (h : off < l.length) : splice l off [v] = l.set off v := by
 simp [splice, List.set_eq_take_append_cons_drop, h]
theorem splice_nil (l : List Value) (off : Nat) : splice l off [] = l := by simp [splice]
theorem splice_length (l : List Value) (off : Nat) (cs : List Value) (h : off + cs.length ≤ l.length) : (splice l off cs).length = l.length := by
 simp [splice]; omega
theorem splice_cons (l : List Value) (off : Nat) (v : Value) (cs : List Value) (h : off + (cs.length + 1) ≤ l.length) :
  splice (l.set off v) (off + 1) cs = splice l off (v :: cs) := by
 apply List.ext_getElem?
 intro i
 simp only [splice, List.getElem?_append, List.length_take, List.length_set, List.length_append, List.length_cons, List.getElem?_take, List.getElem?_drop, List.getElem?_set]
 have e1 : min (off + 1) l.length = off + 1 := by omega
 have e2 : min off l.length = off := by omega
 rw [e1, e2]
 by_cases h1 : i < off
 ·simp [h1, show i < off + 1 by omega, show i < off + 1 + cs.length by omega, show i < off + (cs.length + 1) by omega, show ¬ off = i by omega]
 ·by_cases h2 : i = off
  ·subst h2
   simp [show i < i + 1 + cs.length by omega, show i < l.length by omega]
  ·have h3 : ¬ i < off + 1 := by omega
   by_cases h4 : i < off + 1 + cs.length
   ·simp [h1, h3, h4, show i < off + (cs.length + 1) by omega]
    rw [show i - off = (i - (off + 1)) + 1 by omega, List.getElem?_cons_succ]
   ·simp only [h1, h3, h4, show ¬ i < off + (cs.length + 1) by omega, if_false]
    rw [if_neg (by omega)]
    congr 1; omega
theorem one_cell' {v : Value} (h : one v = true) : v.oneCell' = true := by cases v <;> simp_all [one, Value.oneCell']
theorem run_storeCells' {P : Program} {b : Nat} {t : TypeId} (off : Nat) :
  ∀ (vs : List Value) (i : Nat) (w : World) (l : List Value), w.heap[b]? = some (.cells l.toArray t) → vs.all one = true → off + i + vs.length ≤ l.length →
    (storeCells ⟨b, off, none⟩ vs i).run P w = .ok () (setB w b (.cells (splice l (off + i) vs).toArray t)) := by
 intro vs
 induction vs with
 | nil =>
   intro i w l h _ _
   have hb : b < w.heap.size := (Array.getElem?_eq_some_iff.1 h).1
   have he : w.heap[b] = .cells l.toArray t := by
    have := h; rw [Array.getElem?_eq_getElem hb] at this; exact Option.some.inj this
   have : setB w b (.cells l.toArray t) = w := by
    simp only [setB]
    rw [← he, Array.setIfInBounds, dif_pos hb, Array.set_getElem_self]
   simp [storeCells, splice_nil, this]
 | cons v vs ih =>
   intro i w l h hall hl
   simp only [List.all_cons, Bool.and_eq_true] at hall
   simp only [List.length_cons] at hl
   have hb : b < w.heap.size := (Array.getElem?_eq_some_iff.1 h).1
   have hc := cell_list h (off + i)
   rw [List.getElem?_eq_getElem (by omega)] at hc
   simp only [storeCells, Sem.run_bind, add_none]
   rw [run_store P w ⟨b, off + i, none⟩ v .plain (one_cell' hall.1)]
   simp only [hc, frozen_list h, Bool.false_eq_true, if_false, Result.andThen_ok]
   rw [setCell_setB h]
   rw [ih (i + 1) _ (l.set (off + i) v) (setB_get hb _) hall.2 (by simp; omega)]
   rw [setB_setB, ← Nat.add_assoc, splice_cons _ _ _ _ (by omega)]
theorem run_storeVar' {P : Program} {b : Nat} {t ty : TypeId} {ti : TI} {w : World} {l : List Value} (h : w.heap[b]? = some (.cells l.toArray ty)) (off : Nat) (v : Value)
  (ht : tiof P t = some ti) (hs : v.cells.size = ti.sz) (hall : v.cells.toList.all one = true) (hl : off + ti.sz ≤ l.length) :
  (storeVar t ⟨b, off, none⟩ v).run P w = .ok () (setB w b (.cells (splice l off v.cells.toList).toArray ty)) := by
 obtain ⟨i, d, z, hi, hd, hz, hsz, _⟩ := zai ht
 have := run_storeCells' (P := P) off v.cells.toList 0 w l h hall (by simp; omega)
 simp only [Nat.add_zero] at this
 simp [storeVar, zar hi, hs, hsz, this]
end Go.Gx
