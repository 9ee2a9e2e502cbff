/- The evaluator that the kernel runs: the types of the cells of arguments; texts and numbers in slices that are handed in, as facts. -/
import Derived.Test.YteglommbdpaokaaGreatGzSl
import Derived.Test.YteglommbdpaokaaGreatGzG
import Derived.Test.YteglommbdpaokaaGreatGzDe2
namespace Go.Gz
open Go Go.Gx Go.RowKit Go.ChangeShapes Go.WideShapes Go.ChangeAt
noncomputable def repT (l : List TypeId) : Nat → List TypeId
 | 0 => []
 | k + 1 => l ++ repT l k
noncomputable def ztf (P : Program) (rec : TypeId → Option (List TypeId)) : Nat → List Field → Option (List TypeId)
 | _, [] => some []
 | off, f :: r => match rec f.type with
   | some l => cnd (Nat.beq f.offset off && Nat.beq l.length (cellsT P f.type)) (match ztf P rec (off + l.length) r with
     | some m => some (l ++ m)
     | none => none) none
   | none => none
noncomputable def zt (P : Program) : Nat → TypeId → Option (List TypeId) :=
 @Nat.rec (fun _ => TypeId → Option (List TypeId)) (fun _ => none) (fun _ rec t => match underT P t with
  | some d => match d with
    | .struct fs => ztf P rec 0 fs.toList
    | .array n e => match rec e with
      | some l => cnd (Nat.beq l.length (cellsT P e)) (some (repT l n)) none
      | none => none
    | .int _ => some [t]
    | .bool => some [t]
    | .string => some [t]
    | .slice _ => some [t]
    | _ => none
  | none => none)
section
variable {H : Type} {enc : TypeId × Value → H} {P : Program} (hP : Small P) {w : World} {base : Nat} {spare : Nat → Bool} {held : Bool}
def CellOk (enc : TypeId × Value → H) (P : Program) (w : World) (base : Nat) (spare : Nat → Bool) (held : Bool) (u : TypeId) (v : Value) : Prop := ∃ n x, DataW.trod enc P w base spare held n u [v] = some x
def CellsOk (enc : TypeId × Value → H) (P : Program) (w : World) (base : Nat) (spare : Nat → Bool) (held : Bool) (us : List TypeId) (cs : List Value) : Prop :=
 ∀ (j : Nat) (u : TypeId) (v : Value), us[j]? = some u → cs[j]? = some v → CellOk enc P w base spare held u v
include hP
omit hP in
theorem zt_info {d : Nat} {t : TypeId} {ss : List TypeId} (h : zt P d t = some ss) : ∃ i, infoT P t = some i := by
 cases d with
 | zero => cases h
 | succ d =>
   have h : (match underT P t with
    | some d => _
    | none => none) = some ss := h
   cases hu : underT P t with
   | none => rw [hu] at h; cases h
   | some u =>
     unfold underT at hu
     cases hi : infoT P t with
     | none => rw [hi] at hu; cases hu
     | some i => exact ⟨i, rfl⟩
theorem ztf_cells {rec : TypeId → Option (List TypeId)} {n : Nat} (ih : ∀ t ss cs x, rec t = some ss → DataW.trod enc P w base spare held n t cs = some x → CellsOk enc P w base spare held ss cs) (hinfo : ∀ t ss, rec t = some ss → ∃ i, infoT P t = some i) :
  ∀ (fs : List Field) (off : Nat) (ss : List TypeId) (cs : List Value), ztf P rec off fs = some ss → (∀ f ∈ fs, ∃ x, DataW.trod enc P w base spare held n f.type ((cs.drop f.offset).take (P.cellsOf f.type)) = some x) →
    CellsOk enc P w base spare held ss ((cs.drop off).take ss.length)
 | [], off, ss, cs, h, _ => by cases h; intro j u v h1; simp at h1
 | f :: r, off, ss, cs, h, hall => by
   unfold ztf at h
   split at h
   ·rename_i l hl
    rw [zaa] at h
    split at h
    ·rename_i hc
     simp only [Bool.and_eq_true] at hc
     have e1 := zad hc.1
     have e2 := zad hc.2
     obtain ⟨i, hi⟩ := hinfo _ _ hl
     rw [cellsT_of hP hi] at e2
     split at h
     ·rename_i m hm
      cases h
      obtain ⟨x, hx⟩ := hall f List.mem_cons_self
      have h1 := ih _ _ _ _ hl hx
      rw [e1, ← e2] at h1
      have h2 := ztf_cells ih hinfo r (off + l.length) m cs hm fun g hg => hall g (List.mem_cons_of_mem _ hg)
      intro j u v g1 g2
      rcases Nat.lt_or_ge j l.length with hj | hj
      ·refine h1 j u v ?_ ?_
       ·rwa [List.getElem?_append_left hj] at g1
       ·rw [List.getElem?_take] at g2 ⊢
        rw [if_pos hj]
        rw [if_pos (by rw [List.length_append]; omega)] at g2
        exact g2
      ·refine h2 (j - l.length) u v ?_ ?_
       ·rwa [List.getElem?_append_right hj] at g1
       ·have hlt := (List.getElem?_eq_some_iff.1 g1).1
        rw [List.length_append] at hlt
        rw [List.getElem?_take, List.getElem?_drop] at g2 ⊢
        rw [if_pos (by rw [List.length_append]; omega)] at g2
        rw [if_pos (by omega)]
        rw [show off + l.length + (j - l.length) = off + j by omega]
        exact g2
     ·cases h
    ·cases h
   ·cases h
omit hP in
theorem repT_cells {ss : List TypeId} {c : Nat} (hc : ss.length = c) : ∀ (n : Nat) (cs : List Value), (∀ i, i < n → CellsOk enc P w base spare held ss ((cs.drop (i * c)).take c)) → CellsOk enc P w base spare held (repT ss n) cs
 | 0, cs, _ => by intro j u v h1; simp [repT] at h1
 | n + 1, cs, hall => by
   have h0 := hall 0 (by omega)
   simp only [Nat.zero_mul, List.drop_zero] at h0
   have h2 := repT_cells hc n (cs.drop c) fun i hi => by
    have := hall (i + 1) (by omega)
    rw [List.drop_drop]
    rw [Nat.succ_mul] at this
    rw [Nat.add_comm c]; exact this
   intro j u v g1 g2
   have g1 : (ss ++ repT ss n)[j]? = some u := g1
   rcases Nat.lt_or_ge j ss.length with hj | hj
   ·rw [List.getElem?_append_left hj] at g1
    exact h0 j u v g1 (by rw [List.getElem?_take, if_pos (by omega)]; exact g2)
   ·rw [List.getElem?_append_right hj] at g1
    exact h2 _ u v g1 (by rw [List.getElem?_drop, show c + (j - ss.length) = j by omega]; exact g2)
theorem zt_cells : ∀ (d : Nat) (n : Nat) (t : TypeId) (ss : List TypeId) (cs : List Value) (x : DataW H × List MemPlace), zt P d t = some ss → DataW.trod enc P w base spare held n t cs = some x → CellsOk enc P w base spare held ss cs
 | 0, n, t, ss, cs, x, h, _ => by cases h
 | d + 1, n, t, ss, cs, x, h, hx => by
   have h : (match underT P t with
    | some dd => (match dd with
      | .struct fs => ztf P (zt P d) 0 fs.toList
      | .array n e => match zt P d e with
        | some l => cnd (Nat.beq l.length (cellsT P e)) (some (repT l n)) none
        | none => none
      | .int _ => some [t]
      | .bool => some [t]
      | .string => some [t]
      | .slice _ => some [t]
      | _ => none : Option (List TypeId))
    | none => none) = some ss := h
   cases hu : underT P t with
   | none => rw [hu] at h; cases h
   | some dd =>
     rw [hu] at h
     have hu' := underT_under hP hu
     have hone : ∀ v, cs = [v] → some [t] = some ss → CellsOk enc P w base spare held ss cs := by
      intro v0 hc e j u v g1 g2
      cases e
      subst hc
      cases j with
      | succ j => simp at g1
      | zero => simp at g1 g2; subst g1; subst g2; exact ⟨n, _, hx⟩
     cases dd with
     | int k => obtain ⟨m, rfl, _⟩ := DataW.trod_int hu' hx; exact hone _ rfl h
     | bool => obtain ⟨m, rfl, _⟩ := DataW.trod_bool hu' hx; exact hone _ rfl h
     | string => obtain ⟨m, rfl, _⟩ := DataW.trod_string hu' hx; exact hone _ rfl h
     | slice e =>
       rcases DataW.trod_slice hu' hx with ⟨rfl, _⟩ | ⟨a, len, cap, el, rest, n', _, rfl, _⟩
       ·exact hone _ rfl h
       ·exact hone _ rfl h
     | struct fs =>
       simp only [] at h
       obtain ⟨xs, n', rfl, _, hlen, hxl, hf⟩ := DataW.trod_struct hu' hx
       have := ztf_cells hP (w := w) (base := base) (spare := spare) (held := held) (enc := enc) (n := n') (rec := zt P d) (fun t ss cs x => zt_cells d n' t ss cs x) (fun t ss h => zt_info h) fs.toList 0 ss cs h fun f hf2 => by
        obtain ⟨i, hi⟩ := List.mem_iff_getElem?.1 hf2
        have := hf i f (by simpa using hi)
        have hil : i < xs.length := by
         have := (List.getElem?_eq_some_iff.1 hi).1
         simp at this; omega
        rw [List.getElem?_eq_getElem hil] at this
        exact ⟨_, this⟩
       intro j u v g1 g2
       refine this j u v g1 ?_
       have hlt := (List.getElem?_eq_some_iff.1 g1).1
       rw [List.drop_zero, List.getElem?_take, if_pos hlt]
       exact g2
     | array m e =>
       simp only [] at h
       obtain ⟨xs, n', rfl, _, hlen, hxl, hf⟩ := DataW.trod_array hu' hx
       split at h
       ·rename_i l hl
        rw [zaa] at h
        split at h
        ·rename_i hc
         cases h
         have e1 := zad hc
         obtain ⟨ei, hei⟩ := zt_info hl
         rw [cellsT_of hP hei] at e1
         refine repT_cells rfl m cs fun i hi => ?_
         have := hf i hi
         rw [List.getElem?_eq_getElem (by omega)] at this
         rw [e1]
         exact zt_cells d n' e l _ _ hl this
        ·cases h
       ·cases h
     | _ => cases h
theorem args_cells {ts : List TypeId} {vs : List Value} {av : List (List Value)} (ho : Opened P ts vs av) : ∀ {ds : List (DataW H)} {ps : List MemPlace}, DataW.TrodAll enc P w base spare held ts vs ds ps →
  ∀ (p : Nat) (t : TypeId) (us : List TypeId) (cs : List Value), ts[p]? = some t → zt P 20 t = some us → av[p]? = some cs → CellsOk enc P w base spare held us cs := by
 induction ho with
 | nil => intro ds ps _ p t us cs h; simp at h
 | agg t ts cs vs av ss hz hs ha ho ih =>
   intro ds ps h p t' us cs' h1 h2 h3
   cases ds with
   | nil => exact h.elim
   | cons d ds =>
     obtain ⟨q1, q2, ⟨fuel, k1⟩, k2, _⟩ := h
     cases p with
     | zero =>
       simp at h1 h3
       subst h1; subst h3
       exact zt_cells hP 20 fuel t us _ _ h2 k1
     | succ p => exact ih k2 p t' us cs' (by simpa using h1) h2 (by simpa using h3)
 | one t ts v vs av s hz hs ha ho ih =>
   intro ds ps h p t' us cs' h1 h2 h3
   cases ds with
   | nil => exact h.elim
   | cons d ds =>
     obtain ⟨q1, q2, ⟨fuel, k1⟩, k2, _⟩ := h
     cases p with
     | zero =>
       simp at h1 h3
       subst h1; subst h3
       have hc : v.cells.toList = [v] := by
        cases v <;> first | rfl | (exfalso; simp [srt] at hs)
       rw [hc] at k1
       exact zt_cells hP 20 fuel t us _ _ h2 k1
     | succ p => exact ih k2 p t' us cs' (by simpa using h1) h2 (by simpa using h3)
end
def strs : List Value → Option (List ByteArray)
 | [] => some []
 | .string s :: l => match strs l with
   | some r => if s.size < 9223372036854775808 then some (s :: r) else none
   | none => none
 | _ => none
def txt (K : Nat → Option Obj) (p : Option Addr) (k : Nat) : Option (List ByteArray) :=
 if k = 0 then some [] else match p with
  | some ⟨b, off, none⟩ => match K b with
    | some (.cells cs _ _) => if off + k ≤ cs.toList.length then strs ((cs.toList.drop off).take k) else none
    | _ => none
  | _ => none
theorem strs_get : ∀ {l : List Value} {L : List ByteArray}, strs l = some L → L.length = l.length ∧ ∀ i (h : i < L.length), l[i]? = some (.string L[i]) ∧ L[i].size < 9223372036854775808
 | [], L, h => by cases h; exact ⟨rfl, fun i h => absurd h (Nat.not_lt_zero _)⟩
 | v :: l, L, h => by
   cases v with
   | string s =>
     unfold strs at h
     split at h
     ·rename_i r hr
      split at h
      ·rename_i hsz
       cases h
       obtain ⟨h1, h2⟩ := strs_get hr
       refine ⟨by simp [h1], fun i hi => ?_⟩
       cases i with
       | zero => exact ⟨rfl, hsz⟩
       | succ i => simpa using h2 i (by simpa using hi)
      ·cases h
     ·cases h
   | _ => cases h
theorem strs_of : ∀ {l : List Value} {L : List ByteArray}, L.length = l.length → (∀ s ∈ L, s.size < 9223372036854775808) → (∀ i (h : i < L.length), l[i]? = some (.string L[i])) → strs l = some L
 | [], [], _, _, _ => rfl
 | [], _ :: _, h, _, _ => by simp at h
 | _ :: _, [], h, _, _ => by simp at h
 | v :: l, s :: L, h, hz, hall => by
   have h0 := hall 0 (by simp)
   simp at h0
   subst h0
   have := strs_of (l := l) (L := L) (by simpa using h) (fun s hs => hz s (List.mem_cons_of_mem _ hs)) fun i hi => by
    have := hall (i + 1) (by simp; omega)
    simp at this
    exact this
   unfold strs
   rw [this]
   simp only
   rw [if_pos (hz s List.mem_cons_self)]
theorem txt_get2 {K : Nat → Option Obj} {p : Option Addr} {k : Nat} {L : List ByteArray} (h : txt K p k = some L) :
  L.length = k ∧ (k = 0 ∨ ∃ b off cs t z, p = some ⟨b, off, none⟩ ∧ K b = some (.cells (List.toArray cs) t z) ∧ ∀ i (h : i < L.length), cs[off + i]? = some (.string L[i])) ∧ ∀ i (h : i < L.length), L[i].size < 9223372036854775808 := by
 unfold txt at h
 split at h
 ·rename_i h0; cases h; exact ⟨h0.symm, .inl h0, fun i h => absurd h (Nat.not_lt_zero _)⟩
 ·split at h
  ·rename_i b off
   split at h
   ·rename_i cs t z hK
    split at h
    ·rename_i hle
     obtain ⟨h1, h2⟩ := strs_get h
     rw [List.length_take, List.length_drop] at h1
     have hk : L.length = k := by omega
     refine ⟨hk, .inr ⟨b, off, cs.toList, t, z, rfl, by rw [Array.toArray_toList]; exact hK, fun i hi => ?_⟩, fun i hi => (h2 i hi).2⟩
     have := (h2 i hi).1
     rw [List.getElem?_take, if_pos (by omega), List.getElem?_drop] at this
     exact this
    ·cases h
   ·cases h
  ·cases h
theorem txt_get {K : Nat → Option Obj} {p : Option Addr} {k : Nat} {L : List ByteArray} (h : txt K p k = some L) :
  L.length = k ∧ (k = 0 ∨ ∃ b off cs t z, p = some ⟨b, off, none⟩ ∧ K b = some (.cells (List.toArray cs) t z) ∧ ∀ i (h : i < L.length), cs[off + i]? = some (.string L[i])) := by
 have := txt_get2 h
 exact ⟨this.1, this.2.1⟩
theorem txt_of {K : Nat → Option Obj} {p : Option Addr} {k : Nat} {L : List ByteArray} (hl : L.length = k) (hz : ∀ s ∈ L, s.size < 9223372036854775808) (h : k = 0 ∨ ∃ b off c t f, p = some ⟨b, off, none⟩ ∧ K b = some (.cells c t f) ∧ ∀ i (h : i < L.length), c.toList[off + i]? = some (.string L[i])) : txt K p k = some L := by
 unfold txt
 rcases h with h0 | ⟨b, off, c, t, f, rfl, h1, h2⟩
 ·rw [if_pos h0]; rw [h0] at hl; rw [List.length_eq_zero_iff.1 hl]
 ·by_cases h0 : k = 0
  ·rw [if_pos h0]; rw [h0] at hl; rw [List.length_eq_zero_iff.1 hl]
  ·rw [if_neg h0]
   simp only [h1]
   have hle : off + k ≤ c.toList.length := by
    have := h2 (k - 1) (by omega)
    have := (List.getElem?_eq_some_iff.1 this).1
    omega
   rw [if_pos hle]
   refine strs_of (by rw [List.length_take, List.length_drop]; omega) hz fun i hi => ?_
   rw [List.getElem?_take, if_pos (by omega), List.getElem?_drop]
   exact h2 i hi
theorem cell_texts {H : Type} {enc : TypeId × Value → H} {P : Program} {w : World} {base : Nat} {held : Bool} {t e : TypeId} (ht : P.underlying t = some (.slice e)) (he : P.underlying e = some .string) (hc : P.cellsOf e = 1)
  {v : Value} (h : CellOk enc P w base (fun _ => true) held t v) : ∃ p k c L, v = .slice p k c ∧ txt (fun r => w.heap[r]?) p k = some L := by
 obtain ⟨n, x, hx⟩ := h
 obtain ⟨a, len, cap, L, e1, e2, e3, e4⟩ := texts_open2 ht he hc hx
 cases e1
 exact ⟨a, len, cap, L, rfl, txt_of e2 e4 e3⟩
end Go.Gz
