/- The evaluator that the kernel runs: a function's arguments as terms. -/
import Derived.Test.YteglommbdpaokaaGreatGzRow
import Derived.ChangeArms
namespace Go.Gz
open Go Go.Gx Go.RowKit Go.ChangeShapes Go.WideShapes Go.ChangeAt
noncomputable def repN (l : List Nat) : Nat → List Nat
 | 0 => []
 | k + 1 => l ++ repN l k
noncomputable def zlf (P : Program) (rec : TypeId → Option (List Nat)) : Nat → List Field → Option (List Nat)
 | _, [] => some []
 | off, f :: r => match rec f.type with
   | some l => cnd (Nat.beq f.offset off && Nat.beq l.length (cellsT P f.type)) (match zlf P rec (off + l.length) r with
     | some m => some (l ++ m)
     | none => none) none
   | none => none
noncomputable def zl (P : Program) : Nat → TypeId → Option (List Nat) :=
 @Nat.rec (fun _ => TypeId → Option (List Nat)) (fun _ => none) (fun _ rec t => match underT P t with
  | some d => match d with
    | .int k => some [kCode k]
    | .bool => some [8]
    | .string => some [9]
    | .slice _ => some [11]
    | .struct fs => match zlf P rec 0 fs.toList with
      | some l => cnd (Nat.beq l.length (cellsT P t)) (some l) none
      | none => none
    | .array n e => match rec e with
      | some l => cnd (Nat.beq l.length (cellsT P e) && Nat.beq (n * l.length) (cellsT P t)) (some (repN l n)) none
      | none => none
    | _ => none
  | none => none)
def Sorted : List Nat → List Value → Prop
 | [], [] => True
 | s :: ss, v :: vs => srt s v = true ∧ Sorted ss vs
 | _, _ => False
theorem Sorted.len : ∀ {ss : List Nat} {vs : List Value}, Sorted ss vs → ss.length = vs.length
 | [], [], _ => rfl
 | s :: ss, v :: vs, h => by simp [Sorted.len h.2]
theorem Sorted.append : ∀ {ss ss' : List Nat} {vs vs' : List Value}, Sorted ss vs → Sorted ss' vs' → Sorted (ss ++ ss') (vs ++ vs')
 | [], _, [], _, _, h => h
 | _ :: _, _, _ :: _, _, h, h' => ⟨h.1, Sorted.append h.2 h'⟩
theorem Sorted.get : ∀ {ss : List Nat} {vs : List Value}, Sorted ss vs → ∀ {j s : Nat} {v : Value}, ss[j]? = some s → vs[j]? = some v → srt s v = true
 | [], [], _, j, s, v, h, _ => by simp at h
 | s :: ss, v :: vs, h, 0, s', v', h1, h2 => by simp at h1 h2; subst h1 h2; exact h.1
 | s :: ss, v :: vs, h, j + 1, s', v', h1, h2 => Sorted.get h.2 (by simpa using h1) (by simpa using h2)
theorem wfK_wf {k : IntKind} {n : Int} (h : (Lit.int k n).wf = true) : wfK k n = true := by
 rw [wfK_iff]
 simp only [Lit.wf, Bool.and_eq_true, decide_eq_true_eq] at h
 cases k <;> simp [IntKind.min, IntKind.max, IntKind.bits, IntKind.signed] at h ⊢ <;> omega
section
variable {H : Type} {enc : TypeId × Value → H} {P : Program} (hP : Small P) {w : World} {base : Nat} {spare : Nat → Bool} {held : Bool}
theorem sorted_repN {ss : List Nat} {c : Nat} (hc : ss.length = c) : ∀ (n : Nat) (cs : List Value), cs.length = n * c → (∀ i, i < n → Sorted ss ((cs.drop (i * c)).take c)) → Sorted (repN ss n) cs
 | 0, cs, h, _ => by
   have : cs = [] := List.length_eq_zero_iff.1 (by simpa using h)
   subst this; exact trivial
 | n + 1, cs, h, hall => by
   have h0 := hall 0 (by omega)
   simp only [Nat.zero_mul, List.drop_zero] at h0
   have hl : cs = cs.take c ++ cs.drop c := (List.take_append_drop c cs).symm
   rw [hl]
   refine h0.append (sorted_repN hc n (cs.drop c) (by rw [List.length_drop, h]; rw [Nat.succ_mul]; omega) fun i hi => ?_)
   have := hall (i + 1) (by omega)
   rw [List.drop_drop]
   rw [Nat.succ_mul] at this
   rw [Nat.add_comm c]; exact this
include hP
theorem cellsT_of {t : TypeId} {i : TypeInfo} (h : infoT P t = some i) : cellsT P t = P.cellsOf t := by
 unfold cellsT
 rw [h]
 simp [Program.cellsOf, infoT_info hP h]
omit hP in
theorem zl_info {d : Nat} {t : TypeId} {ss : List Nat} (h : zl P d t = some ss) : ∃ i, infoT P t = some i := by
 cases d with
 | zero => cases h
 | succ d =>
   have h : (match underT P t with
    | some d => _
    | none => none) = some ss := h
   cases hu : underT P t with
   | none => rw [hu] at h; cases h
   | some u =>
     unfold underT at hu
     cases hi : infoT P t with
     | none => rw [hi] at hu; cases hu
     | some i => exact ⟨i, rfl⟩
theorem zlf_sorted {rec : TypeId → Option (List Nat)} {n : Nat} (ih : ∀ t ss cs x, rec t = some ss → DataW.trod enc P w base spare held n t cs = some x → Sorted ss cs) (hinfo : ∀ t ss, rec t = some ss → ∃ i, infoT P t = some i) :
  ∀ (fs : List Field) (off : Nat) (ss : List Nat) (cs : List Value), zlf P rec off fs = some ss → (∀ f ∈ fs, ∃ x, DataW.trod enc P w base spare held n f.type ((cs.drop f.offset).take (P.cellsOf f.type)) = some x) →
    Sorted ss ((cs.drop off).take ss.length)
 | [], off, ss, cs, h, _ => by cases h; simp; exact trivial
 | f :: r, off, ss, cs, h, hall => by
   unfold zlf at h
   split at h
   ·rename_i l hl
    rw [zaa] at h
    split at h
    ·rename_i hc
     simp only [Bool.and_eq_true] at hc
     have e1 := zad hc.1
     have e2 := zad hc.2
     obtain ⟨i, hi⟩ := hinfo _ _ hl
     rw [cellsT_of hP hi] at e2
     split at h
     ·rename_i m hm
      cases h
      obtain ⟨x, hx⟩ := hall f List.mem_cons_self
      have h1 := ih _ _ _ _ hl hx
      rw [e1, ← e2] at h1
      have h2 := zlf_sorted ih hinfo r (off + l.length) m cs hm fun g hg => hall g (List.mem_cons_of_mem _ hg)
      have := h1.append h2
      rw [List.length_append]
      have e3 : (cs.drop off).take (l.length + m.length) = (cs.drop off).take l.length ++ (cs.drop (off + l.length)).take m.length := by
       rw [List.take_add, List.drop_drop]
      rw [e3]; exact this
     ·cases h
    ·cases h
   ·cases h
theorem zl_sorted : ∀ (d : Nat) (n : Nat) (t : TypeId) (ss : List Nat) (cs : List Value) (x : DataW H × List MemPlace), zl P d t = some ss → DataW.trod enc P w base spare held n t cs = some x → Sorted ss cs
 | 0, n, t, ss, cs, x, h, _ => by cases h
 | d + 1, n, t, ss, cs, x, h, hx => by
   have h : (match underT P t with
    | some dd => (match dd with
      | .int k => some [kCode k]
      | .bool => some [8]
      | .string => some [9]
      | .slice _ => some [11]
      | .struct fs => match zlf P (zl P d) 0 fs.toList with
        | some l => cnd (Nat.beq l.length (cellsT P t)) (some l) none
        | none => none
      | .array n e => match zl P d e with
        | some l => cnd (Nat.beq l.length (cellsT P e) && Nat.beq (n * l.length) (cellsT P t)) (some (repN l n)) none
        | none => none
      | _ => none : Option (List Nat))
    | none => none) = some ss := h
   cases hu : underT P t with
   | none => rw [hu] at h; cases h
   | some dd =>
     rw [hu] at h
     have hu' := underT_under hP hu
     have hti : ∃ i, infoT P t = some i := by
      unfold underT at hu
      cases hi : infoT P t with
      | none => rw [hi] at hu; cases hu
      | some i => exact ⟨i, rfl⟩
     obtain ⟨ti, hti⟩ := hti
     cases dd with
     | int k =>
       cases h
       obtain ⟨m, rfl, _, hw⟩ := DataW.trod_int hu' hx
       exact ⟨zav (wfK_wf hw), trivial⟩
     | bool =>
       cases h
       obtain ⟨b, rfl, _⟩ := DataW.trod_bool hu' hx
       exact ⟨rfl, trivial⟩
     | string =>
       cases h
       obtain ⟨b, rfl, _⟩ := DataW.trod_string hu' hx
       exact ⟨rfl, trivial⟩
     | slice e =>
       cases h
       rcases DataW.trod_slice hu' hx with ⟨rfl, _⟩ | ⟨a, len, cap, el, rest, n', _, rfl, _, _, hlc, hcm, _⟩
       ·exact ⟨rfl, trivial⟩
       ·refine ⟨?_, trivial⟩
        show Nat.blt len 9223372036854775808 = true
        unfold maxLen at hcm
        exact Nat.ble_eq.mpr (by omega)
     | struct fs =>
       simp only [] at h
       obtain ⟨xs, n', rfl, _, hlen, hxl, hf⟩ := DataW.trod_struct hu' hx
       split at h
       ·rename_i l hl
        rw [zaa] at h
        split at h
        ·rename_i hc
         cases h
         have e1 := zad hc
         rw [cellsT_of hP hti] at e1
         have := zlf_sorted hP (w := w) (base := base) (spare := spare) (held := held) (enc := enc) (n := n') (rec := zl P d) (fun t ss cs x => zl_sorted d n' t ss cs x) (fun t ss h => zl_info h) fs.toList 0 ss cs hl fun f hf2 => by
          obtain ⟨i, hi⟩ := List.mem_iff_getElem?.1 hf2
          have := hf i f (by simpa using hi)
          have hil : i < xs.length := by
           have := (List.getElem?_eq_some_iff.1 hi).1
           simp at this; omega
          rw [List.getElem?_eq_getElem hil] at this
          exact ⟨_, this⟩
         simp only [List.drop_zero] at this
         rw [List.take_of_length_le (by omega)] at this
         exact this
        ·cases h
       ·cases h
     | array m e =>
       simp only [] at h
       obtain ⟨xs, n', rfl, _, hlen, hxl, hf⟩ := DataW.trod_array hu' hx
       split at h
       ·rename_i l hl
        rw [zaa] at h
        split at h
        ·rename_i hc
         cases h
         simp only [Bool.and_eq_true] at hc
         have e1 := zad hc.1
         have e2 := zad hc.2
         obtain ⟨ei, hei⟩ := zl_info hl
         rw [cellsT_of hP hei] at e1
         rw [cellsT_of hP hti] at e2
         refine sorted_repN rfl m cs (by omega) fun i hi => ?_
         have := hf i hi
         rw [List.getElem?_eq_getElem (by omega)] at this
         rw [e1]
         exact zl_sorted d n' e l _ _ hl this
        ·cases h
       ·cases h
     | _ => cases h
end
noncomputable def cellV (p j s : Nat) : Value := sy (opc (64 + 128 * p + j) s) []
noncomputable def absCells (p : Nat) : Nat → List Nat → List Value
 | _, [] => []
 | j, s :: ss => cellV p j s :: absCells p (j + 1) ss
noncomputable def aggT (P : Program) (t : TypeId) : Bool :=
 match underT P t with
 | some d => match d with
   | .struct _ => true
   | .array _ _ => true
   | _ => false
 | none => false
noncomputable def absArgs (P : Program) : Nat → List TypeId → Option (List Value)
 | _, [] => some []
 | p, t :: ts => match zl P 20 t with
   | some ss => cnd (Nat.ble ss.length 128) (match absArgs P (p + 1) ts with
     | some l => cnd (aggT P t) (some (.agg ⟨absCells p 0 ss⟩ :: l)) (match ss with
       | [s] => some (cellV p 0 s :: l)
       | _ => none)
     | none => none) none
   | none => none
inductive Opened (P : Program) : List TypeId → List Value → List (List Value) → Prop
 | nil : Opened P [] [] []
 | agg (t : TypeId) (ts : List TypeId) (cs : Array Value) (vs : List Value) (av : List (List Value)) (ss : List Nat) (hz : zl P 20 t = some ss) (hs : Sorted ss cs.toList) (ha : aggT P t = true) (h : Opened P ts vs av) : Opened P (t :: ts) (.agg cs :: vs) (cs.toList :: av)
 | one (t : TypeId) (ts : List TypeId) (v : Value) (vs : List Value) (av : List (List Value)) (s : Nat) (hz : zl P 20 t = some [s]) (hs : srt s v = true) (ha : aggT P t = false) (h : Opened P ts vs av) : Opened P (t :: ts) (v :: vs) ([v] :: av)
def ArgI (m : Mu) (av : List (List Value)) : Prop := ∀ (p j s : Nat) (cs : List Value) (v : Value), j < 128 → s < 16 → av[p]? = some cs → cs[j]? = some v → m.I (opc (64 + 128 * p + j) s) [] = v
theorem den_cell {m : Mu} {c s : Nat} {v : Value} (hs : s < 16) (hc : 64 ≤ c) (hI : m.I (opc c s) [] = v) (hv : srt s v = true) : den m (sy (opc c s) []) = some v := by
 have e1 : opc c s / 16 = c := by show (16 * c + s) / 16 = c; omega
 have e2 : opc c s % 16 = s := by show (16 * c + s) % 16 = s; omega
 have e3 : ¬ opc c s = 1016 := by show ¬ (16 * c + s) = 1016; omega
 unfold sy
 rw [den, denA, denL]
 simp only [e3, if_false, itp, e1, e2, if_neg (show ¬ c < 64 by omega), hI, fixS, if_pos (zaq hv)]
theorem rv_cell {e : Env} {n c s : Nat} {v : Value} (hs : s < 16) (hc : 64 ≤ c) (hI : e.m.I (opc c s) [] = v) (hv : srt s v = true) : RV e n (sy (opc c s) []) v :=
 .sym _ _ _ _ _ (den_cell hs hc hI hv) (by rw [show opc c s % 16 = s by show (16 * c + s) % 16 = s; omega]; exact hv)
theorem srt_lt {s : Nat} {v : Value} (h : srt s v = true) : s < 16 := by
 rcases Nat.lt_or_ge s 16 with h1 | h1
 ·exact h1
 ·exfalso
  unfold srt at h
  split at h
  all_goals first
   | cases h
   | (have := zad h; omega)
   | (rw [zaa] at h; split at h <;> rename_i hk <;> first | (have := zad hk; omega) | (have := zad h; omega) | (have := zad hk; have := kCode_lt ‹IntKind›; omega))
theorem absCells_rel {e : Env} {n p : Nat} {cs : List Value} (hI : ∀ j s v, j < 128 → s < 16 → cs[j]? = some v → e.m.I (opc (64 + 128 * p + j) s) [] = v) : ∀ (ss : List Nat) (j : Nat), Sorted ss (cs.drop j) → j + ss.length ≤ 128 → RL e n (absCells p j ss) (cs.drop j)
 | [], j, h, _ => by
   cases hd : cs.drop j with
   | nil => exact .nil
   | cons a l => rw [hd] at h; exact h.elim
 | s :: ss, j, h, hl => by
   cases hd : cs.drop j with
   | nil => rw [hd] at h; exact h.elim
   | cons v l =>
     rw [hd] at h
     simp only [List.length_cons] at hl
     have hg : cs[j]? = some v := by
      have := congrArg (·[0]?) hd
      simpa using this
     have h2 : cs.drop (j + 1) = l := by
      rw [← List.tail_drop, hd]; rfl
     refine .cons _ _ _ _ (rv_cell (srt_lt h.1) (by omega) (hI j s v (by omega) (srt_lt h.1) hg) h.1) ?_
     rw [← h2]
     exact absCells_rel hI ss (j + 1) (by rw [h2]; exact h.2) (by omega)
theorem absArgs_rel {P : Program} {e : Env} {n : Nat} : ∀ {ts : List TypeId} {vs : List Value} {av : List (List Value)} (p : Nat) (l : List Value), Opened P ts vs av → absArgs P p ts = some l →
  (∀ q j s cs v, j < 128 → s < 16 → av[q]? = some cs → cs[j]? = some v → e.m.I (opc (64 + 128 * (p + q) + j) s) [] = v) → RL e n l vs
 | [], _, _, p, l, .nil, h, _ => by cases h; exact .nil
 | _, _, _, p, l, .agg t ts cs vs av ss hz hs ha ho, h, hI => by
   unfold absArgs at h
   rw [hz] at h
   simp only [zaa, ha, if_true] at h
   split at h
   ·rename_i hl
    split at h
    ·rename_i l' hl'
     cases h
     have hl := zaw hl
     have hc := absCells_rel (e := e) (n := n) (p := p) (cs := cs.toList) (fun j s v h1 h2 h3 => hI 0 j s cs.toList v h1 h2 rfl h3) ss 0 (by simpa using hs) (by omega)
     refine .cons _ _ _ _ (.agg _ _ (by simpa using hc)) (absArgs_rel (p + 1) l' ho hl' fun q j s cs' v h1 h2 h3 h4 => ?_)
     have := hI (q + 1) j s cs' v h1 h2 (by simpa using h3) h4
     rw [show p + 1 + q = p + (q + 1) by omega]; exact this
    ·cases h
   ·cases h
 | _, _, _, p, l, .one t ts v vs av s hz hs ha ho, h, hI => by
   unfold absArgs at h
   rw [hz] at h
   simp only [zaa, ha, Bool.false_eq_true, if_false] at h
   split at h
   ·split at h
    ·rename_i l' hl'
     cases h
     refine .cons _ _ _ _ (rv_cell (srt_lt hs) (by omega) (hI 0 0 s [v] v (by omega) (srt_lt hs) rfl rfl) hs) (absArgs_rel (p + 1) l' ho hl' fun q j s cs' v h1 h2 h3 h4 => ?_)
     have := hI (q + 1) j s cs' v h1 h2 (by simpa using h3) h4
     rw [show p + 1 + q = p + (q + 1) by omega]; exact this
    ·cases h
   ·cases h
section
variable {H : Type} {enc : TypeId × Value → H} {P : Program} (hP : Small P) {w : World} {base b0 : Nat} {spare : Nat → Bool} {held : Bool}
include hP
theorem opened_of : ∀ (ts : List TypeId) (vs : List Value) (ds : List (DataW H)) (ps : List MemPlace), (∀ t ∈ ts, (zl P 20 t).isSome = true) → DataW.TrodAll enc P w base spare held ts vs ds ps → (∀ (j : Nat) t v, ts[j]? = some t → vs[j]? = some v → Value.okWide P w .any b0 t v) → ∃ av, Opened P ts vs av
 | [], [], [], _, _, _, _ => ⟨[], .nil⟩
 | t :: ts, v :: vs, d :: ds, ps, hz, h, hok => by
   obtain ⟨p, q, ⟨fuel, h1⟩, h2, _⟩ := h
   obtain ⟨av, hav⟩ := opened_of ts vs ds q (fun t h => hz t (List.mem_cons_of_mem _ h)) h2 fun j t v h1 h2 => hok (j + 1) t v (by simpa using h1) (by simpa using h2)
   obtain ⟨ss, hss⟩ := Option.isSome_iff_exists.1 (hz t List.mem_cons_self)
   have hs := zl_sorted hP 20 fuel t ss _ _ hss h1
   have hv := hok 0 t v rfl rfl
   have hu : ∃ dd, underT P t = some dd := by
    have h : (match underT P t with
     | some d => _
     | none => none) = some ss := hss
    cases hu : underT P t with
    | none => rw [hu] at h; cases h
    | some dd => exact ⟨dd, rfl⟩
   obtain ⟨dd, hu⟩ := hu
   have hu' := underT_under hP hu
   have hone : aggT P t = false → (∀ cs, v ≠ .agg cs) → ∃ av, Opened P (t :: ts) (v :: vs) av := by
    intro ha hn
    have hc : v.cells.toList = [v] := by cases v <;> first | rfl | exact absurd rfl (hn _)
    rw [hc] at hs
    match ss, hs with
    | [s], hs => exact ⟨_, .one t ts v vs av s hss hs.1 ha hav⟩
   cases dd with
   | struct fs =>
     have hv2 := hv
     simp only [Value.okWide, hu'] at hv2
     obtain ⟨cs, rfl, _⟩ := hv2
     exact ⟨_, .agg t ts cs vs av ss hss hs (by simp [aggT, hu]) hav⟩
   | array n e =>
     have hv2 := hv
     simp only [Value.okWide, hu'] at hv2
     obtain ⟨cs, rfl, _⟩ := hv2
     exact ⟨_, .agg t ts cs vs av ss hss hs (by simp [aggT, hu]) hav⟩
   | int k =>
     obtain ⟨n, rfl⟩ := okWide_int hu' hv
     exact hone (by simp [aggT, hu]) (by simp)
   | bool =>
     obtain ⟨n, rfl⟩ := okWide_bool hu' hv
     exact hone (by simp [aggT, hu]) (by simp)
   | string =>
     obtain ⟨n, rfl⟩ := okWide_string hu' hv
     exact hone (by simp [aggT, hu]) (by simp)
   | slice e =>
     obtain ⟨a, l, c, rfl⟩ := okWide_slice hu' hv
     exact hone (by simp [aggT, hu]) (by simp)
   | _ =>
     exfalso
     have h : (match underT P t with
      | some d => _
      | none => none) = some ss := hss
     rw [hu] at h
     cases h
 | [], _ :: _, _, _, _, h, _ => h.elim
 | [], [], _ :: _, _, _, h, _ => h.elim
 | _ :: _, [], _, _, _, h, _ => h.elim
 | _ :: _, _ :: _, [], _, _, h, _ => h.elim
end
def muI (av : List (List Value)) (U : Nat → List Value → Value) (op : Nat) (l : List Value) : Value :=
 if op / 16 < 4096 then ((av[(op / 16 - 64) / 128]?).bind fun cs => cs[(op / 16 - 64) % 128]?).getD undef else U op l
theorem muI_arg (av : List (List Value)) (U : Nat → List Value → Value) (K : Nat → Option Obj) (hl : av.length ≤ 31) : ArgI ⟨muI av U, K⟩ av := by
 intro p j s cs v hj hs hp hv
 have hpl := (List.getElem?_eq_some_iff.1 hp).1
 have e1 : opc (64 + 128 * p + j) s / 16 = 64 + 128 * p + j := by show (16 * (64 + 128 * p + j) + s) / 16 = _; omega
 show muI av U (opc (64 + 128 * p + j) s) [] = v
 unfold muI
 rw [e1, if_pos (by omega)]
 have e2 : (64 + 128 * p + j - 64) / 128 = p := by omega
 have e3 : (64 + 128 * p + j - 64) % 128 = j := by omega
 rw [e2, e3, hp]
 simp [hv]
theorem Opened.len {P : Program} : ∀ {ts : List TypeId} {vs : List Value} {av : List (List Value)}, Opened P ts vs av → av.length = ts.length
 | _, _, _, .nil => rfl
 | _, _, _, .agg _ _ _ _ _ _ _ _ _ h => by simp [h.len]
 | _, _, _, .one _ _ _ _ _ _ _ _ _ h => by simp [h.len]
end Go.Gz
