/- The symbolic evaluator that contracts stand on: calls that make, ranges, loops. -/
import Derived.Test.YteglommbdpaokaaGreatGxK
import Derived.Laws.RangeString
set_option linter.unusedSimpArgs false
set_option linter.unusedVariables false
namespace Go.Gx
open Go.RowKit
section
variable {C : Cx} {β : Nat → Nat} {hp : List HE}
theorem HOk.more {w0 w w' : World} {b : Nat} {e : HE} (h : HOk w0 β hp w) {β' : Nat → Nat} (ha : ∀ i, i < hp.length → β i = β' i) (hn : β' hp.length = b) (hb : w.heap.size ≤ b) (hB : Below w.heap.size w w') (he : w'.heap[b]? = some e.obj) (hk : e.kind = 2) :
  HOk w0 β' (hp ++ [e]) w' := by
 have h1 : HOk w0 β' hp w' := (h.below hB).agree fun i hi => (ha i hi).symm
 have hx : ∀ i x, (hp ++ [e])[i]? = some x → (i < hp.length ∧ hp[i]? = some x) ∨ (i = hp.length ∧ x = e) := fun i x hx => by
  rcases Nat.lt_or_ge i hp.length with hi | hi
  ·rw [List.getElem?_append_left hi] at hx; exact .inl ⟨hi, hx⟩
  ·rw [List.getElem?_append_right hi] at hx
   have hi' : i - hp.length < 1 := by
    rcases Nat.lt_or_ge (i - hp.length) 1 with h2 | h2
    ·exact h2
    ·rw [List.getElem?_eq_none (by simpa using h2)] at hx; cases hx
   have h0 : i - hp.length = 0 := by omega
   rw [h0] at hx
   exact .inr ⟨by omega, by simpa using hx.symm⟩
 refine ⟨h1.os, h1.tape, h1.output, h1.size, fun i x hxx => ?_, fun i x hxx hk' => ?_, fun r hr hno => h1.old r hr fun i x hxx hk' => ?_⟩
 ·rcases hx i x hxx with ⟨_, h2⟩ | ⟨rfl, rfl⟩
  ·exact h1.obj i x h2
  ·rw [hn]; exact he
 ·rcases hx i x hxx with ⟨_, h2⟩ | ⟨rfl, rfl⟩
  ·exact h1.fresh i x h2 hk'
  ·rw [hn]; exact Nat.le_trans h.size hb
 ·exact hno i x (by rw [List.getElem?_append_left (List.getElem?_eq_some_iff.1 hxx).1]; exact hxx) hk'
def Makes (P : Program) (f : FuncId) (args : List Value) (w : World) (e : Nat → HE) (v : Nat → Value) : Prop :=
 Calls P f args.toArray w fun x w' => ∃ b, w.heap.size ≤ b ∧ x = .returned (v b) ∧ Below w.heap.size w w' ∧ w'.heap[b]? = some (e b).obj
theorem call_makes (hβ : Inj β) {f : FuncId} {args : List Value} {K : Value → List HE → (Nat → Nat) → Prop} {e : Nat → HE} {v : Nat → Value} (hk2 : ∀ b, (e b).kind = 2)
  (h : ∀ w, HOk C.w0 β hp w → Makes C.P f args w e v)
  (hk : ∀ β', Inj β' → (∀ i, i < hp.length → β i = β' i) → K (v (β' hp.length)) (hp ++ [e (β' hp.length)]) β') : CallX C β hp f args K := by
 intro w hw
 refine (h w hw).mono fun x w' ⟨b, hb, hx, hB, he⟩ => ?_
 have hlt : ∀ i, i < hp.length → β i ≠ b := by
  intro i hi
  have := hw.obj i _ (List.getElem?_eq_getElem hi)
  have := (Array.getElem?_eq_some_iff.1 this).1
  omega
 obtain ⟨β1, h1, h2, h3⟩ := extend hβ hp.length b hlt
 subst hx
 refine ⟨hp ++ [e b], β1, hw.more (fun i hi => (h2 i hi).symm) h3 hb hB he (hk2 b), h1, h2, fun β' h4 h5 => ?_⟩
 have hn : β' hp.length = b := by rw [h5 _ (by simp), h3]
 have := hk β' h4 fun i hi => (h2.trans h5 (by simp) i hi).symm
 rw [hn] at this
 exact this
end
section
variable {P : Program} {w : World} {t kt et : TypeId} {k : IntKind} {b : Nat} {es : Array MapEntry} {clock : Nat} {a : Int} {x : Value}
theorem ex_key (e : Bool) (hk : P.underlying kt = some (.int k)) (n : Nat) (hn : n = 10000) : (Instr.checkKey e n kt (.int k a)).run P w = .ok () w := by
 obtain rfl : n = 9999 + 1 := hn
 rw [Instr.checkKey]
 simp [run_underlying hk]
theorem ex_makeMap {o : Oper} {fr : List Value} (ho : o.op = .makeMap t none) : (execOp (evx fr) o).run P w = .ok (.value (.map (some w.heap.size))) { w with heap := w.heap.push (.map #[] 0) } := by
 simp [execOp, ho, Instr.makeMap]
theorem ex_insert {o : Oper} {fr : List Value} {m q y : Operand} (ho : o.op = .insert t m q y) (ht : P.underlying t = some (.map kt et)) (hk : P.underlying kt = some (.int k)) (hm : evx fr m = .map (some b)) (hq : evx fr q = .int k a)
  (hb : w.heap[b]? = some (.map es clock)) (hn : Instr.findNow (.int k) (.int k a) es.toList 0 = some none) {x : Obj} (hx : .map (es.push { key := .int k a, val := evx fr y, born := clock }) (clock + 1) = x) :
  (execOp (evx fr) o).run P w = .ok .skip (setB w b x) := by
 subst hx
 simp [execOp, ho, hm, hq, Instr.mapUpdate, run_underlying ht, run_underlying hk, ex_key _ hk _ rfl, Instr.findKey, hn, getObj, setObj, Sem.run, hb, setB, Result.andThen]
def lookV (z : Value) : Option (Nat × Value) → Value
 | some (_, v) => .tuple #[v, .bool true]
 | none => .tuple #[z, .bool false]
theorem lookV_some (z : Value) (p : Nat × Value) : lookV z (some p) = .tuple #[p.2, .bool true] := rfl
theorem lookV_none (z : Value) : lookV z none = .tuple #[z, .bool false] := rfl
theorem ex_lookup {o : Oper} {fr : List Value} {m q : Operand} {r : Option (Nat × Value)} {z : Value} (ho : o.op = .lookup t m q true) (ht : P.underlying t = some (.map kt et)) (hk : P.underlying kt = some (.int k)) (hm : evx fr m = .map (some b)) (hq : evx fr q = .int k a)
  (hb : w.heap[b]? = some (.map es clock)) (hn : Instr.findNow (.int k) (.int k a) es.toList 0 = some r) (hz : (zeroValue et).run P w = .ok z w) :
  (execOp (evx fr) o).run P w = .ok (.value (lookV z r)) w := by
 cases r with
 | none => simp [execOp, ho, hm, hq, Instr.lookup, run_underlying ht, run_underlying hk, ex_key _ hk _ rfl, Instr.findKey, hn, getObj, Sem.run, hb, hz, Result.andThen, lookV]
 | some r => obtain ⟨i, v⟩ := r; simp [execOp, ho, hm, hq, Instr.lookup, run_underlying ht, run_underlying hk, ex_key _ hk _ rfl, Instr.findKey, hn, getObj, Sem.run, hb, Result.andThen, lookV]
theorem ex_range {o : Oper} {fr : List Value} {s : ByteArray} {q : Operand} (ho : o.op = .range t q) (ht : P.underlying t = some .string) (hq : evx fr q = .string s) :
  (execOp (evx fr) o).run P w = .ok (.value (.pointer (some ⟨w.heap.size, 0, none⟩))) { w with heap := w.heap.push (.stringIter s 0) } := by
 simp [execOp, ho, hq, Instr.range, run_underlying ht]
theorem ex_next {o : Oper} {fr : List Value} {s : ByteArray} {pos : Nat} {q : Operand} (ho : o.op = .next q true) (hq : evx fr q = .pointer (some ⟨b, 0, none⟩)) (hb : w.heap[b]? = some (.stringIter s pos)) (hp : pos < s.size) :
  (execOp (evx fr) o).run P w = .ok (.value (.tuple #[.bool true, .int .i64 pos, .int .i32 (Utf8.decode s pos).1])) (setB w b (.stringIter s (pos + (Utf8.decode s pos).2))) := by
 simp [execOp, ho, hq, Instr.next, getObj, setObj, Sem.run, hb, hp, setB, Result.andThen, goInt]
theorem ex_next_end {o : Oper} {fr : List Value} {s : ByteArray} {pos : Nat} {q : Operand} (ho : o.op = .next q true) (hq : evx fr q = .pointer (some ⟨b, 0, none⟩)) (hb : w.heap[b]? = some (.stringIter s pos)) (hp : ¬ pos < s.size) :
  (execOp (evx fr) o).run P w = .ok (.value (.tuple #[.bool false])) w := by
 simp [execOp, ho, hq, Instr.next, getObj, Sem.run, hb, hp, Result.andThen]
theorem decode_low (s : ByteArray) (pos : Nat) (h : pos < s.size) (hl : (Utf8.decode s pos).1 < 128) : (s[pos]'h).toNat < 128 := by
 rcases Nat.lt_or_ge (s[pos]'h).toNat 128 with h1 | h1
 ·exact h1
 ·exfalso
  have e : s.get! (pos + 0) = s[pos]'h := by
   show s.get! pos = _
   simp [ByteArray.get!, getElem!_pos, h]
   rfl
  simp only [Utf8.decode, e] at hl
  rw [if_neg (by omega)] at hl
  revert hl
  repeat' split
  all_goals simp only [Utf8.runeError, Bool.and_eq_true, decide_eq_true_eq] at *
  all_goals omega
end
section
variable {C : Cx} {β : Nat → Nat} {hp : List HE} {fr : List Value} {o : Oper} {K : Value → List HE → (Nat → Nat) → Prop}
theorem opX_range (hβ : Inj β) {t : TypeId} {q : Operand} (ho : o.op = .range t q) (ht : C.P.underlying t = some .string) (s : ByteArray) (hq : evx fr q = .string s)
  (hk : ∀ β', Inj β' → (∀ i, i < hp.length → β i = β' i) → K (.pointer (some ⟨β' hp.length, 0, none⟩)) (hp ++ [.o 2 (.stringIter s 0)]) β') : OpX C β hp fr o K :=
 opX_new hβ (fun b => .pointer (some ⟨b, 0, none⟩)) (.o 2 (.stringIter s 0)) rfl (fun _ _ => ex_range ho ht hq) hk
theorem opX_next (hβ : Inj β) {q : Operand} (ho : o.op = .next q true) (i : Nat) (hq : evx fr q = .pointer (some ⟨β i, 0, none⟩)) {s : ByteArray} {pos : Nat} (hi : hp[i]? = some (.o 2 (.stringIter s pos))) (c n : Nat) (hd : Utf8.decode s pos = (c, n)) (hs : pos < s.size)
  (hk : ∀ β', Inj β' → (∀ i, i < hp.length → β i = β' i) → K (.tuple #[.bool true, .int .i64 pos, .int .i32 c]) (hp.set i (.o 2 (.stringIter s (pos + n)))) β') : OpX C β hp fr o K :=
 opX_set hβ _ (.o 2 (.stringIter s (pos + n))) hi (.inr rfl) rfl (fun w hw => .inl (by
  have := ex_next (P := C.P) (w := w) ho hq (hw.obj i _ hi) hs
  rw [hd] at this
  exact this)) hk
theorem opX_nextEnd (hβ : Inj β) {q : Operand} (ho : o.op = .next q true) (i : Nat) (hq : evx fr q = .pointer (some ⟨β i, 0, none⟩)) {s : ByteArray} {pos : Nat} {k : Nat} (hi : hp[i]? = some (.o k (.stringIter s pos))) (hs : ¬ pos < s.size)
  (hk : ∀ β', Inj β' → (∀ i, i < hp.length → β i = β' i) → K (.tuple #[.bool false]) hp β') : OpX C β hp fr o K :=
 opX_val hβ _ (fun w hw => ex_next_end ho hq (hw.obj i _ hi) hs) hk
theorem opX_lookup (hβ : Inj β) {t kt et : TypeId} {k : IntKind} {m q : Operand} (ho : o.op = .lookup t m q true) (ht : C.P.underlying t = some (.map kt et)) (hkt : C.P.underlying kt = some (.int k)) (i : Nat) (hm : evx fr m = .map (some (β i))) (a : Int) (hq : evx fr q = .int k a)
  {es : Array MapEntry} {clock j : Nat} (hi : hp[i]? = some (.o j (.map es clock))) (r : Option (Nat × Value)) (hn : Instr.findNow (.int k) (.int k a) es.toList 0 = some r) {z : Value} (hz : ∀ w, (zeroValue et).run C.P w = .ok z w)
  (hk : ∀ β', Inj β' → (∀ i, i < hp.length → β i = β' i) → K (lookV z r) hp β') : OpX C β hp fr o K :=
 opX_val hβ _ (fun w hw => ex_lookup ho ht hkt hm hq (hw.obj i _ hi) hn (hz w)) hk
end
end Go.Gx
namespace Go.Gx
open Go.RowKit
def nms (β : Nat → Nat) : Nat → Nat → List Nat
 | _, 0 => []
 | i, n + 1 => β i :: nms β (i + 1) n
theorem nms_0 (β : Nat → Nat) (i : Nat) : nms β i 0 = [] := rfl
theorem nms_s (β : Nat → Nat) (i n : Nat) : nms β i (n + 1) = β i :: nms β (i + 1) n := rfl
section
variable {C : Cx} {β : Nat → Nat} {hp : List HE}
theorem HOk.drop {w0 w : World} (h : HOk w0 β hp w) (ι : Nat → Nat) (hp' : List HE) (hs : ∀ i e, hp'[i]? = some e → hp[ι i]? = some e) (hm : ∀ i e, hp[i]? = some e → e.kind = 1 → ∃ j, ι j = i ∧ hp'[j]? = some e) : HOk w0 (fun i => β (ι i)) hp' w := by
 refine ⟨h.os, h.tape, h.output, h.size, fun i e he => h.obj _ e (hs i e he), fun i e he hk => h.fresh _ e (hs i e he) hk, fun r hr hno => h.old r hr fun i e he hk => ?_⟩
 obtain ⟨j, rfl, hj⟩ := hm i e he hk
 exact hno j e hj hk
end
end Go.Gx
