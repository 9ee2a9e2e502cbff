/- The symbolic evaluator that contracts stand on: calls that make, ranges, loops. -/
import Derived.Test.YtekdgkhelhcmbaaGreatGxK
import Derived.ArgAppend
import Derived.Laws.RangeString
set_option linter.unusedSimpArgs false
set_option linter.unusedVariables false
/- Calls that make blocks; maps with numbers for keys; ranges over texts. -/
namespace Go.Gx
open Go.RowKit

section
variable {C : Cx} {β : Nat → Nat} {hp : List HE}

/-- Blocks that were made by somebody else. -/
theorem HOk.more {w0 w w' : World} {b : Nat} {e : HE} (h : HOk w0 β hp w) {β' : Nat → Nat} (ha : ∀ i, i < hp.length → β i = β' i) (hn : β' hp.length = b) (hb : w.heap.size ≤ b) (hB : Below w.heap.size w w') (he : w'.heap[b]? = some e.obj) (hk : e.kind = 2) :
    HOk w0 β' (hp ++ [e]) w' := by
  have h1 : HOk w0 β' hp w' := (h.below hB).agree fun i hi => (ha i hi).symm
  have hx : ∀ i x, (hp ++ [e])[i]? = some x → (i < hp.length ∧ hp[i]? = some x) ∨ (i = hp.length ∧ x = e) := fun i x hx => by
    rcases Nat.lt_or_ge i hp.length with hi | hi
    · rw [List.getElem?_append_left hi] at hx; exact .inl ⟨hi, hx⟩
    · rw [List.getElem?_append_right hi] at hx
      have hi' : i - hp.length < 1 := by
        rcases Nat.lt_or_ge (i - hp.length) 1 with h2 | h2
        · exact h2
        · rw [List.getElem?_eq_none (by simpa using h2)] at hx; cases hx
      have h0 : i - hp.length = 0 := by omega
      rw [h0] at hx
      exact .inr ⟨by omega, by simpa using hx.symm⟩
  refine ⟨h1.os, h1.tape, h1.output, h1.size, fun i x hxx => ?_, fun i x hxx hk' => ?_, fun r hr hno => h1.old r hr fun i x hxx hk' => ?_⟩
  · rcases hx i x hxx with ⟨_, h2⟩ | ⟨rfl, rfl⟩
    · exact h1.obj i x h2
    · rw [hn]; exact he
  · rcases hx i x hxx with ⟨_, h2⟩ | ⟨rfl, rfl⟩
    · exact h1.fresh i x h2 hk'
    · rw [hn]; exact Nat.le_trans h.size hb
  · exact hno i x (by rw [List.getElem?_append_left (List.getElem?_eq_some_iff.1 hxx).1]; exact hxx) hk'

/-- It hands back v, and one block is new. -/
def Makes (P : Program) (f : FuncId) (args : List Value) (w : World) (e : Nat → HE) (v : Nat → Value) : Prop :=
  Calls P f args.toArray w fun x w' => ∃ b, w.heap.size ≤ b ∧ x = .returned (v b) ∧ Below w.heap.size w w' ∧ w'.heap[b]? = some (e b).obj

theorem call_makes (hβ : Inj β) {f : FuncId} {args : List Value} {K : Value → List HE → (Nat → Nat) → Prop} {e : Nat → HE} {v : Nat → Value} (hk2 : ∀ b, (e b).kind = 2)
    (h : ∀ w, HOk C.w0 β hp w → Makes C.P f args w e v)
    (hk : ∀ β', Inj β' → (∀ i, i < hp.length → β i = β' i) → K (v (β' hp.length)) (hp ++ [e (β' hp.length)]) β') : CallX C β hp f args K := by
  intro w hw
  refine (h w hw).mono fun x w' ⟨b, hb, hx, hB, he⟩ => ?_
  have hlt : ∀ i, i < hp.length → β i ≠ b := by
    intro i hi
    have := hw.obj i _ (List.getElem?_eq_getElem hi)
    have := (Array.getElem?_eq_some_iff.1 this).1
    omega
  obtain ⟨β1, h1, h2, h3⟩ := extend hβ hp.length b hlt
  subst hx
  refine ⟨hp ++ [e b], β1, hw.more (fun i hi => (h2 i hi).symm) h3 hb hB he (hk2 b), h1, h2, fun β' h4 h5 => ?_⟩
  have hn : β' hp.length = b := by rw [h5 _ (by simp), h3]
  have := hk β' h4 fun i hi => (h2.trans h5 (by simp) i hi).symm
  rw [hn] at this
  exact this
end

section
variable {P : Program} {w : World} {t kt et : TypeId} {k : IntKind} {b : Nat} {es : Array MapEntry} {clock : Nat} {a : Int} {x : Value}
theorem ex_key (e : Bool) (hk : P.underlying kt = some (.int k)) (n : Nat) (hn : n = 10000) : (Instr.checkKey e n kt (.int k a)).run P w = .ok () w := by
  obtain rfl : n = 9999 + 1 := hn
  rw [Instr.checkKey]
  simp [run_underlying hk]
theorem ex_makeMap {o : Oper} {fr : List Value} (ho : o.op = .makeMap t none) : (execOp (evx fr) o).run P w = .ok (.value (.map (some w.heap.size))) { w with heap := w.heap.push (.map #[] 0) } := by
  simp [execOp, ho, Instr.makeMap]

theorem ex_insert {o : Oper} {fr : List Value} {m q y : Operand} (ho : o.op = .insert t m q y) (ht : P.underlying t = some (.map kt et)) (hk : P.underlying kt = some (.int k)) (hm : evx fr m = .map (some b)) (hq : evx fr q = .int k a)
    (hb : w.heap[b]? = some (.map es clock)) (hn : Instr.findNow (.int k) (.int k a) es.toList 0 = some none) {x : Obj} (hx : .map (es.push { key := .int k a, val := evx fr y, born := clock }) (clock + 1) = x) :
    (execOp (evx fr) o).run P w = .ok .skip (setB w b x) := by
  subst hx
  simp [execOp, ho, hm, hq, Instr.mapUpdate, run_underlying ht, run_underlying hk, ex_key _ hk _ rfl, Instr.findKey, hn, getObj, setObj, Sem.run, hb, setB, Result.andThen]

def lookV (z : Value) : Option (Nat × Value) → Value
  | some (_, v) => .tuple #[v, .bool true]
  | none => .tuple #[z, .bool false]
theorem lookV_some (z : Value) (p : Nat × Value) : lookV z (some p) = .tuple #[p.2, .bool true] := rfl
theorem lookV_none (z : Value) : lookV z none = .tuple #[z, .bool false] := rfl
theorem ex_lookup {o : Oper} {fr : List Value} {m q : Operand} {r : Option (Nat × Value)} {z : Value} (ho : o.op = .lookup t m q true) (ht : P.underlying t = some (.map kt et)) (hk : P.underlying kt = some (.int k)) (hm : evx fr m = .map (some b)) (hq : evx fr q = .int k a)
    (hb : w.heap[b]? = some (.map es clock)) (hn : Instr.findNow (.int k) (.int k a) es.toList 0 = some r) (hz : (zeroValue et).run P w = .ok z w) :
    (execOp (evx fr) o).run P w = .ok (.value (lookV z r)) w := by
  cases r with
  | none => simp [execOp, ho, hm, hq, Instr.lookup, run_underlying ht, run_underlying hk, ex_key _ hk _ rfl, Instr.findKey, hn, getObj, Sem.run, hb, hz, Result.andThen, lookV]
  | some r => obtain ⟨i, v⟩ := r; simp [execOp, ho, hm, hq, Instr.lookup, run_underlying ht, run_underlying hk, ex_key _ hk _ rfl, Instr.findKey, hn, getObj, Sem.run, hb, Result.andThen, lookV]

theorem ex_range {o : Oper} {fr : List Value} {s : ByteArray} {q : Operand} (ho : o.op = .range t q) (ht : P.underlying t = some .string) (hq : evx fr q = .string s) :
    (execOp (evx fr) o).run P w = .ok (.value (.pointer (some ⟨w.heap.size, 0, none⟩))) { w with heap := w.heap.push (.stringIter s 0) } := by
  simp [execOp, ho, hq, Instr.range, run_underlying ht]

theorem ex_next {o : Oper} {fr : List Value} {s : ByteArray} {pos : Nat} {q : Operand} (ho : o.op = .next q true) (hq : evx fr q = .pointer (some ⟨b, 0, none⟩)) (hb : w.heap[b]? = some (.stringIter s pos)) (hp : pos < s.size) :
    (execOp (evx fr) o).run P w = .ok (.value (.tuple #[.bool true, .int .i64 pos, .int .i32 (Utf8.decode s pos).1])) (setB w b (.stringIter s (pos + (Utf8.decode s pos).2))) := by
  simp [execOp, ho, hq, Instr.next, getObj, setObj, Sem.run, hb, hp, setB, Result.andThen, goInt]

theorem ex_next_end {o : Oper} {fr : List Value} {s : ByteArray} {pos : Nat} {q : Operand} (ho : o.op = .next q true) (hq : evx fr q = .pointer (some ⟨b, 0, none⟩)) (hb : w.heap[b]? = some (.stringIter s pos)) (hp : ¬ pos < s.size) :
    (execOp (evx fr) o).run P w = .ok (.value (.tuple #[.bool false])) w := by
  simp [execOp, ho, hq, Instr.next, getObj, Sem.run, hb, hp, Result.andThen]

/-- A rune below 128 is a byte. -/
theorem decode_low (s : ByteArray) (pos : Nat) (h : pos < s.size) (hl : (Utf8.decode s pos).1 < 128) : (s[pos]'h).toNat < 128 := by
  rcases Nat.lt_or_ge (s[pos]'h).toNat 128 with h1 | h1
  · exact h1
  · exfalso
    have e : s.get! (pos + 0) = s[pos]'h := by
      show s.get! pos = _
      simp [ByteArray.get!, getElem!_pos, h]
      rfl
    simp only [Utf8.decode, e] at hl
    rw [if_neg (by omega)] at hl
    revert hl
    repeat' split
    all_goals simp only [Utf8.runeError, Bool.and_eq_true, decide_eq_true_eq] at *
    all_goals omega
end

section
variable {C : Cx} {β : Nat → Nat} {hp : List HE} {fr : List Value} {o : Oper} {K : Value → List HE → (Nat → Nat) → Prop}
theorem opX_range (hβ : Inj β) {t : TypeId} {q : Operand} (ho : o.op = .range t q) (ht : C.P.underlying t = some .string) (s : ByteArray) (hq : evx fr q = .string s)
    (hk : ∀ β', Inj β' → (∀ i, i < hp.length → β i = β' i) → K (.pointer (some ⟨β' hp.length, 0, none⟩)) (hp ++ [.o 2 (.stringIter s 0)]) β') : OpX C β hp fr o K :=
  opX_new hβ (fun b => .pointer (some ⟨b, 0, none⟩)) (.o 2 (.stringIter s 0)) rfl (fun _ _ => ex_range ho ht hq) hk
theorem opX_next (hβ : Inj β) {q : Operand} (ho : o.op = .next q true) (i : Nat) (hq : evx fr q = .pointer (some ⟨β i, 0, none⟩)) {s : ByteArray} {pos : Nat} (hi : hp[i]? = some (.o 2 (.stringIter s pos))) (c n : Nat) (hd : Utf8.decode s pos = (c, n)) (hs : pos < s.size)
    (hk : ∀ β', Inj β' → (∀ i, i < hp.length → β i = β' i) → K (.tuple #[.bool true, .int .i64 pos, .int .i32 c]) (hp.set i (.o 2 (.stringIter s (pos + n)))) β') : OpX C β hp fr o K :=
  opX_set hβ _ (.o 2 (.stringIter s (pos + n))) hi (.inr rfl) rfl (fun w hw => .inl (by
    have := ex_next (P := C.P) (w := w) ho hq (hw.obj i _ hi) hs
    rw [hd] at this
    exact this)) hk
theorem opX_nextEnd (hβ : Inj β) {q : Operand} (ho : o.op = .next q true) (i : Nat) (hq : evx fr q = .pointer (some ⟨β i, 0, none⟩)) {s : ByteArray} {pos : Nat} {k : Nat} (hi : hp[i]? = some (.o k (.stringIter s pos))) (hs : ¬ pos < s.size)
    (hk : ∀ β', Inj β' → (∀ i, i < hp.length → β i = β' i) → K (.tuple #[.bool false]) hp β') : OpX C β hp fr o K :=
  opX_val hβ _ (fun w hw => ex_next_end ho hq (hw.obj i _ hi) hs) hk
theorem opX_lookup (hβ : Inj β) {t kt et : TypeId} {k : IntKind} {m q : Operand} (ho : o.op = .lookup t m q true) (ht : C.P.underlying t = some (.map kt et)) (hkt : C.P.underlying kt = some (.int k)) (i : Nat) (hm : evx fr m = .map (some (β i))) (a : Int) (hq : evx fr q = .int k a)
    {es : Array MapEntry} {clock j : Nat} (hi : hp[i]? = some (.o j (.map es clock))) (r : Option (Nat × Value)) (hn : Instr.findNow (.int k) (.int k a) es.toList 0 = some r) {z : Value} (hz : ∀ w, (zeroValue et).run C.P w = .ok z w)
    (hk : ∀ β', Inj β' → (∀ i, i < hp.length → β i = β' i) → K (lookV z r) hp β') : OpX C β hp fr o K :=
  opX_val hβ _ (fun w hw => ex_lookup ho ht hkt hm hq (hw.obj i _ hi) hn (hz w)) hk
end
end Go.Gx

/- Calls that are gone into, and blocks that are let go. -/
namespace Go.Gx
open Go.RowKit

/-- The names of the first n blocks. -/
def nms (β : Nat → Nat) : Nat → Nat → List Nat
  | _, 0 => []
  | i, n + 1 => β i :: nms β (i + 1) n
theorem nms_0 (β : Nat → Nat) (i : Nat) : nms β i 0 = [] := rfl
theorem nms_s (β : Nat → Nat) (i n : Nat) : nms β i (n + 1) = β i :: nms β (i + 1) n := rfl
theorem nms_eq {β β' : Nat → Nat} : ∀ {n i : Nat}, nms β i n = nms β' i n → ∀ j, i ≤ j → j < i + n → β j = β' j
  | 0, i, _, j, h1, h2 => by omega
  | n + 1, i, h, j, h1, h2 => by
    simp only [nms, List.cons.injEq] at h
    rcases Nat.lt_or_ge i j with h3 | h3
    · exact nms_eq h.2 j h3 (by omega)
    · have : j = i := by omega
      subst this; exact h.1
theorem nms_agree {β β' : Nat → Nat} : ∀ {n i : Nat}, (∀ j, i ≤ j → j < i + n → β j = β' j) → nms β i n = nms β' i n
  | 0, _, _ => rfl
  | n + 1, i, h => by
    simp only [nms, List.cons.injEq]
    exact ⟨h i (Nat.le_refl _) (by omega), nms_agree fun j h1 h2 => h j (by omega) (by omega)⟩

section
variable {C : Cx} {β : Nat → Nat} {hp : List HE}

theorem call_in (hβ : Inj β) {f : FuncId} {fn : Func} {c : Code} {args : List Value} {K : Value → List HE → (Nat → Nat) → Prop} (hf : C.P.funcs[f]? = some fn) (hb : fn.body = some c) (k : Nat)
    (H : ∀ (R : List Nat → Ending → World → Prop), (∀ v hp' β1 w', Inj β1 → Nat.ble hp.length hp'.length = true → HOk C.w0 β1 hp' w' → (∀ β2, Inj β2 → (∀ i, i < hp'.length → β1 i = β2 i) → (∀ i, i < hp.length → β i = β2 i) → K v hp' β2) → R (nms β1 0 hp.length) (.returned v) w') →
      (∀ ns ch w', C.R (.panicked ch) w' → R ns (.panicked ch) w') →
      ∀ β', Inj β' → (∀ i, i < hp.length → β i = β' i) → run ⟨C.P, f, fn, C.w0, R (nms β' 0 hp.length)⟩ β' k [] [] [.code c] (args ++ List.replicate (fn.ntmps - args.length) undef) hp) : CallX C β hp f args K := by
  intro w hw
  let R : List Nat → Ending → World → Prop := fun ns e w' => match e with
    | .returned v => ∃ hp' β', HOk C.w0 β' hp' w' ∧ Inj β' ∧ nms β' 0 hp.length = ns ∧ hp.length ≤ hp'.length ∧ ∀ β'', Inj β'' → Agree hp'.length β' β'' → (∀ i, i < hp.length → β i = β'' i) → K v hp' β''
    | .panicked ch => C.R (.panicked ch) w'
    | .outgrown => False
  have h1 := H R (fun v hp' β1 w' h1 hl h2 h3 => ⟨hp', β1, h2, h1, rfl, Nat.le_of_ble_eq_true hl, fun β2 h4 h5 h6 => h3 β2 h4 (fun i hi => (h5 i hi).symm) h6⟩) (fun ns ch w' h => h)
  have hn : ∀ β', (∀ i, i < hp.length → β i = β' i) → nms β' 0 hp.length = nms β 0 hp.length := fun β' h => nms_agree fun j _ hj => (h j (by omega)).symm
  have hs := run_sound (C := ⟨C.P, f, fn, C.w0, R (nms β 0 hp.length)⟩) hf k [] [] [.code c] _ hp β (fun β' hi ha => by
    have := h1 β' hi fun i hi => (ha i hi).symm
    rw [hn β' fun i hi => (ha i hi).symm] at this
    exact this) hβ w hw
  have hg : Goes ⟨C.P, f, fn, C.w0, R (nms β 0 hp.length)⟩ [.code c] ⟨(args ++ List.replicate (fn.ntmps - args.length) undef).toArray, []⟩ w := hs
  intro cs
  obtain ⟨e, w', fr, hR, hc, h3, h4⟩ := hg cs
  refine ⟨e, w', fr, ?_, ?_, h3, h4⟩
  · cases e with
    | returned v =>
      obtain ⟨hp', β', h5, h6, h7, h9, h8⟩ := hR
      have ha : ∀ i, i < hp.length → β' i = β i := fun i hi => nms_eq h7 i (Nat.zero_le _) (by omega)
      exact ⟨hp', β', h5, h6, ha, fun β'' h1 h2 => h8 β'' h1 h2 fun i hi => by rw [h2 i (by omega), ha i hi]⟩
    | panicked ch => exact hR
    | outgrown => exact hR
  · have henter : Frame.enter C.P f args.toArray .normal = ({ (default : Frame) with fn := f, kind := .normal } : Frame).at ⟨(args ++ List.replicate (fn.ntmps - args.length) undef).toArray, []⟩ [.code c] := by
      simp [Frame.enter, Frame.at, hf, hb]
    rw [henter]
    exact hc

/-- Blocks are let go: what stays, and where it stood. -/
theorem HOk.drop {w0 w : World} (h : HOk w0 β hp w) (ι : Nat → Nat) (hp' : List HE) (hs : ∀ i e, hp'[i]? = some e → hp[ι i]? = some e) (hm : ∀ i e, hp[i]? = some e → e.kind = 1 → ∃ j, ι j = i ∧ hp'[j]? = some e) : HOk w0 (fun i => β (ι i)) hp' w := by
  refine ⟨h.os, h.tape, h.output, h.size, fun i e he => h.obj _ e (hs i e he), fun i e he hk => h.fresh _ e (hs i e he) hk, fun r hr hno => h.old r hr fun i e he hk => ?_⟩
  obtain ⟨j, rfl, hj⟩ := hm i e he hk
  exact hno j e hj hk
theorem go_drop {fr : List Value} {todo : List Item} (ι : Nat → Nat) (hp' : List HE) (hs : ∀ i e, hp'[i]? = some e → hp[ι i]? = some e) (hm : ∀ i e, hp[i]? = some e → e.kind = 1 → ∃ j, ι j = i ∧ hp'[j]? = some e)
    (h : GoX C (fun i => β (ι i)) hp' fr todo) : GoX C β hp fr todo := fun w hw => h w (hw.drop ι hp' hs hm)
end
end Go.Gx

/- Appending. -/
namespace Go.Gx
open Go.RowKit

theorem HOk.cell {w0 w : World} {β : Nat → Nat} {hp : List HE} (h : HOk w0 β hp w) {j k : Nat} {l : List Value} {t : TypeId} (hj : hp[j]? = some (.c k l t)) (i : Nat) (u : Value) (hu : l[i]? = some u) : w.cell? ((⟨β j, 0, none⟩ : Addr).add i) = some u := by
  have := h.obj j _ hj
  rw [Addr.add_lit]
  simp [World.cell?, this, HE.obj, hu]

theorem HOk.grown {w0 w w' : World} {β β' : Nat → Nat} {hp : List HE} {b : Nat} {e : HE} (h : HOk w0 β hp w) (ha : ∀ i, i < hp.length → β i = β' i) (hn : β' hp.length = b) (hb : w.heap.size ≤ b) (hB : w.grownBy w' none) (he : w'.heap[b]? = some e.obj) (hk : e.kind = 2) : HOk w0 β' (hp ++ [e]) w' :=
  h.more ha hn hb ⟨hB.os, hB.tape, hB.output, hB.size, fun k hk => hB.block k hk (by simp)⟩ he hk

section
variable {C : Cx} {β : Nat → Nat} {hp : List HE} {fr : List Value} {o : Oper} {K : Value → List HE → (Nat → Nat) → Prop}

theorem ex_append {w w' : World} {t : TypeId} {s x : Operand} {v' : Value} (ho : o.op = .call { callee := .builtin .append, args := #[s, x], argTypes := #[t, t] })
    (h : (Builtin.append_ #[t, t] o.type #[evx fr s, evx fr x]).run C.P w = .ok v' w') : (execOp (evx fr) o).run C.P w = .ok (.value v') w' := by
  unfold execOp
  simp only [ho, resolve, invoke, builtin, Sem.run_bind, Sem.run_pure, Result.andThen_ok, List.map_toArray, List.map_cons, List.map_nil, h]

theorem new_name (hβ : Inj β) {w : World} (hw : HOk C.w0 β hp w) {b : Nat} (hb : w.heap.size ≤ b) : ∃ β1, Inj β1 ∧ Agree hp.length β β1 ∧ β1 hp.length = b := by
  refine extend hβ hp.length b fun i hi => ?_
  have := hw.obj i _ (List.getElem?_eq_getElem hi)
  have := (Array.getElem?_eq_some_iff.1 this).1
  omega

/-- What an element type must be for these rules: one cell. -/
structure Cell1 (P : Program) (t e : TypeId) (i : TypeInfo) (z : Value) : Prop where
  sl : P.underlying t = some (.slice e)
  info : P.info? e = some i
  zero : i.zero = some z
  size : i.size = 1
  bytes : i.bytes ≤ 16
  cells : z.cells.size = 1

theorem opX_appendNil (hβ : Inj β) {t e : TypeId} {i : TypeInfo} {z : Value} {s x : Operand} (ho : o.op = .call { callee := .builtin .append, args := #[s, x], argTypes := #[t, t] }) (hc : Cell1 C.P t e i z)
    (hs : evx fr s = .slice none 0 0) {j m c kj : Nat} {news : List Value} {tj : TypeId} (hx : evx fr x = .slice (some ⟨β j, 0, none⟩) m c) (hj : hp[j]? = some (.c kj news tj)) (hl : news.length = m) (h1 : ∀ u ∈ news, u.oneCell' = true) (hm : 0 < m ∧ m ≤ 1000000)
    (hk : ∀ cap cur, m ≤ cap → cap ≤ maxLen → List.length cur = cap → cur.take m = news → ∀ β', Inj β' → (∀ i, i < hp.length → β i = β' i) → K (.slice (some ⟨β' hp.length, 0, none⟩) m cap) (hp ++ [.c 2 cur e]) β') : OpX C β hp fr o K := by
  intro w hw
  have hb := hc.bytes
  obtain ⟨v', w', hr, hown, hg, hnil⟩ := run_append_own (P := C.P) w w.heap.size t o.type e i z 1 i.bytes hc.sl hc.info hc.zero hc.size rfl hc.cells (by omega) (.slice none 0 0) 0 [] (World.ownsRow_nil w w.heap.size e 1)
    ⟨β j, 0, none⟩ m c news (by simpa using hl) (fun a u hu => hw.cell hj a u hu) h1 (by simp only [maxLen]; omega) (by have := Nat.mul_le_mul (show 0 + m ≤ 1000000 by omega) hb; omega) (Nat.le_refl _)
  rcases hown.2 with ⟨hv, h0⟩ | ⟨g, cap, cur, rfl, hbg, hgh, hnc, hcm, hcs, ht⟩
  · omega
  · simp only [Nat.zero_add, Nat.mul_one, List.nil_append] at *
    obtain ⟨β1, h2, h3, h4⟩ := new_name (C := C) hβ hw hbg
    refine .inl ⟨_, w', .inl (ex_append ho (by rw [hs, hx]; exact hr)), hp ++ [.c 2 cur.toList e], β1, hw.grown (fun i hi => (h3 i hi).symm) h4 hbg ⟨hg.os, hg.tape, hg.output, hg.size, fun k hk _ => hg.block k hk (by simp [Value.ownBlock])⟩ (by rw [hgh]; rfl) rfl, h2, h3, fun β'' h5 h6 => ?_⟩
    have hn : β'' hp.length = g := by rw [h6 _ (by simp), h4]
    have := hk cap cur.toList hnc hcm (by simpa using hcs) ht β'' h5 fun i hi => (h3.trans h6 (by simp) i hi).symm
    rw [hn] at this
    exact this

theorem opX_appendAt (hβ : Inj β) {t e : TypeId} {i : TypeInfo} {z : Value} {s x : Operand} (ho : o.op = .call { callee := .builtin .append, args := #[s, x], argTypes := #[t, t] }) (hc : Cell1 C.P t e i z)
    {g n cap : Nat} {cur : List Value} (hs : evx fr s = .slice (some ⟨β g, 0, none⟩) n cap) {kg : Nat} (hg : hp[g]? = some (.c kg cur e)) (hkg : kg = 1 ∨ kg = 2) (hcur : cur.length = cap) (hn : n ≤ cap ∧ n ≤ 1000000 ∧ cap ≤ maxLen)
    {j m c kj : Nat} {news : List Value} {tj : TypeId} (hx : evx fr x = .slice (some ⟨β j, 0, none⟩) m c) (hj : hp[j]? = some (.c kj news tj)) (hl : news.length = m) (h1 : ∀ u ∈ news, u.oneCell' = true) (hm : m ≤ 1000000)
    (hk1 : n + m ≤ cap → ∀ cur', List.length cur' = cap → cur'.take (n + m) = cur.take n ++ news → ∀ β', Inj β' → (∀ i, i < hp.length → β i = β' i) → K (.slice (some ⟨β' g, 0, none⟩) (n + m) cap) (hp.set g (.c kg cur' e)) β')
    (hk2 : cap < n + m → ∀ cap' cur', n + m ≤ cap' → cap' ≤ maxLen → List.length cur' = cap' → cur'.take (n + m) = cur.take n ++ news → ∀ β', Inj β' → (∀ i, i < hp.length → β i = β' i) → K (.slice (some ⟨β' hp.length, 0, none⟩) (n + m) cap') (hp ++ [.c 2 cur' e]) β') : OpX C β hp fr o K := by
  intro w hw
  have hb := hc.bytes
  have hgo : w.heap[β g]? = some (.cells cur.toArray e (0, 0)) := hw.obj g _ hg
  by_cases hroom : n + m ≤ cap
  · have hr := run_append_room (P := C.P) w t o.type e i hc.sl hc.info (β g) n cap cur.toArray hgo ⟨β j, 0, none⟩ m c news (by rw [hc.size]; simpa using hl) (fun a u hu => hw.cell hj a u hu) h1 hroom (by rw [hc.size]; simp; omega)
    rw [hc.size] at hr
    simp only [Nat.mul_one] at hr
    have hset : w.setRow (β g) (cur.take n ++ news ++ cur.drop (n + news.length)).toArray = setB w (β g) (HE.c kg (cur.take n ++ news ++ cur.drop (n + news.length)) e).obj := by
      simp only [World.setRow, setB, HE.obj]
      congr 1
      apply Array.ext_getElem?
      intro a
      rw [Array.getElem?_modify, Array.getElem?_setIfInBounds]
      by_cases ha : β g = a
      · subst ha
        obtain ⟨hlt, he⟩ := Array.getElem?_eq_some_iff.1 hgo
        simp [hlt, he]
      · simp [ha]
    refine .inl ⟨_, _, .inl (ex_append ho (by rw [hs, hx]; exact hr)), hp.set g (.c kg (cur.take n ++ news ++ cur.drop (n + news.length)) e), β, ?_, hβ, Agree.refl _ _, fun β'' h5 h6 => ?_⟩
    · rw [hset]
      exact hw.put hβ hg hkg rfl
    · have hgl : g < hp.length := (List.getElem?_eq_some_iff.1 hg).1
      have hn' : β g = β'' g := (h6 g (by simpa using hgl)).symm
      rw [hn']
      refine hk1 hroom _ (by simp; omega) ?_ β'' h5 fun i hi => (h6 i (by simpa using hi)).symm
      rw [← hl, show n + news.length = (cur.take n ++ news).length by simp; omega]
      exact List.take_left
  · obtain ⟨v', w', hr, hown, hgr⟩ := run_append_arg_grows (P := C.P) w t o.type e i z 1 i.bytes hc.sl hc.info hc.zero hc.size rfl hc.cells (by omega) ⟨β g, 0, none⟩ n cap (cur.take n) (by simp; omega)
      (fun a u hu => hw.cell hg a u (by rw [List.getElem?_take] at hu; split at hu <;> simp_all)) ⟨β j, 0, none⟩ m c news (by simpa using hl) (fun a u hu => hw.cell hj a u hu) (by omega) (by simp only [maxLen]; omega)
      (by have := Nat.mul_le_mul (show n + m ≤ 2000000 by omega) hb; omega)
    rcases hown.2 with ⟨hv, h0⟩ | ⟨g', cap', cur', rfl, hbg, hgh, hnc, hcm, hcs, ht⟩
    · omega
    · simp only [Nat.mul_one] at *
      obtain ⟨β1, h2, h3, h4⟩ := new_name (C := C) hβ hw hbg
      refine .inl ⟨_, w', .inl (ex_append ho (by rw [hs, hx]; exact hr)), hp ++ [.c 2 cur'.toList e], β1, hw.grown (fun i hi => (h3 i hi).symm) h4 hbg hgr (by rw [hgh]; rfl) rfl, h2, h3, fun β'' h5 h6 => ?_⟩
      have hn' : β'' hp.length = g' := by rw [h6 _ (by simp), h4]
      have := hk2 (by omega) cap' cur'.toList hnc hcm (by simpa using hcs) ht β'' h5 fun i hi => (h3.trans h6 (by simp) i hi).symm
      rw [hn'] at this
      exact this
end
end Go.Gx

/- Contracts of functions that write what was there. -/
namespace Go.Gx
open Go.RowKit

def rek (k : Nat) : HE → HE
  | .c _ l t => .c k l t
  | .r l t z => .r l t z
  | .o _ x => .o k x
theorem rek_obj (k : Nat) (e : HE) : (rek k e).obj = e.obj := by cases e <;> rfl
def rigid : HE → Bool
  | .r _ _ _ => true
  | _ => false
theorem rek_kind {k : Nat} {e : HE} (h : rigid e = false) : (rek k e).kind = k := by cases e <;> first | rfl | cases h
/-- The kind of the one, the content of the other. -/
def rekO : Option HE → HE → HE
  | some e0, e => rek e0.kind e
  | none, e => e
theorem rekO_c (k k' : Nat) (l l' : List Value) (t t' : TypeId) : rekO (some (.c k l t)) (.c k' l' t') = .c k l' t' := rfl
theorem rekO_o (k k' : Nat) (x x' : Obj) : rekO (some (.o k x)) (.o k' x') = .o k x' := rfl
/-- The caller's blocks behind a call: those that the callee knew, then its new ones. -/
def mrg (hp : List HE) : List Nat → List HE → List HE
  | [], hp' => hp ++ hp'
  | i :: idx, e :: hp' => mrg (hp.set i (rekO hp[i]? e)) idx hp'
  | _ :: _, [] => hp
theorem mrg_n (hp hp' : List HE) : mrg hp [] hp' = hp ++ hp' := by rw [mrg]
theorem mrg_c (hp hp' : List HE) (i : Nat) (idx : List Nat) (e : HE) : mrg hp (i :: idx) (e :: hp') = mrg (hp.set i (rekO hp[i]? e)) idx hp' := by rw [mrg]

theorem mrg_len : ∀ (idx : List Nat) (hp hp' : List HE), idx.length ≤ hp'.length → (mrg hp idx hp').length = hp.length + (hp'.length - idx.length)
  | [], hp, hp', _ => by simp [mrg]
  | i :: idx, hp, [], h => by simp at h
  | i :: idx, hp, e :: hp', h => by
    rw [mrg_c, mrg_len idx _ hp' (by simpa using h)]
    simp
theorem mrg_get : ∀ (idx : List Nat) (hp hp' : List HE), idx.Nodup → (∀ i ∈ idx, i < hp.length) → idx.length ≤ hp'.length → ∀ (i : Nat) (x : HE), (mrg hp idx hp')[i]? = some x →
    (∃ k : Nat, idx[k]? = some i ∧ ∃ e0 e : HE, hp[i]? = some e0 ∧ hp'[k]? = some e ∧ x = rek e0.kind e) ∨ (i ∉ idx ∧ hp[i]? = some x) ∨ (hp.length ≤ i ∧ hp'[idx.length + (i - hp.length)]? = some x)
  | [], hp, hp', _, _, _, i, x, h => by
    rw [mrg_n] at h
    rcases Nat.lt_or_ge i hp.length with h1 | h1
    · rw [List.getElem?_append_left h1] at h; exact .inr (.inl ⟨by simp, h⟩)
    · rw [List.getElem?_append_right h1] at h; exact .inr (.inr ⟨h1, by simpa using h⟩)
  | j :: idx, hp, [], _, _, hl, i, x, h => by simp at hl
  | j :: idx, hp, e :: hp', hn, hlt, hl, i, x, h => by
    rw [mrg_c] at h
    rw [List.nodup_cons] at hn
    have hj : j < hp.length := hlt j (by simp)
    have hjs : hp[j]? = some hp[j] := List.getElem?_eq_getElem hj
    rcases mrg_get idx _ hp' hn.2 (fun i hi => by simpa using hlt i (by simp [hi])) (by simpa using hl) i x h with ⟨k, h1, e0, e1, h2, h3, h4⟩ | ⟨h1, h2⟩ | ⟨h1, h2⟩
    · have hij : j ≠ i := fun hji => hn.1 (hji ▸ List.mem_of_getElem? h1)
      rw [List.getElem?_set_ne hij] at h2
      exact .inl ⟨k + 1, by simpa using h1, e0, e1, h2, by simpa using h3, h4⟩
    · by_cases hij : j = i
      · subst hij
        rw [List.getElem?_set_self hj] at h2
        refine .inl ⟨0, by simp, hp[j], e, hjs, by simp, ?_⟩
        rw [hjs] at h2
        exact (Option.some.inj h2).symm
      · rw [List.getElem?_set_ne hij] at h2
        exact .inr (.inl ⟨by simp [h1, Ne.symm hij], h2⟩)
    · refine .inr (.inr ⟨by simpa using h1, ?_⟩)
      rw [List.length_set] at h2
      rw [← h2, List.length_cons, show idx.length + 1 + (i - hp.length) = (idx.length + (i - hp.length)) + 1 by omega, List.getElem?_cons_succ]
theorem mrg_out : ∀ (idx : List Nat) (hp hp' : List HE) (i : Nat) (x : HE), i ∉ idx → hp[i]? = some x → (mrg hp idx hp')[i]? = some x
  | [], hp, hp', i, x, _, h => by
    rw [mrg_n, List.getElem?_append_left (List.getElem?_eq_some_iff.1 h).1]; exact h
  | j :: idx, hp, [], i, x, _, h => by rw [mrg]; exact h
  | j :: idx, hp, e :: hp', i, x, hn, h => by
    rw [mrg_c]
    refine mrg_out idx _ hp' i x (fun h1 => hn (by simp [h1])) ?_
    rw [List.getElem?_set_ne (fun h1 => hn (by simp [h1]))]
    exact h
theorem mrg_at : ∀ (idx : List Nat) (hp hp' : List HE), idx.Nodup → (∀ i ∈ idx, i < hp.length) → ∀ (k i : Nat) (e0 e : HE), idx[k]? = some i → hp[i]? = some e0 → hp'[k]? = some e → (mrg hp idx hp')[i]? = some (rek e0.kind e)
  | [], hp, hp', _, _, k, i, e0, e, h, _, _ => by simp at h
  | j :: idx, hp, [], _, _, k, i, e0, e, _, _, h => by simp at h
  | j :: idx, hp, e1 :: hp', hn, hlt, k, i, e0, e, h1, h2, h3 => by
    rw [mrg_c]
    rw [List.nodup_cons] at hn
    cases k with
    | zero =>
      simp at h1 h3
      subst h1 h3
      refine mrg_out idx _ hp' j _ hn.1 ?_
      rw [List.getElem?_set_self (hlt j (by simp)), h2]
      rfl
    | succ k =>
      simp at h1 h3
      have hij : j ≠ i := fun hji => hn.1 (hji ▸ List.mem_of_getElem? h1)
      exact mrg_at idx _ hp' hn.2 (fun i hi => by simpa using hlt i (by simp [hi])) k i e0 e h1 (by rw [List.getElem?_set_ne hij]; exact h2) h3

/-- It hands back v; what it knew ('bs', of these kinds) and what it made are as Q says. -/
def TurnR (w : World) (bs ks : List Nat) (Q : Value → List HE → (Nat → Nat) → Prop) (e : Ending) (w' : World) : Prop :=
  ∃ v hp' β1, e = .returned v ∧ Inj β1 ∧ nms β1 0 bs.length = bs ∧ HOk w β1 hp' w' ∧ bs.length ≤ hp'.length ∧
    (∀ k x, hp'[k]? = some x → rigid x = false ∧ x.kind = ks.getD k 2) ∧ ks.length = bs.length ∧ (∀ k ∈ ks, k = 0 ∨ k = 1) ∧ Q v hp' β1
def Turns (P : Program) (f : FuncId) (args : List Value) (w : World) (bs ks : List Nat) (Q : Value → List HE → (Nat → Nat) → Prop) : Prop := Calls P f args.toArray w (TurnR w bs ks Q)

theorem nms_get (β : Nat → Nat) : ∀ (n i k : Nat), k < n → (nms β i n)[k]? = some (β (i + k))
  | 0, _, _, h => by omega
  | n + 1, i, 0, _ => by simp [nms]
  | n + 1, i, k + 1, h => by
    simp only [nms, List.getElem?_cons_succ]
    rw [nms_get β n (i + 1) k (by omega)]
    congr 2; omega
theorem nms_len (β : Nat → Nat) : ∀ (n i : Nat), (nms β i n).length = n
  | 0, _ => rfl
  | n + 1, i => by simp [nms, nms_len β n (i + 1)]
theorem nms_mem (β : Nat → Nat) (n i b : Nat) (h : b ∈ nms β i n) : ∃ k, k < n ∧ b = β (i + k) := by
  obtain ⟨k, hk, rfl⟩ := List.getElem_of_mem h
  have hk' : k < n := by rw [nms_len] at hk; exact hk
  refine ⟨k, hk', ?_⟩
  have := nms_get β n i k hk'
  rw [List.getElem?_eq_getElem hk] at this
  exact Option.some.inj this
theorem nms_nodup {β : Nat → Nat} (hβ : Inj β) : ∀ (n i : Nat), (nms β i n).Nodup
  | 0, _ => List.nodup_nil
  | n + 1, i => by
    rw [nms, List.nodup_cons]
    refine ⟨fun h => ?_, nms_nodup hβ n (i + 1)⟩
    obtain ⟨k, _, h2⟩ := nms_mem β n (i + 1) _ h
    have := hβ _ _ h2
    omega

section
variable {C : Cx} {β : Nat → Nat} {hp : List HE}
theorem call_turns (hβ : Inj β) (idx ks : List Nat) {f : FuncId} {args : List Value} {K : Value → List HE → (Nat → Nat) → Prop} {Q : Value → List HE → (Nat → Nat) → Prop} (hnd : idx.Nodup) (hlt : ∀ i ∈ idx, i < hp.length)
    (hkinds : ∀ k i e0, idx[k]? = some i → hp[i]? = some e0 → ks.getD k 2 = 1 → e0.kind = 1 ∨ e0.kind = 2)
    (h : ∀ w, HOk C.w0 β hp w → Turns C.P f args w (idx.map β) ks Q)
    (hk : ∀ v hp' βc, Q v hp' βc → ∀ β', Inj β' → (∀ i, i < hp.length → β i = β' i) → (∀ k i, idx[k]? = some i → βc k = β' i) → (∀ j, idx.length + j < hp'.length → βc (idx.length + j) = β' (hp.length + j)) → K v (mrg hp idx hp') β') :
    CallX C β hp f args K := by
  intro w hw
  refine (h w hw).mono fun e w' ⟨v, hp', βc, he, hc, hbs, hok, hlen, hkd, hkl, hk01, hQ⟩ => ?_
  subst he
  rw [List.length_map] at hlen hbs hkl
  have hcb : ∀ k i, idx[k]? = some i → βc k = β i := fun k i hi => by
    have hkl : k < idx.length := (List.getElem?_eq_some_iff.1 hi).1
    have h1 := nms_get βc idx.length 0 k hkl
    rw [hbs, List.getElem?_map, hi] at h1
    simp at h1
    exact h1.symm
  have hsz : ∀ i e, hp[i]? = some e → β i < w.heap.size := fun i e he => (Array.getElem?_eq_some_iff.1 (hw.obj i e he)).1
  have hnew : ∀ j x, hp'[idx.length + j]? = some x → w.heap.size ≤ βc (idx.length + j) := fun j x hx => by
    refine hok.fresh _ x hx ?_
    rw [(hkd _ x hx).2, List.getD_eq_getElem?_getD, List.getElem?_eq_none (by omega)]
    rfl
  have hnd' : (nms β 0 hp.length ++ nms βc idx.length (hp'.length - idx.length)).Nodup := by
    rw [List.nodup_append]
    refine ⟨nms_nodup hβ _ _, nms_nodup hc _ _, fun a ha b hb hab => ?_⟩
    subst hab
    obtain ⟨i, hi, rfl⟩ := nms_mem _ _ _ _ ha
    obtain ⟨j, hj, h2⟩ := nms_mem _ _ _ _ hb
    have h3 := hnew j _ (List.getElem?_eq_getElem (by omega))
    have h4 := hsz (0 + i) _ (List.getElem?_eq_getElem (by omega))
    omega
  obtain ⟨β1, hβ1, hb1⟩ := number _ hnd'
  have ho : ∀ i, i < hp.length → β1 i = β i := fun i hi => hb1 i _ (by
    rw [List.getElem?_append_left (by rw [nms_len]; exact hi), nms_get _ _ _ _ hi, Nat.zero_add])
  have hn1 : ∀ j, idx.length + j < hp'.length → β1 (hp.length + j) = βc (idx.length + j) := fun j hj => hb1 _ _ (by
    rw [List.getElem?_append_right (by rw [nms_len]; omega), nms_len, show hp.length + j - hp.length = j by omega, nms_get _ _ _ _ (by omega)])
  have hun : ∀ r, r < w.heap.size → (∀ k i, idx[k]? = some i → ks.getD k 2 = 1 → β i ≠ r) → w'.heap[r]? = w.heap[r]? := fun r hr hno => by
    refine hok.old r hr fun k x hx hkx => ?_
    have h1 := (hkd k x hx).2
    rw [hkx] at h1
    have hkl' : k < idx.length := by
      rcases Nat.lt_or_ge k idx.length with h2 | h2
      · exact h2
      · rw [List.getD_eq_getElem?_getD, List.getElem?_eq_none (by omega)] at h1; cases h1
    have hi := List.getElem?_eq_getElem hkl'
    rw [hcb k _ hi]
    exact hno k _ hi h1.symm
  refine ⟨mrg hp idx hp', β1, ?_, hβ1, fun i hi => ho i hi, fun β'' h5 h6 => ?_⟩
  · refine ⟨hok.os.trans hw.os, hok.tape.trans hw.tape, hok.output.trans hw.output, Nat.le_trans hw.size hok.size, fun i x hx => ?_, fun i x hx hkx => ?_, fun r hr hno => ?_⟩
    · rcases mrg_get idx hp hp' hnd hlt hlen i x hx with ⟨k, h1, e0, e, h2, h3, rfl⟩ | ⟨h1, h2⟩ | ⟨h1, h2⟩
      · rw [rek_obj, ho i (List.getElem?_eq_some_iff.1 h2).1, ← hcb k i h1]; exact hok.obj k e h3
      · rw [ho i (List.getElem?_eq_some_iff.1 h2).1, hun _ (hsz i x h2) fun k j hj _ hji => h1 (hβ _ _ hji ▸ List.mem_of_getElem? hj)]
        exact hw.obj i x h2
      · have hlt2 : idx.length + (i - hp.length) < hp'.length := (List.getElem?_eq_some_iff.1 h2).1
        have := hn1 (i - hp.length) hlt2
        rw [show hp.length + (i - hp.length) = i by omega] at this
        rw [this]; exact hok.obj _ x h2
    · rcases mrg_get idx hp hp' hnd hlt hlen i x hx with ⟨k, h1, e0, e, h2, h3, rfl⟩ | ⟨h1, h2⟩ | ⟨h1, h2⟩
      · rw [rek_kind (hkd k e h3).1] at hkx
        rw [ho i (List.getElem?_eq_some_iff.1 h2).1]; exact hw.fresh i e0 h2 hkx
      · rw [ho i (List.getElem?_eq_some_iff.1 h2).1]; exact hw.fresh i x h2 hkx
      · have hlt2 : idx.length + (i - hp.length) < hp'.length := (List.getElem?_eq_some_iff.1 h2).1
        have := hn1 (i - hp.length) hlt2
        rw [show hp.length + (i - hp.length) = i by omega] at this
        rw [this]; exact Nat.le_trans hw.size (hnew _ x h2)
    · have hr' : r < w.heap.size := Nat.lt_of_lt_of_le hr hw.size
      have key : ∀ i e0, hp[i]? = some e0 → e0.kind = 1 → β i ≠ r := fun i e0 h1 h2 => by
        by_cases hi : i ∈ idx
        · obtain ⟨k, hkl', hki⟩ := List.getElem_of_mem hi
          have h3 : hp'[k]? = some (hp'[k]'(by omega)) := List.getElem?_eq_getElem (by omega)
          have h4 := mrg_at idx hp hp' hnd hlt k i e0 _ (by rw [List.getElem?_eq_getElem hkl', hki]) h1 h3
          have := hno i _ h4 (by rw [rek_kind (hkd k _ h3).1]; exact h2)
          rwa [ho i (List.getElem?_eq_some_iff.1 h1).1] at this
        · have := hno i e0 (mrg_out idx hp hp' i e0 hi h1) h2
          rwa [ho i (List.getElem?_eq_some_iff.1 h1).1] at this
      rw [hun r hr' fun k i hi hk1 => ?_]
      · exact hw.old r hr key
      · have hil := hlt i (List.mem_of_getElem? hi)
        have h1 := List.getElem?_eq_getElem hil
        rcases hkinds k i _ hi h1 hk1 with h2 | h2
        · exact key i _ h1 h2
        · have := hw.fresh i _ h1 h2; omega
  · refine hk v hp' βc hQ β'' h5 (fun i hi => ?_) (fun k i hi => ?_) fun j hj => ?_
    · rw [h6 i (by rw [mrg_len idx hp hp' hlen]; omega), ho i hi]
    · have hil := hlt i (List.mem_of_getElem? hi)
      rw [hcb k i hi, h6 i (by rw [mrg_len idx hp hp' hlen]; omega), ho i hil]
    · rw [h6 _ (by rw [mrg_len idx hp hp' hlen]; omega), hn1 j hj]
end

/-- The blocks that are kept, by their places. -/
def sel (hp : List HE) : List Nat → List HE
  | [] => []
  | i :: r => match hp[i]? with
    | some e => e :: sel hp r
    | none => sel hp r
def pick (l : List Nat) (n i : Nat) : Nat := (l[i]?).getD (n + i)
theorem sel_get {hp : List HE} : ∀ (l : List Nat), l.all (· < hp.length) = true → ∀ (k : Nat), (sel hp l)[k]? = (l[k]?).bind (hp[·]?)
  | [], _, k => by simp [sel]
  | i :: r, h, k => by
    simp only [List.all_cons, Bool.and_eq_true, decide_eq_true_eq] at h
    have hi : hp[i]? = some hp[i] := List.getElem?_eq_getElem h.1
    simp only [sel, hi]
    cases k with
    | zero => simp [hi]
    | succ k => simpa using sel_get r h.2 k
theorem pick_inj {l : List Nat} {n : Nat} (hn : l.Nodup) (hl : l.all (· < n) = true) : Inj (pick l n) := by
  intro i j h
  unfold pick at h
  have hlt : ∀ k a, l[k]? = some a → a < n := fun k a hk => by
    have := List.all_eq_true.1 hl a (List.mem_of_getElem? hk)
    simpa using this
  cases hi : l[i]? with
  | none =>
    cases hj : l[j]? with
    | none => rw [hi, hj] at h; simp at h; omega
    | some b => rw [hi, hj] at h; simp at h; have := hlt j b hj; omega
  | some a =>
    cases hj : l[j]? with
    | none => rw [hi, hj] at h; simp at h; have := hlt i a hi; omega
    | some b =>
      rw [hi, hj] at h
      simp at h
      subst h
      obtain ⟨h1, e1⟩ := List.getElem?_eq_some_iff.1 hi
      obtain ⟨h2, e2⟩ := List.getElem?_eq_some_iff.1 hj
      exact (List.getElem_inj hn).1 (e1.trans e2.symm)
/-- What may be written is kept. -/
def keepB (l : List Nat) : List HE → Nat → Bool
  | [], _ => true
  | e :: r, i => (e.kind != 1 || l.contains i) && keepB l r (i + 1)
theorem keepB_spec {l : List Nat} : ∀ (hp : List HE) (n : Nat), keepB l hp n = true → ∀ i e, hp[i]? = some e → e.kind = 1 → n + i ∈ l
  | [], _, _, i, e, h, _ => by simp at h
  | x :: r, n, hb, i, e, h, hk => by
    simp only [keepB, Bool.and_eq_true] at hb
    cases i with
    | zero =>
      simp at h; subst h
      have := hb.1
      rw [hk] at this
      simpa using this
    | succ i =>
      have := keepB_spec r (n + 1) hb.2 i e (by simpa using h) hk
      rwa [show n + 1 + i = n + (i + 1) by omega] at this
def kindB (ks : List Nat) : List HE → Nat → Bool
  | [], _ => true
  | e :: r, i => !rigid e && e.kind == ks.getD i 2 && kindB ks r (i + 1)
theorem kindB_spec {ks : List Nat} : ∀ (hp : List HE) (n : Nat), kindB ks hp n = true → ∀ (k : Nat) (x : HE), hp[k]? = some x → rigid x = false ∧ x.kind = ks.getD (n + k) 2
  | [], _, _, k, x, h => by simp at h
  | e :: r, n, hb, k, x, h => by
    simp only [kindB, Bool.and_eq_true, beq_iff_eq] at hb
    cases k with
    | zero => simp at h; subst h; exact ⟨by simpa using hb.1.1, hb.1.2⟩
    | succ k =>
      have := kindB_spec r (n + 1) hb.2 k x (by simpa using h)
      rwa [show n + 1 + k = n + (k + 1) by omega] at this
theorem HOk.sel {w0 w : World} {β : Nat → Nat} {hp : List HE} (h : HOk w0 β hp w) (l : List Nat) (n : Nat) (hl : l.all (· < hp.length) = true) (hk : keepB l hp 0 = true) : HOk w0 (fun i => β (pick l n i)) (sel hp l) w := by
  refine h.drop (pick l n) _ (fun i e he => ?_) fun i e he hk1 => ?_
  · rw [sel_get l hl] at he
    cases hi : l[i]? with
    | none => rw [hi] at he; cases he
    | some a => rw [hi] at he; simpa [pick, hi] using he
  · have hm := keepB_spec hp 0 hk i e he hk1
    rw [Nat.zero_add] at hm
    obtain ⟨j, hj, hji⟩ := List.getElem_of_mem hm
    have hj' : l[j]? = some i := by rw [List.getElem?_eq_getElem hj, hji]
    exact ⟨j, by simp [pick, hj'], by rw [sel_get l hl, hj']; exact he⟩
/-- The end of a function that writes: what is kept. -/
theorem turn_end {w w' : World} {β : Nat → Nat} {hp : List HE} (hβ : Inj β) (hw : HOk w β hp w') (l : List Nat) (n : Nat) (hnd : l.Nodup) (hln : l.all (· < n) = true) (hl : l.all (· < hp.length) = true) (hk : keepB l hp 0 = true) {bs ks : List Nat} (hkd : kindB ks (sel hp l) 0 = true)
    (hbs : nms (fun i => β (pick l n i)) 0 bs.length = bs) (hlen : Nat.ble bs.length (sel hp l).length = true) (hkl : ks.length = bs.length) (hk01 : ∀ k ∈ ks, k = 0 ∨ k = 1) {v : Value} {Q : Value → List HE → (Nat → Nat) → Prop} (hQ : Q v (sel hp l) (fun i => β (pick l n i))) :
    TurnR w bs ks Q (.returned v) w' :=
  ⟨v, sel hp l, _, rfl, fun i j h => pick_inj hnd hln _ _ (hβ _ _ h), hbs, hw.sel l n hl hk, Nat.le_of_ble_eq_true hlen, fun k x hx => by simpa using kindB_spec _ 0 hkd k x hx, hkl, hk01, hQ⟩

/-- A slice's row is not this block. -/
def far (p : Option Addr) (n b : Nat) : Prop := n = 0 ∨ ∀ a, p = some a → a.block ≠ b
end Go.Gx

