/- A symbolic evaluator for the machine's code: 'run' goes over a function's code with a written-out frame and a written-out list of blocks, and says what is left to show at calls, loops and ends; 'run_calls' says that what it asks is enough for the call's contract. Definitions. -/
import Derived.Calls
import Derived.Orders
import Derived.Still
import Derived.Below
import Derived.KernelRfl
import Derived.LoopN
import Derived.Scope
namespace Go.Gx
open Go.RowKit
inductive TK where
 | st (fs : List (Nat × Nat × TypeId)) (cmp : Bool)
 | ar (n e : Nat) (t : TypeId)
 | sl (e : Nat) (t : TypeId)
 | it (k : IntKind)
 | bo
 | str
 | pt
 | fu
 | ifc
 | other
structure TI where
 sz : Nat
 ag : Bool
 zero : List Value
 kd : TK
def cellsOf (P : Program) (t : TypeId) : Nat := ((P.info? t).map (·.size)).getD 0
def cmpOk (P : Program) (t : TypeId) (fs : Array Field) : Bool := !P.stoodInHeld t && fs.all (·.name != "_") && !P.eqGuardType P.depth t
def tiof (P : Program) (t : TypeId) : Option TI :=
 match P.info? t, P.underlying t with
 | some i, some d =>
   match i.zero with
   | none => none
   | some z =>
     match d with
     | .struct fs => if (fs.all fun f => (P.info? f.type).isSome) = true then some ⟨i.size, true, z.cells.toList, .st (fs.toList.map fun f => (f.offset, cellsOf P f.type, f.type)) (cmpOk P t fs)⟩ else none
     | .array n e => if (P.info? e).isSome = true then some ⟨i.size, true, z.cells.toList, .ar n (cellsOf P e) e⟩ else none
     | .slice e => if (P.info? e).isSome = true then some ⟨i.size, false, z.cells.toList, .sl (cellsOf P e) e⟩ else none
     | .int k => some ⟨i.size, false, z.cells.toList, .it k⟩
     | .bool => some ⟨i.size, false, z.cells.toList, .bo⟩
     | .string => some ⟨i.size, false, z.cells.toList, .str⟩
     | .pointer _ => some ⟨i.size, false, z.cells.toList, .pt⟩
     | .func _ _ _ => some ⟨i.size, false, z.cells.toList, .fu⟩
     | .interface _ => some ⟨i.size, false, z.cells.toList, .ifc⟩
     | _ => some ⟨i.size, false, z.cells.toList, .other⟩
 | _, _ => none
inductive HE where
 | c (k : Nat) (l : List Value) (t : TypeId)
 | r (l : List Value) (t : TypeId) (z : Nat × Nat)
 | o (k : Nat) (x : Obj)
def HE.kind : HE → Nat
 | .c k _ _ => k
 | .r _ _ _ => 0
 | .o k _ => k
def HE.obj : HE → Obj
 | .c _ l t => .cells l.toArray t
 | .r l t z => .cells l.toArray t z
 | .o _ x => x
def HE.cs : HE → Option (List Value)
 | .c _ l _ => some l
 | .r l _ _ => some l
 | .o _ _ => none
def Inj (β : Nat → Nat) : Prop := ∀ i j, β i = β j → i = j
structure HOk (w0 : World) (β : Nat → Nat) (hp : List HE) (w : World) : Prop where
 os : w.os = w0.os
 tape : w.tape = w0.tape
 output : w.output = w0.output
 size : w0.heap.size ≤ w.heap.size
 obj : ∀ i e, hp[i]? = some e → w.heap[β i]? = some e.obj
 fresh : ∀ i e, hp[i]? = some e → e.kind = 2 → w0.heap.size ≤ β i
 old : ∀ r, r < w0.heap.size → (∀ i e, hp[i]? = some e → e.kind = 1 → β i ≠ r) → w.heap[r]? = w0.heap[r]?
open Classical in
noncomputable def lk (β : Nat → Nat) (b : Nat) (hp : List HE) : Option HE :=
 if h : ∃ i, i < hp.length ∧ β i = b then hp[h.choose]? else none
theorem zak {β : Nat → Nat} (hβ : Inj β) (i : Nat) (hp : List HE) : lk β (β i) hp = hp[i]? := by
 unfold lk
 split
 ·rename_i h
  rw [hβ _ _ h.choose_spec.2]
 ·rename_i h
  rcases Nat.lt_or_ge i hp.length with h' | h'
  ·exact absurd ⟨i, h', rfl⟩ h
  ·rw [List.getElem?_eq_none h']
theorem lk_some {β : Nat → Nat} {b : Nat} {hp : List HE} {e : HE} (h : lk β b hp = some e) : ∃ i, β i = b ∧ hp[i]? = some e := by
 unfold lk at h
 split at h
 ·rename_i h'
  exact ⟨_, h'.choose_spec.2, h⟩
 ·cases h
open Classical in
noncomputable def ix (β : Nat → Nat) (b : Nat) : Nat := if h : ∃ i, β i = b then h.choose else 0
theorem zaj {β : Nat → Nat} (hβ : Inj β) (i : Nat) : ix β (β i) = i := by
 unfold ix
 have h : ∃ j, β j = β i := ⟨i, rfl⟩
 rw [dif_pos h]; exact hβ _ _ h.choose_spec
def evx (fr : List Value) : Operand → Value
 | .tmp t => fr.getD t undef
 | .const v => v
 | .global g => .pointer (some ⟨g, 0, none⟩)
 | .func f => .func (.func f) #[] #[]
def put (fr : List Value) (d : Option Tmp) (v : Value) : List Value :=
 match d with
 | some d => fr.set d v
 | none => fr
def pk (b : Bool) (x y : Value) : Value := if b then x else y
def gd (b : Bool) (A B : Prop) : Prop := (b = true → A) ∧ (b = false → B)
def splice (l : List Value) (off : Nat) (cs : List Value) : List Value := l.take off ++ cs ++ l.drop (off + cs.length)
def one : Value → Bool
 | .agg _ | .tuple _ => false
 | _ => true
def fillx (place : Nat → Option (Nat × Nat)) (cells : List Value) : List (Nat × Value) → Option (List Value)
 | [] => some cells
 | (i, v) :: rest =>
   match place i with
   | none => none
   | some (off, size) =>
     if v.cells.size ≠ size ∨ off + v.cells.size > cells.length then none
     else fillx place (splice cells off v.cells.toList) rest
inductive Res where
 | val (v : Value)
 | need (φ : Prop) (v : Value)
 | mem (φ : Prop) (v : Value) (hp : List HE)
 | call (f : FuncId) (args : List Value)
 | leaf
def partx (P : Program) (t : TypeId) (xs : List Value) (off : Nat) : Option Value :=
 match tiof P t with
 | some ti => if ti.ag = true then some (.agg ((xs.drop off).take ti.sz).toArray) else xs[off]?
 | none => none
def eqx (P : Program) : Nat → TypeId → Value → Value → Option Bool
 | 0, _, _, _ => none
 | d + 1, t, x, y =>
   match tiof P t with
   | none => none
   | some ti =>
     match ti.kd, x, y with
     | .it _, .int k a, .int k' b => if k = k' then some (a == b) else none
     | .bo, .bool a, .bool b => some (a == b)
     | .str, .string a, .string b => some (a == b)
     | .pt, .pointer none, .pointer b => some b.isNone
     | .pt, .pointer (some _), .pointer none => some false
     | .fu, .nilFunc, .nilFunc => some true
     | .fu, .func _ _ _, .nilFunc => some false
     | .fu, .nilFunc, .func _ _ _ => some false
     | .ifc, .iface _ _, .nilIface => some false
     | .ifc, .nilIface, .iface _ _ => some false
     | .st fs true, .agg xs, .agg ys => eqs fs d xs.toList ys.toList
     | _, _, _ => none
where
 eqs (fs : List (Nat × Nat × TypeId)) (d : Nat) (xs ys : List Value) : Option Bool :=
  match fs with
  | [] => some true
  | f :: r => match partx P f.2.2 xs f.1, partx P f.2.2 ys f.1 with
    | some u, some v => match eqx P d f.2.2 u v with
      | some b => (eqs r d xs ys).map (b && ·)
      | none => none
    | _, _ => none
def bitsN (op : BinOp) (k : IntKind) (a b : Int) : Nat :=
 match op with
 | .and => (BitVec.ofInt k.bits a &&& BitVec.ofInt k.bits b).toNat
 | .or => (BitVec.ofInt k.bits a ||| BitVec.ofInt k.bits b).toNat
 | .xor => (BitVec.ofInt k.bits a ^^^ BitVec.ofInt k.bits b).toNat
 | .andNot => (BitVec.ofInt k.bits a &&& ~~~BitVec.ofInt k.bits b).toNat
 | _ => 0
def bin (P : Program) (op : BinOp) (t : TypeId) (x y : Value) : Res :=
 match op, x, y with
 | .add, .int k a, .int k' b => if k = k' then .val (.int k (k.wrap (a + b))) else .leaf
 | .sub, .int k a, .int k' b => if k = k' then .val (.int k (k.wrap (a - b))) else .leaf
 | .mul, .int k a, .int k' b => if k = k' then .val (.int k (k.wrap (a * b))) else .leaf
 | .quo, .int k a, .int k' b => if k = k' then .need (b ≠ 0) (.int k (k.wrap (a.tdiv b))) else .leaf
 | .rem, .int k a, .int k' b => if k = k' then .need (b ≠ 0) (.int k (a.tmod b)) else .leaf
 | .lss, .int k a, .int k' b => if k = k' then .val (.bool (decide (a < b))) else .leaf
 | .leq, .int k a, .int k' b => if k = k' then .val (.bool (decide (a ≤ b))) else .leaf
 | .gtr, .int k a, .int k' b => if k = k' then .val (.bool (decide (a > b))) else .leaf
 | .geq, .int k a, .int k' b => if k = k' then .val (.bool (decide (a ≥ b))) else .leaf
 | .eql, .int k a, .int k' b => if k = k' then .val (.bool (a == b)) else .leaf
 | .neq, .int k a, .int k' b => if k = k' then .val (.bool (a != b)) else .leaf
 | .and, .int k a, .int k' b => if k = k' then .val (.int k (k.wrap (bitsN .and k a b))) else .leaf
 | .or, .int k a, .int k' b => if k = k' then .val (.int k (k.wrap (bitsN .or k a b))) else .leaf
 | .xor, .int k a, .int k' b => if k = k' then .val (.int k (k.wrap (bitsN .xor k a b))) else .leaf
 | .andNot, .int k a, .int k' b => if k = k' then .val (.int k (k.wrap (bitsN .andNot k a b))) else .leaf
 | .shl, .int k a, .int _ b => .need (0 ≤ b) (.int k (k.wrap (a * 2 ^ (min b.toNat k.bits))))
 | .shr, .int k a, .int _ b => .need (0 ≤ b) (.int k (a.fdiv (2 ^ (min b.toNat k.bits))))
 | .eql, .string a, .string b => .val (.bool (a == b))
 | .neq, .string a, .string b => .val (.bool (a != b))
 | .eql, x, y => match eqx P 10000 t x y with
   | some b => .val (.bool b)
   | none => .leaf
 | .neq, x, y => match eqx P 10000 t x y with
   | some b => .val (.bool (!b))
   | none => .leaf
 | _, _, _ => .leaf
noncomputable def inxA (P : Program) (n : Int) (len e : Nat) (et : TypeId) : Value → Res
 | .agg cs => match partx P et cs.toList (n.toNat * e) with
   | some v => .need (0 ≤ n ∧ n < len) v
   | none => .leaf
 | _ => .leaf
noncomputable def inxS (n : Int) : Value → Res
 | .string s => .need (0 ≤ n ∧ n < s.size) (.int .u8 (s.data.toList.getD n.toNat 0).toNat)
 | _ => .leaf
noncomputable def inxK (P : Program) (n : Int) : TK → Value → Res
 | .ar len e et => inxA P n len e et
 | .str => inxS n
 | _ => fun _ => .leaf
noncomputable def opx (P : Program) (β : Nat → Nat) (op : Op) (fr : List Value) (hp : List HE) : Res :=
 match op with
 | .move x => .val (evx fr x)
 | .assign x => .val (evx fr x)
 | .pick c a b => match evx fr c with
   | .bool t => .val (pk t (evx fr a) (evx fr b))
   | _ => .leaf
 | .alloc t => match tiof P t with
   | some ti => .mem True (.pointer (some ⟨β hp.length, 0, none⟩)) (hp ++ [.c 2 ti.zero t])
   | none => .leaf
 | .box t x => .mem True (.pointer (some ⟨β hp.length, 0, none⟩)) (hp ++ [.c 2 (evx fr x).cells.toList t])
 | .load t a => match evx fr a with
   | .pointer (some ⟨b, off, none⟩) => match (lk β b hp).bind HE.cs with
     | some l => match tiof P t with
       | some ti => if ti.ag = true then .need (off + ti.sz ≤ l.length) (.agg ((l.drop off).take ti.sz).toArray) else match l[off]? with
         | some v => .val v
         | none => .leaf
       | none => .leaf
     | none => .leaf
   | _ => .leaf
 | .store t a x => match evx fr a with
   | .pointer (some ⟨b, off, none⟩) => match lk β b hp with
     | some (.c k l ty) => match tiof P t with
       | some ti => .mem ((k = 1 ∨ k = 2) ∧ (evx fr x).cells.size = ti.sz ∧ (evx fr x).cells.toList.all one = true ∧ off + ti.sz ≤ l.length) undef
        (hp.set (ix β b) (.c k (splice l off (evx fr x).cells.toList) ty))
       | none => .leaf
     | _ => .leaf
   | _ => .leaf
 | .fieldAddr s x f => match evx fr x with
   | .pointer (some ⟨b, off, sp⟩) => match tiof P s with
     | some ⟨_, _, _, .st fs _⟩ => match fs[f]? with
       | some (d, n, _) => if n = 0 then .leaf else .val (.pointer (some (Addr.add ⟨b, off, sp⟩ d)))
       | none => .leaf
     | _ => .leaf
   | _ => .leaf
 | .nilCheck x => match evx fr x with
   | .pointer (some a) => .val (.pointer (some a))
   | .func (.func g) a b => .val (.func (.func g) a b)
   | _ => .leaf
 | .binOp op t x y _ => bin P op t (evx fr x) (evx fr y)
 | .unOp op _ x => match op, evx fr x with
   | .not, .bool b => .val (.bool (!b))
   | .neg, .int k n => .val (.int k (k.wrap (0 - n)))
   | _, _ => .leaf
 | .extract x i => match evx fr x with
   | .tuple vs => match vs.toList[i]? with
     | some v => .val v
     | none => .leaf
   | _ => .leaf
 | .build t ps => match tiof P t with
   | some ⟨_, _, z, .st fs _⟩ => match fillx (fun i => (fs[i]?).map fun f => (f.1, f.2.1)) z (ps.toList.map fun q => (q.1, evx fr q.2)) with
     | some l => .val (.agg l.toArray)
     | none => .leaf
   | some ⟨_, _, z, .ar _ e _⟩ => match fillx (fun i => some (i * e, e)) z (ps.toList.map fun q => (q.1, evx fr q.2)) with
     | some l => .val (.agg l.toArray)
     | none => .leaf
   | _ => .leaf
 | .buildSlice t n ps => match tiof P t, ps.toList with
   | some ⟨_, _, _, .sl e et⟩, [(m, x)] => if n = 1 ∧ m = 0 then .mem (e ≠ 0 ∧ e ≤ 16777216 ∧ (evx fr x).cells.size = e ∧ (tiof P et).isSome = true) (.slice (some ⟨β hp.length, 0, none⟩) 1 1) (hp ++ [.c 2 (evx fr x).cells.toList et]) else .leaf
   | _, _ => .leaf
 | .makeFunc fn a b => .val (.func fn (a.toList.map (evx fr)).toArray (b.toList.map (evx fr)).toArray)
 | .makeInterface t x => match tiof P t with
   | some ⟨_, _, _, .it _⟩ => .val (.iface t (evx fr x))
   | _ => .leaf
 | .indexAddr t x i => match evx fr i with
   | .int _ n => match tiof P t, evx fr x with
     | some ⟨_, _, _, .sl e _⟩, .slice (some ⟨b, off, sp⟩) len _ => .need (0 ≤ n ∧ n < len) (.pointer (some (Addr.add ⟨b, off, sp⟩ (n.toNat * e))))
     | some ⟨_, _, _, .ar len e _⟩, .pointer (some ⟨b, off, sp⟩) => .need (0 ≤ n ∧ n < len) (.pointer (some (Addr.add ⟨b, off, sp⟩ (n.toNat * e))))
     | _, _ => .leaf
   | _ => .leaf
 | .index t x i => match evx fr i with
   | .int _ n => match tiof P t with
     | some ti => inxK P n ti.kd (evx fr x)
     | none => .leaf
   | _ => .leaf
 | .call { callee := .value f, args := xs, argTypes := _ } => match evx fr f with
   | .func (.func g) a b => .call g (a.toList ++ xs.toList.map (evx fr) ++ b.toList)
   | _ => .leaf
 | .call { callee := .builtin .len, args := xs, argTypes := ts } => match xs.toList.map (evx fr), ts.toList with
   | [.slice _ n _], [t] => match tiof P t with
     | some ⟨_, _, _, .sl _ _⟩ => .val (.int .i64 n)
     | _ => .leaf
   | [.string b], [t] => match tiof P t with
     | some ⟨_, _, _, .str⟩ => .val (.int .i64 b.size)
     | _ => .leaf
   | _, _ => .leaf
 | .convert s d x => match evx fr x, tiof P d, tiof P s with
   | .int _ n, some ⟨_, _, _, .it k⟩, some _ => .val (.int k (k.wrap n))
   | .string b, some ⟨_, _, _, .str⟩, some _ => .val (.string b)
   | _, _, _ => .leaf
 | _ => .leaf
structure Cx where
 P : Program
 f : FuncId
 fn : Func
 w0 : World
 R : Ending → World → Prop
def slotOf (all : List Oper) (j : Nat) : Option Tmp := (all[j]?).bind (·.dst)
def fnOk (P : Program) (f : FuncId) : Bool :=
 match P.funcs[f]? with
 | some fn => fn.name != "runtime.NumGoroutine" && fn.body.isSome
 | none => false
noncomputable def resx (P : Program) (β : Nat → Nat) (rs : List ResultVar) (fr : List Value) (hp : List HE) : Option (List Value) :=
 match rs with
 | [] => some []
 | .tmp t :: r => (resx P β r fr hp).map (fr.getD t undef :: ·)
 | .cell a t :: r => match fr.getD a undef with
   | .pointer (some ⟨b, off, none⟩) => match lk β b hp with
     | some (.c _ l _) => match tiof P t with
       | some ti => if ti.ag = true then (if off + ti.sz ≤ l.length then (resx P β r fr hp).map (.agg ((l.drop off).take ti.sz).toArray :: ·) else none) else match l[off]? with
         | some v => (resx P β r fr hp).map (v :: ·)
         | none => none
       | none => none
     | _ => none
   | _ => none
def tupx : List Value → Value
 | [v] => v
 | l => .tuple l.toArray
def Agree (n : Nat) (β β' : Nat → Nat) : Prop := ∀ i, i < n → β' i = β i
def RetX (C : Cx) (β : Nat → Nat) (hp : List HE) (r : Option (List Value)) : Prop :=
 match r with
 | some l => ∀ w, HOk C.w0 β hp w → C.R (.returned (tupx l)) w
 | none => False
def Goes (C : Cx) (todo : List Item) (a : Act) (w : World) : Prop :=
 ∀ cs, ∃ e w' fr, C.R e w' ∧ Comes C.P (lone (({ (default : Frame) with fn := C.f, kind := .normal } : Frame).at a todo) cs w) (lone fr cs w') e ∧ fr.fn = C.f ∧ fr.leaving C.P w' e
def GoX (C : Cx) (β : Nat → Nat) (hp : List HE) (fr : List Value) (todo : List Item) : Prop :=
 ∀ w, HOk C.w0 β hp w → Goes C todo ⟨fr.toArray, []⟩ w
def CallX (C : Cx) (β : Nat → Nat) (hp : List HE) (f : FuncId) (args : List Value) (K : Value → List HE → (Nat → Nat) → Prop) : Prop :=
 ∀ w, HOk C.w0 β hp w → Calls C.P f args.toArray w fun e w' => match e with
   | .returned v => ∃ hp' β', HOk C.w0 β' hp' w' ∧ Inj β' ∧ Agree hp.length β β' ∧ ∀ β'', Inj β'' → Agree hp'.length β' β'' → K v hp' β''
   | .panicked ch => C.R (.panicked ch) w'
   | .outgrown => False
def OpX (C : Cx) (β : Nat → Nat) (hp : List HE) (fr : List Value) (o : Oper) (K : Value → List HE → (Nat → Nat) → Prop) : Prop :=
 ∀ w, HOk C.w0 β hp w → (∃ v w', ((execOp (evx fr) o).run C.P w = .ok (.value v) w' ∨ ((execOp (evx fr) o).run C.P w = .ok .skip w' ∧ v = undef)) ∧
   ∃ hp' β', HOk C.w0 β' hp' w' ∧ Inj β' ∧ Agree hp.length β β' ∧ ∀ β'', Inj β'' → Agree hp'.length β' β'' → K v hp' β'') ∨
   (∃ v w', (execOp (evx fr) o).run C.P w = .halt (.panic v) w' ∧ C.R (.panicked [{ v, recovered := false }]) w')
def hold (k : Nat) : Nat := k
inductive Stp where
 | go (todo : List Item)
 | br (b : Bool) (t1 : List Item) (f1 : List Value) (t2 : List Item) (f2 : List Value)
 | reg (ops : List Oper) (todo : List Item)
 | ret
 | leaf
 | bad
def stepI (i : Item) (todo : List Item) (fr : List Value) : Stp :=
 match i with
 | .inBlock _ => .go todo
 | .inScope _ => .go todo
 | .code c => match c with
   | .ret => .ret
   | .skip => .go todo
   | .label _ => .go todo
   | .seq a b => .go (.code a :: .code b :: todo)
   | .block id c => .go (.code c :: .inBlock id :: todo)
   | .scope c => .go (.code c :: .inScope c :: todo)
   | .cond c x y => match evx fr c with
     | .bool b => match c with
       | .tmp t => .br b (.code x :: todo) (fr.set t (.bool true)) (.code y :: todo) (fr.set t (.bool false))
       | _ => .br b (.code x :: todo) fr (.code y :: todo) fr
     | _ => .bad
   | .exit id => match exitTo id todo with
     | some t => .go t
     | none => .bad
   | .goto l => match gotoIn l todo with
     | some t => .go t
     | none => .bad
   | .region _ ops draw => if draw = true then .leaf else .reg ops.toList todo
   | _ => .leaf
 | _ => .leaf
noncomputable def run (C : Cx) : (Nat → Nat) → Nat → List Oper → List Oper → List Item → List Value → List HE → Prop
 | _, 0, _, _, _, _, _ => False
 | β, k + 1, all, o :: rest, todo, fr, hp =>
   match o.guard with
   | none => match opx C.P β o.op fr hp with
     | .val v => run C β k all rest todo (put fr o.dst v) hp
     | .need φ v => φ ∧ run C β k all rest todo (put fr o.dst v) hp
     | .mem φ v hp' => φ ∧ run C β k all rest todo (put fr o.dst v) hp'
     | .call f args => fnOk C.P f = true ∧ CallX C β hp f args (fun v hp' β' => run C β' (hold k) all rest todo (put fr o.dst v) hp')
     | .leaf => OpX C β hp fr o (fun v hp' β' => run C β' (hold k) all rest todo (put fr o.dst v) hp')
   | some (j, want) => match slotOf all j with
     | none => False
     | some t => match fr.getD t undef with
       | .bool b => gd b
        (if want = true then run C β k all (⟨o.dst, o.op, o.type, o.pos, o.after, none⟩ :: rest) todo (fr.set t (.bool true)) hp else run C β k all rest todo (put (fr.set t (.bool true)) o.dst undef) hp)
        (if want = true then run C β k all rest todo (put (fr.set t (.bool false)) o.dst undef) hp else run C β k all (⟨o.dst, o.op, o.type, o.pos, o.after, none⟩ :: rest) todo (fr.set t (.bool false)) hp)
       | _ => run C β k all rest todo (put fr o.dst undef) hp
 | β, _ + 1, _, [], [], fr, hp => RetX C β hp (resx C.P β C.fn.results.toList fr hp)
 | β, k + 1, _, [], i :: todo, fr, hp =>
   match stepI i todo fr with
   | .go t => run C β k [] [] t fr hp
   | .br b t1 f1 t2 f2 => gd b (run C β k [] [] t1 f1 hp) (run C β k [] [] t2 f2 hp)
   | .reg ops t => run C β k ops ops t fr hp
   | .ret => RetX C β hp (resx C.P β C.fn.results.toList fr hp)
   | .leaf => GoX C β hp fr (i :: todo)
   | .bad => False
end Go.Gx
