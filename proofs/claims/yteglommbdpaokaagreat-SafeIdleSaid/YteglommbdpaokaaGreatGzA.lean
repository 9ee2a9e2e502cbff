/- An evaluator that the kernel runs: abstract values are the model's own, with the blocks' places in a tree for their addresses. Definitions. -/
import Derived.Test.YteglommbdpaokaaGreatGxA
namespace Go.Gz
open Go Go.Gx
noncomputable def cnd {β : Type} (b : Bool) (x y : β) : β := @Bool.rec (fun _ => β) y x b
structure N8 (α : Type) where
 a : α
 b : α
 c : α
 d : α
 e : α
 f : α
 g : α
 h : α
structure Sel (α : Type) where
 f : N8 α → α
structure Upd (α : Type) where
 f : (α → α) → N8 α → N8 α
noncomputable def sel {α : Type} (i : Nat) : Sel α := @Nat.rec (fun _ => Sel α) ⟨fun x => x.a⟩ (fun i0 _ => @Nat.rec (fun _ => Sel α) ⟨fun x => x.b⟩ (fun i1 _ => @Nat.rec (fun _ => Sel α) ⟨fun x => x.c⟩ (fun i2 _ => @Nat.rec (fun _ => Sel α) ⟨fun x => x.d⟩ (fun i3 _ => @Nat.rec (fun _ => Sel α) ⟨fun x => x.e⟩ (fun i4 _ => @Nat.rec (fun _ => Sel α) ⟨fun x => x.f⟩ (fun i5 _ => @Nat.rec (fun _ => Sel α) ⟨fun x => x.g⟩ (fun _ _ => ⟨fun x => x.h⟩) i5) i4) i3) i2) i1) i0) i
noncomputable def updr {α : Type} (i : Nat) : Upd α := @Nat.rec (fun _ => Upd α) ⟨fun z x => @N8.rec α (fun _ => N8 α) (fun a b c d e f g h => .mk (z a) b c d e f g h) x⟩ (fun i0 _ => @Nat.rec (fun _ => Upd α) ⟨fun z x => @N8.rec α (fun _ => N8 α) (fun a b c d e f g h => .mk a (z b) c d e f g h) x⟩ (fun i1 _ => @Nat.rec (fun _ => Upd α) ⟨fun z x => @N8.rec α (fun _ => N8 α) (fun a b c d e f g h => .mk a b (z c) d e f g h) x⟩ (fun i2 _ => @Nat.rec (fun _ => Upd α) ⟨fun z x => @N8.rec α (fun _ => N8 α) (fun a b c d e f g h => .mk a b c (z d) e f g h) x⟩ (fun i3 _ => @Nat.rec (fun _ => Upd α) ⟨fun z x => @N8.rec α (fun _ => N8 α) (fun a b c d e f g h => .mk a b c d (z e) f g h) x⟩ (fun i4 _ => @Nat.rec (fun _ => Upd α) ⟨fun z x => @N8.rec α (fun _ => N8 α) (fun a b c d e f g h => .mk a b c d e (z f) g h) x⟩ (fun i5 _ => @Nat.rec (fun _ => Upd α) ⟨fun z x => @N8.rec α (fun _ => N8 α) (fun a b c d e f g h => .mk a b c d e f (z g) h) x⟩ (fun _ _ => ⟨fun z x => @N8.rec α (fun _ => N8 α) (fun a b c d e f g h => .mk a b c d e f g (z h)) x⟩) i5) i4) i3) i2) i1) i0) i
noncomputable def pick {α : Type} (i : Nat) (x : N8 α) : α := (sel i).f x
noncomputable def upd {α : Type} (i : Nat) (z : α → α) (x : N8 α) : N8 α := (updr i).f z x
noncomputable def all8 {α : Type} (x : α) : N8 α := ⟨x, x, x, x, x, x, x, x⟩
abbrev Tm := N8 (N8 (N8 Value))
noncomputable def Tm.none : Tm := all8 (all8 (all8 undef))
noncomputable def slot (t : Tm) (k : Nat) : Value := pick (Nat.mod k 8) (pick (Nat.mod (Nat.div k 8) 8) (pick (Nat.div k 64) t))
noncomputable def Tm.set (t : Tm) (k : Nat) (v : Value) : Tm := upd (Nat.div k 64) (upd (Nat.mod (Nat.div k 8) 8) (upd (Nat.mod k 8) fun _ => v)) t
noncomputable def Tm.ofList (t : Tm) : Nat → List Value → Tm
 | _, [] => t
 | k, a :: l => Tm.ofList (t.set k a) (k + 1) l
abbrev Tb (α : Type) := N8 (N8 (N8 (N8 (Option α))))
noncomputable def Tb.none {α : Type} : Tb α := all8 (all8 (all8 (all8 Option.none)))
noncomputable def Tb.get {α : Type} (t : Tb α) (k : Nat) : Option α := pick (Nat.mod k 8) (pick (Nat.mod (Nat.div k 8) 8) (pick (Nat.mod (Nat.div k 64) 8) (pick (Nat.div k 512) t)))
noncomputable def Tb.set {α : Type} (t : Tb α) (k : Nat) (v : α) : Tb α := upd (Nat.div k 512) (upd (Nat.mod (Nat.div k 64) 8) (upd (Nat.mod (Nat.div k 8) 8) (upd (Nat.mod k 8) fun _ => some v))) t
noncomputable def Tb.ofList {α : Type} (t : Tb α) : Nat → List α → Tb α
 | _, [] => t
 | k, a :: l => Tb.ofList (t.set k a) (k + 1) l
noncomputable def ftab (P : Program) : Tb Func := Tb.ofList .none 0 P.funcs.toList
noncomputable def ttab (P : Program) : Tb TypeInfo := Tb.ofList .none 0 P.types.toList
noncomputable def infoT (P : Program) (t : TypeId) : Option TypeInfo := cnd (Nat.blt t 4096) ((ttab P).get t) none
noncomputable def underT (P : Program) (t : TypeId) : Option TypeDesc :=
 match infoT P t with
 | some i => match i.desc with
   | .named _ u => (infoT P u).map (·.desc)
   | d => some d
 | none => none
noncomputable def cellsT (P : Program) (t : TypeId) : Nat := match infoT P t with
 | some i => i.size
 | none => 0
noncomputable def fieldsT (P : Program) : List Field → Option (List (Nat × Nat × TypeId))
 | [] => some []
 | f :: r => match infoT P f.type, fieldsT P r with
   | some i, some l => some ((f.offset, i.size, f.type) :: l)
   | _, _ => none
noncomputable def zas : Value → Bool
 | .bool _ | .int _ _ | .string _ | .pointer none | .slice none _ _ | .map none | .chan none | .nilFunc | .nilIface => true
 | .agg l | .tuple l => l.toList.isEmpty
 | _ => false
noncomputable def allPlain : List Value → Bool
 | [] => true
 | v :: l => cnd (zas v) (allPlain l) false
noncomputable def ti0 (P : Program) (t : TypeId) : Option TI :=
 match infoT P t, underT P t with
 | some i, some d => match i.zero with
   | none => none
   | some z => match d with
     | .struct fs => match fieldsT P fs.toList with
       | some l => some ⟨i.size, true, z.cells.toList, .st l (cmpOk P t fs)⟩
       | none => none
     | .array n e => match infoT P e with
       | some j => some ⟨i.size, true, z.cells.toList, .ar n j.size e⟩
       | none => none
     | .slice e => match infoT P e with
       | some j => some ⟨i.size, false, z.cells.toList, .sl j.size e⟩
       | none => none
     | .int k => some ⟨i.size, false, z.cells.toList, .it k⟩
     | .bool => some ⟨i.size, false, z.cells.toList, .bo⟩
     | .string => some ⟨i.size, false, z.cells.toList, .str⟩
     | .pointer _ => some ⟨i.size, false, z.cells.toList, .pt⟩
     | .func _ _ _ => some ⟨i.size, false, z.cells.toList, .fu⟩
     | .interface _ => some ⟨i.size, false, z.cells.toList, .ifc⟩
     | _ => some ⟨i.size, false, z.cells.toList, .other⟩
 | _, _ => none
noncomputable def ti (P : Program) (t : TypeId) : Option TI :=
 match ti0 P t with
 | some x => cnd (allPlain x.zero) (some x) none
 | none => none
inductive AObj where
 | cells (l : List Value) (t : TypeId) (gr : Bool)
 | map (es : List MapEntry) (clock : Nat)
 | sit (s : ByteArray) (pos : Nat)
 | mit (m : Option Nat) (since : Nat) (seen : List Nat) (stepped : Nat)
 | loop (st : LoopState) (pend : Option Code) (fn : FuncId) (nt : Nat) (tm : Tm) (params : List Tmp) (assign body : Code) (dfs : Nat)
 | dfr (l : Option (List Deferred))
 | kb (dec : Value → Option Bool)
 | garr (v : Value) (t : TypeId)
 | dead
inductive AI where
 | code (c : Code)
 | blk (id : Nat)
 | lp (body : Code)
 | sc (body : Code)
 | ops (all rest : List Oper)
 | rf (l : Nat)
 | erf (l : Nat)
 | br
abbrev Hp := N8 (N8 (N8 (N8 (N8 AObj))))
noncomputable def Hp.none : Hp := all8 (all8 (all8 (all8 (all8 .dead))))
noncomputable def Hp.get (t : Hp) (k : Nat) : AObj := pick (Nat.mod k 8) (pick (Nat.mod (Nat.div k 8) 8) (pick (Nat.mod (Nat.div k 64) 8) (pick (Nat.mod (Nat.div k 512) 8) (pick (Nat.div k 4096) t))))
noncomputable def Hp.set (t : Hp) (k : Nat) (v : AObj) : Hp := upd (Nat.div k 4096) (upd (Nat.mod (Nat.div k 512) 8) (upd (Nat.mod (Nat.div k 64) 8) (upd (Nat.mod (Nat.div k 8) 8) (upd (Nat.mod k 8) fun _ => v)))) t
structure X where
 fn : FuncId
 nt : Nat
 dfs : List Deferred
 kind : CallKind
 rnd : Option Nat
structure AF where
 x : X
 mode : FrameMode
 todo : List AI
 tm : Tm
structure S where
 x : X
 mode : FrameMode
 todo : List AI
 tm : Tm
 cs : List AF
 n : Nat
 hp : Hp
noncomputable def ev (tm : Tm) : Operand → Value
 | .tmp t => slot tm t
 | .const v => v
 | .global _ => undef
 | .func f => .func (.func f) #[] #[]
noncomputable def evs (tm : Tm) : List Operand → List Value
 | [] => []
 | x :: r => ev tm x :: evs tm r
noncomputable def putx (tm : Tm) (d : Option Tmp) (v : Value) : Tm :=
 match d with
 | some d => tm.set d v
 | none => tm
inductive R where
 | val (v : Value)
 | mem (v : Value) (hp : Hp)
 | new (v : Value) (hp : Hp) (o : AObj)
 | enter (f : FuncId) (args : List Value)
 | rnd (l : Nat) (args : List Value)
 | dfr (d : Deferred)
 | rcv
 | pan (v : Value)
 | need (c : Value)
 | bad
noncomputable def kEq : IntKind → IntKind → Bool
 | .i8, .i8 | .i16, .i16 | .i32, .i32 | .i64, .i64 | .u8, .u8 | .u16, .u16 | .u32, .u32 | .u64, .u64 => true
 | _, _ => false
noncomputable def veqL (f : Value → Value → Bool) : List Value → List Value → Bool
 | [], [] => true
 | a :: l, b :: r => cnd (f a b) (veqL f l r) false
 | _, _ => false
noncomputable def natsEq : List UInt8 → List UInt8 → Bool
 | [], [] => true
 | a :: l, b :: r => cnd (Nat.beq a.toNat b.toNat) (natsEq l r) false
 | _, _ => false
noncomputable def addrEq : Option Addr → Option Addr → Bool
 | none, none => true
 | some ⟨b, o, none⟩, some ⟨b', o', none⟩ => Nat.beq b b' && Nat.beq o o'
 | some ⟨b, o, some s⟩, some ⟨b', o', some s'⟩ => Nat.beq b b' && (Nat.beq o o' && Nat.beq s s')
 | _, _ => false
noncomputable def onatEq : Option Nat → Option Nat → Bool
 | none, none => true
 | some b, some b' => Nat.beq b b'
 | _, _ => false
noncomputable def veq : Nat → Value → Value → Bool :=
 @Nat.rec (fun _ => Value → Value → Bool) (fun _ _ => false) (fun _ rec v => match v with
  | .bool a => fun u => match u with
    | .bool b => cnd a b (!b)
    | _ => false
  | .int k a => fun u => match u with
    | .int k' b => kEq k k' && decide (a = b)
    | _ => false
  | .string a => fun u => match u with
    | .string b => natsEq a.data.toList b.data.toList
    | _ => false
  | .pointer a => fun u => match u with
    | .pointer b => addrEq a b
    | _ => false
  | .slice a l c => fun u => match u with
    | .slice a' l' c' => addrEq a a' && (Nat.beq l l' && Nat.beq c c')
    | _ => false
  | .map a => fun u => match u with
    | .map b => onatEq a b
    | _ => false
  | .nilFunc => fun u => match u with
    | .nilFunc => true
    | _ => false
  | .nilIface => fun u => match u with
    | .nilIface => true
    | _ => false
  | .func (.func g) a b => fun u => match u with
    | .func (.func g') a' b' => Nat.beq g g' && (veqL rec a.toList a'.toList && veqL rec b.toList b'.toList)
    | _ => false
  | .func (.yield g) a b => fun u => match u with
    | .func (.yield g') a' b' => Nat.beq g g' && (veqL rec a.toList a'.toList && veqL rec b.toList b'.toList)
    | _ => false
  | .func (.methodOf g s) a b => fun u => match u with
    | .func (.methodOf g' s') a' b' => Nat.beq g g' && (veqL rec a.toList a'.toList && (a'.size == a.size && (b.isEmpty && (b'.isEmpty && s == s'))))
    | _ => false
  | .iface t a => fun u => match u with
    | .iface t' b => Nat.beq t t' && rec a b
    | _ => false
  | .agg a => fun u => match u with
    | .agg b => veqL rec a.toList b.toList
    | _ => false
  | .tuple a => fun u => match u with
    | .tuple b => veqL rec a.toList b.toList
    | _ => false
  | _ => fun _ => false)
noncomputable def optv : Option Value → R
 | some v => .val v
 | none => .bad
noncomputable def zao (op : BinOp) (k : IntKind) (a b : Int) : Option Value :=
 match op with
 | .add => some (.int k (k.wrap (a + b)))
 | .sub => some (.int k (k.wrap (a - b)))
 | .mul => some (.int k (k.wrap (a * b)))
 | .quo => if b = 0 then none else some (.int k (k.wrap (a.tdiv b)))
 | .rem => if b = 0 then none else some (.int k (a.tmod b))
 | .lss => some (.bool (decide (a < b)))
 | .leq => some (.bool (decide (a ≤ b)))
 | .gtr => some (.bool (decide (a > b)))
 | .geq => some (.bool (decide (a ≥ b)))
 | .eql => some (.bool (a == b))
 | .neq => some (.bool (a != b))
 | .and => some (.int k (k.wrap (bitsN .and k a b)))
 | .or => some (.int k (k.wrap (bitsN .or k a b)))
 | .xor => some (.int k (k.wrap (bitsN .xor k a b)))
 | .andNot => some (.int k (k.wrap (bitsN .andNot k a b)))
 | _ => none
noncomputable def shBin (op : BinOp) (k : IntKind) (a b : Int) : Option Value :=
 match op with
 | .shl => if b < 0 then none else some (.int k (k.wrap (a * 2 ^ (min b.toNat k.bits))))
 | .shr => if b < 0 then none else some (.int k (a.fdiv (2 ^ (min b.toNat k.bits))))
 | _ => none
noncomputable def strBin (op : BinOp) (a b : ByteArray) : Option Value :=
 match op with
 | .eql => some (.bool (a.data.toList == b.data.toList))
 | .neq => some (.bool (!(a.data.toList == b.data.toList)))
 | .add => cnd (Nat.ble (a.size + b.size) 1048576) (some (.string (a ++ b))) none
 | _ => none
noncomputable def allB {α : Type} (f : α → Bool) : List α → Bool
 | [] => true
 | a :: l => cnd (f a) (allB f l) false
noncomputable def kCode : IntKind → Nat
 | .i8 => 0 | .i16 => 1 | .i32 => 2 | .i64 => 3 | .u8 => 4 | .u16 => 5 | .u32 => 6 | .u64 => 7
noncomputable def codeK (s : Nat) : Option IntKind :=
 cnd (Nat.beq s 3) (some .i64) (cnd (Nat.beq s 7) (some .u64) (cnd (Nat.beq s 0) (some .i8) (cnd (Nat.beq s 1) (some .i16) (cnd (Nat.beq s 2) (some .i32) (cnd (Nat.beq s 4) (some .u8) (cnd (Nat.beq s 5) (some .u16) (cnd (Nat.beq s 6) (some .u32) none)))))))
noncomputable def wfK (k : IntKind) (n : Int) : Bool := decide (k.wrap n = n)
noncomputable def srt (s : Nat) (v : Value) : Bool :=
 match v with
 | .int k n => cnd (Nat.beq s (kCode k)) (wfK k n) (Nat.beq s 12)
 | .bool _ => cnd (Nat.beq s 8) true (Nat.beq s 12)
 | .string _ => cnd (Nat.beq s 9) true (Nat.beq s 12)
 | .pointer (some _) => cnd (Nat.beq s 10) true (Nat.beq s 12)
 | .slice _ n _ => cnd (Nat.beq s 11) (Nat.blt n 9223372036854775808) (Nat.beq s 12)
 | .agg _ => false
 | .tuple _ => false
 | _ => Nat.beq s 12
noncomputable def sy (op : Nat) (l : List Value) : Value := .func (.methodOf op "") ⟨l⟩ #[]
noncomputable def isSy : Value → Bool
 | .func (.methodOf _ _) _ _ => true
 | _ => false
noncomputable def sortOf (v : Value) : Option Nat :=
 match v with
 | .int k n => cnd (wfK k n) (some (kCode k)) none
 | .bool _ => some 8
 | .string _ => some 9
 | .func fn _ _ => match fn with
   | .methodOf op _ => some (Nat.mod op 16)
   | _ => none
 | _ => none
noncomputable def binCode : BinOp → Nat
 | .add => 1 | .sub => 2 | .mul => 3 | .quo => 4 | .rem => 5 | .and => 6 | .or => 7 | .xor => 8 | .andNot => 9 | .shl => 10 | .shr => 11
 | .lss => 12 | .leq => 13 | .gtr => 14 | .geq => 15 | .eql => 16 | .neq => 17
noncomputable def isCmp : BinOp → Bool
 | .lss | .leq | .gtr | .geq | .eql | .neq => true
 | _ => false
noncomputable def isTot : BinOp → Bool
 | .add | .sub | .mul | .and | .or | .xor | .andNot => true
 | _ => false
noncomputable def opc (c s : Nat) : Nat := Nat.add (Nat.mul 16 c) s
noncomputable def decH (hp : Hp) (c : Value) : Option Bool :=
 match c with
 | .bool b => some b
 | c => match hp.get 32767 with
   | .kb f => f c
   | _ => none
noncomputable def grd (hp : Hp) (v : Value) : R :=
 match decH hp (sy (opc 63 8) [v]) with
 | some b => cnd b (.val v) .bad
 | none => .need (sy (opc 63 8) [v])
noncomputable def zsort (z : Value) : Nat :=
 match z with
 | .int k _ => kCode k
 | .bool _ => 8
 | .string _ => 9
 | .slice _ _ _ => 11
 | _ => 12
noncomputable def zsT (P : Program) (t : TypeId) : Nat :=
 match ti P t with
 | some x => (match x.zero with
   | [z] => zsort z
   | _ => 12)
 | none => 12
noncomputable def loadCs (a : Value) : Nat → List Value → List Value
 | _, [] => []
 | j, z :: l => sy (opc 40 (zsort z)) [sy (opc 45 10) [a, .int .i64 j]] :: loadCs a (j + 1) l
noncomputable def loadS (P : Program) (hp : Hp) (t : TypeId) (a : Value) : R :=
 match sortOf a, ti P t with
 | some s, some ti => cnd (Nat.beq s 10) (cnd ti.ag (cnd (Nat.beq ti.zero.length ti.sz && allB one ti.zero) (grd hp (.agg ⟨loadCs a 0 ti.zero⟩)) .bad)
  (match ti.zero with
  | [z] => grd hp (sy (opc 40 (zsort z)) [a])
  | _ => .bad)) .bad
 | _, _ => .bad
noncomputable def fieldS (hp : Hp) (a : Value) (d : Nat) : R :=
 match sortOf a with
 | some s => cnd (Nat.beq s 10) (grd hp (sy (opc 45 10) [a, .int .i64 d])) .bad
 | none => .bad
noncomputable def indexS (hp : Hp) (e : Nat) (x i : Value) : R :=
 match sortOf x, sortOf i with
 | some s, some s' => cnd (Nat.beq s 11 && Nat.blt s' 8) (grd hp (sy (opc 44 10) [x, i, .int .i64 e])) .bad
 | _, _ => .bad
noncomputable def lenS (hp : Hp) (x : Value) (kd : TK) : R :=
 match sortOf x with
 | some s => match kd with
   | .sl _ _ => cnd (Nat.beq s 11) (.val (sy (opc 42 3) [x])) .bad
   | .str => cnd (Nat.beq s 9) (grd hp (sy (opc 43 3) [x])) .bad
   | _ => .bad
 | none => .bad
noncomputable def symInt (op : BinOp) (s s' : Nat) (x y : Value) : Option Value :=
 cnd (Nat.beq s s') (cnd (isCmp op) (some (sy (opc (binCode op) 8) [x, y])) (cnd (isTot op) (some (sy (opc (binCode op) s) [x, y])) none)) none
noncomputable def symBin (op : BinOp) (x y : Value) : Option Value :=
 match sortOf x, sortOf y with
 | some s, some s' => cnd (Nat.blt s 8 && Nat.blt s' 8) (symInt op s s' x y) none
 | _, _ => none
noncomputable def symEq (lo hi : Nat) (x y : Value) : Option Value :=
 match sortOf x, sortOf y with
 | some s, some s' => cnd (Nat.beq s s' && (Nat.ble lo s && Nat.ble s hi)) (some (sy (opc 16 8) [x, y])) none
 | _, _ => none
noncomputable def conjV (c d : Value) : Option Value :=
 match d with
 | .bool true => some c
 | .bool false => some (.bool false)
 | d => cnd (isSy d) (some (sy (opc 21 8) [c, d])) none
noncomputable def notV (c : Value) : Option Value :=
 match c with
 | .bool b => some (.bool (!b))
 | c => match sortOf c with
   | some s => cnd (Nat.beq s 8) (some (sy (opc 18 8) [c])) none
   | none => none
noncomputable def partv (P : Program) (t : TypeId) (xs : List Value) (off : Nat) : Option Value :=
 match ti P t with
 | some ti => cnd ti.ag (let s := (xs.drop off).take ti.sz; cnd (Nat.beq s.length ti.sz) (some (.agg ⟨s⟩)) none) xs[off]?
 | none => none
noncomputable def eqfs (P : Program) (eq : TypeId → Value → Value → Option Value) (xs ys : List Value) : List (Nat × Nat × TypeId) → Option Value
 | [] => some (.bool true)
 | f :: r => match partv P f.2.2 xs f.1, partv P f.2.2 ys f.1 with
   | some u, some v => match eq f.2.2 u v with
     | some (.bool true) => eqfs P eq xs ys r
     | some (.bool false) => some (.bool false)
     | some c => match eqfs P eq xs ys r with
       | some d => conjV c d
       | none => none
     | none => none
   | _, _ => none
noncomputable def eqas (P : Program) (eq : TypeId → Value → Value → Option Value) (t : TypeId) (e : Nat) (xs ys : List Value) : Nat → Nat → Option Value
 | _, 0 => some (.bool true)
 | i, k + 1 => match partv P t xs (i * e), partv P t ys (i * e) with
   | some u, some v => match eq t u v with
     | some (.bool true) => eqas P eq t e xs ys (i + 1) k
     | some (.bool false) => some (.bool false)
     | some c => match eqas P eq t e xs ys (i + 1) k with
       | some d => conjV c d
       | none => none
     | none => none
   | _, _ => none
noncomputable def eqk (P : Program) (eq : TypeId → Value → Value → Option Value) (kd : TK) (x y : Value) : Option Value :=
 match kd with
 | .it _ => match x, y with
   | .int k a, .int k' b => cnd (kEq k k') (some (.bool (a == b))) none
   | x, y => symEq 0 7 x y
 | .bo => match x, y with
   | .bool a, .bool b => some (.bool (a == b))
   | x, y => symEq 8 8 x y
 | .str => match x, y with
   | .string a, .string b => some (.bool (a.data.toList == b.data.toList))
   | x, y => symEq 9 9 x y
 | .pt => match x, y with
   | .pointer none, .pointer b => some (.bool b.isNone)
   | .pointer (some _), .pointer none => some (.bool false)
   | _, _ => none
 | .fu => match x, y with
   | .nilFunc, .nilFunc => some (.bool true)
   | .func (.func _) _ _, .nilFunc => some (.bool false)
   | .nilFunc, .func (.func _) _ _ => some (.bool false)
   | _, _ => none
 | .ifc => match x, y with
   | .iface _ _, .nilIface => some (.bool false)
   | .nilIface, .iface _ _ => some (.bool false)
   | _, _ => none
 | .sl _ _ => match x, y with
   | .slice none _ _, .slice b _ _ => some (.bool b.isNone)
   | .slice (some _) _ _, .slice none _ _ => some (.bool false)
   | _, _ => none
 | .st fs c => match x, y with
   | .agg xs, .agg ys => cnd c (eqfs P eq xs.toList ys.toList fs) none
   | _, _ => none
 | .ar n e et => match x, y with
   | .agg xs, .agg ys => eqas P eq et e xs.toList ys.toList 0 n
   | _, _ => none
 | .other => none
noncomputable def eqv (P : Program) : Nat → TypeId → Value → Value → Option Value
 | 0, _, _, _ => none
 | d + 1, t, x, y =>
   match ti P t with
   | some ⟨_, _, _, kd⟩ => eqk P (eqv P d) kd x y
   | none => none
noncomputable def eqTop (P : Program) (t : TypeId) (x y : Value) : Option Value :=
 match x with
 | .agg _ => cnd (P.eqGuardType P.depth t) none (eqv P 50 t x y)
 | _ => eqv P 50 t x y
noncomputable def bothNil (P : Program) (c : Bool) (t : TypeId) (x y : Value) : Bool :=
 match x with
 | .nilIface => match y with
   | .nilIface => match ti P t with
     | some ⟨_, _, _, .ifc⟩ => c
     | _ => false
   | _ => false
 | _ => false
noncomputable def nilBin (op : BinOp) : Option Value :=
 match op with
 | .eql => some (.bool true)
 | .neq => some (.bool false)
 | _ => none
noncomputable def eqBin (P : Program) (op : BinOp) (t : TypeId) (x y : Value) : Option Value :=
 match op with
 | .eql => eqTop P t x y
 | .neq => (eqTop P t x y).bind notV
 | _ => none
noncomputable def isShift : BinOp → Bool
 | .shl | .shr => true
 | _ => false
noncomputable def symEqN (op : BinOp) (x y : Value) : Option Value :=
 match op with
 | .eql => some (sy (opc 16 8) [x, y])
 | .neq => some (sy (opc 17 8) [x, y])
 | _ => none
noncomputable def symTop (P : Program) (op : BinOp) (t : TypeId) (x y : Value) : Option Value :=
 match sortOf x, sortOf y with
 | some s, some s' => cnd (Nat.blt s 8) (cnd (Nat.blt s' 8) (symInt op s s' x y) none)
   (cnd (Nat.beq s s') (cnd (Nat.beq s 9) (symEqN op x y) (cnd (Nat.beq s 8) (match ti P t with
    | some ⟨_, _, _, kd⟩ => match kd with
      | .bo => symEqN op x y
      | _ => none
    | none => none) none)) none)
 | _, _ => none
noncomputable def binx (P : Program) (c : Bool) (op : BinOp) (t : TypeId) (x y : Value) : Option Value :=
 match x with
 | .int k a => match y with
   | .int k' b => cnd (isShift op) (shBin op k a b) (cnd (kEq k k') (zao op k a b) none)
   | y => symTop P op t (.int k a) y
 | .string a => match y with
   | .string b => strBin op a b
   | y => symTop P op t (.string a) y
 | x => cnd (isSy x || isSy y) (symTop P op t x y) (cnd (bothNil P c t x y) (nilBin op) (eqBin P op t x y))
noncomputable def symPart (hp : Hp) (op : BinOp) (x y : Value) : R :=
 match sortOf x, sortOf y with
 | some s, some s' =>
   match y with
   | .int _ b => cnd (Nat.blt s 8 && Nat.blt s' 8)
     (match op with
     | .quo => cnd (Nat.beq s s' && !decide (b = 0)) (.val (sy (opc 4 s) [x, y])) .bad
     | .rem => cnd (Nat.beq s s' && !decide (b = 0)) (.val (sy (opc 5 s) [x, y])) .bad
     | .shl => cnd (!decide (b < 0)) (.val (sy (opc 10 s) [x, y])) .bad
     | .shr => cnd (!decide (b < 0)) (.val (sy (opc 11 s) [x, y])) .bad
     | _ => .bad) .bad
   | y => match codeK s' with
     | some k => cnd (Nat.blt s 8)
       (match op with
       | .quo => cnd (Nat.beq s s') (match decH hp (sy (opc 16 8) [y, .int k 0]) with
         | some false => .val (sy (opc 4 s) [x, y])
         | some true => .bad
         | none => .need (sy (opc 16 8) [y, .int k 0])) .bad
       | .rem => cnd (Nat.beq s s') (match decH hp (sy (opc 16 8) [y, .int k 0]) with
         | some false => .val (sy (opc 5 s) [x, y])
         | some true => .bad
         | none => .need (sy (opc 16 8) [y, .int k 0])) .bad
       | _ => .bad) .bad
     | none => .bad
 | _, _ => .bad
noncomputable def cellsAt (hp : Hp) (b : Nat) : Option (List Value) :=
 match hp.get b with
 | .cells l _ _ => some l
 | _ => none
noncomputable def loadx (P : Program) (hp : Hp) (t : TypeId) (a : Value) : Option Value :=
 match a with
 | .pointer (some ⟨b, off, none⟩) =>
   match cellsAt hp b, ti P t with
   | some l, some ti =>
     cnd ti.ag (let s := (l.drop off).take ti.sz; cnd (Nat.beq s.length ti.sz) (some (.agg ⟨s⟩)) none) l[off]?
   | _, _ => none
 | _ => none
noncomputable def over : List Value → List Value → List Value
 | l, [] => l
 | _ :: l, c :: cs => c :: over l cs
 | [], _ => []
noncomputable def splx : List Value → Nat → List Value → List Value
 | l, 0, cs => over l cs
 | a :: l, k + 1, cs => a :: splx l k cs
 | [], _, _ => []
noncomputable def cellsOfV : Value → List Value
 | .agg cs => cs.toList
 | v => [v]
noncomputable def storex (P : Program) (hp : Hp) (t : TypeId) (a x : Value) : Option (Hp) :=
 match a with
 | .pointer (some ⟨b, off, none⟩) =>
   match hp.get b, ti P t with
   | .cells l ty gr, some ti =>
     let cs := cellsOfV x
     cnd (Nat.beq cs.length ti.sz && Nat.ble (off + ti.sz) l.length && cs.all one) (some (hp.set b (.cells (splx l off cs) ty gr))) none
   | _, _ => none
 | _ => none
noncomputable def fillv (place : Nat → Option (Nat × Nat)) (cells : List Value) : List (Nat × Value) → Option (List Value)
 | [] => some cells
 | (i, v) :: rest =>
   match place i with
   | none => none
   | some (off, size) =>
     let cs := cellsOfV v
     cnd (Nat.beq cs.length size && Nat.ble (off + size) cells.length) (fillv place (splx cells off cs) rest) none
noncomputable def buildx (P : Program) (t : TypeId) (ps : List (Nat × Value)) : Option (List Value) :=
 match ti P t with
 | some ⟨_, _, z, .st fs _⟩ => fillv (fun i => (fs[i]?).map fun f => (f.1, f.2.1)) z ps
 | some ⟨_, _, z, .ar _ e _⟩ => fillv (fun i => some (i * e, e)) z ps
 | _ => none
noncomputable def rep (z : List Value) : Nat → List Value
 | 0 => []
 | k + 1 => z ++ rep z k
noncomputable def CAPU : Nat := 2 ^ 64
noncomputable def addr (b off d : Nat) : Value := .pointer (some ⟨b, off + d, none⟩)
noncomputable def natIn (n : Int) (len : Nat) : Option Nat :=
 match n with
 | .ofNat m => cnd (Nat.blt m len) (some m) none
 | _ => none
noncomputable def natLe (n : Int) (len : Nat) : Option Nat :=
 match n with
 | .ofNat m => cnd (Nat.ble m len) (some m) none
 | _ => none
noncomputable def indexAddrx (P : Program) (t : TypeId) (x i : Value) : Option Value :=
 match i with
 | .int _ n =>
   match ti P t, x with
   | some ⟨_, _, _, .sl e _⟩, .slice (some ⟨b, off, none⟩) len _ => (natIn n len).map fun m => addr b off (m * e)
   | some ⟨_, _, _, .ar len e _⟩, .pointer (some ⟨b, off, none⟩) => (natIn n len).map fun m => addr b off (m * e)
   | _, _ => none
 | _ => none
noncomputable def indexx (P : Program) (t : TypeId) (x i : Value) : Option Value :=
 match i with
 | .int _ n =>
   match ti P t, x with
   | some ⟨_, _, _, .ar len e et⟩, .agg cs => (natIn n len).bind fun m => partv P et cs.toList (m * e)
   | some ⟨_, _, _, .str⟩, .string s => (natIn n s.size).bind fun m => (s.data.toList[m]?).map fun b => .int .u8 b.toNat
   | _, _ => none
 | _ => none
noncomputable def elv (b off e len : Nat) (i : Value) : Value := .func (.yield b) ⟨[i, .int .i64 (.ofNat off), .int .i64 (.ofNat e), .int .i64 (.ofNat len)]⟩ ⟨[]⟩
noncomputable def isEl (v : Value) : Bool :=
 match v with
 | .func (.yield _) a _ => (match a.toList with
   | [] => false
   | _ :: l => (match l with
     | [_] => false
     | _ => true))
 | _ => false
noncomputable def inR (hp : Hp) (i : Value) (len : Nat) (y : R) : R :=
 match sortOf i with
 | some s => match codeK s with
   | some k => match decH hp (sy (opc 12 8) [i, .int k 0]) with
     | some b => cnd b .bad (match decH hp (sy (opc 15 8) [i, .int k (.ofNat len)]) with
       | some b => cnd b .bad y
       | none => .need (sy (opc 15 8) [i, .int k (.ofNat len)]))
     | none => .need (sy (opc 12 8) [i, .int k 0])
   | none => .bad
 | none => .bad
inductive EnR where
 | at_ (c : Nat)
 | ask (c : Value)
 | no
noncomputable def enumG (hp : Hp) (i : Value) (k : IntKind) : Nat → Nat → EnR
 | 0, _ => .no
 | m + 1, c => match decH hp (sy (opc 16 8) [i, .int k (.ofNat c)]) with
   | some b => cnd b (.at_ c) (enumG hp i k m (Nat.succ c))
   | none => .ask (sy (opc 16 8) [i, .int k (.ofNat c)])
noncomputable def enumI (hp : Hp) (i : Value) (len : Nat) : EnR :=
 match sortOf i with
 | some s => match codeK s with
   | some k => enumG hp i k len 0
   | none => .no
 | none => .no
noncomputable def everyC (l : List Value) (e : Nat) : Nat → Nat → Option (List Value)
 | 0, _ => some []
 | k + 1, off => match l[off]? with
   | some v => match everyC l e k (off + e) with
     | some r => some (v :: r)
     | none => none
   | none => none
noncomputable def hasS (z : Nat) (v : Value) : Bool :=
 match sortOf v with
 | some s => Nat.beq s z
 | none => false
noncomputable def selV (i : Value) (cs : List Value) : Option Value :=
 match cs with
 | [] => none
 | v :: l => match sortOf v with
   | some z => cnd (Nat.blt z 9 && allB (hasS z) (v :: l)) (some (sy (opc 49 z) [.agg ⟨v :: l⟩, i])) none
   | none => none
noncomputable def bindL (o : Option (List Value)) (f : List Value → Option Value) : Option Value :=
 match o with
 | some l => f l
 | none => none
noncomputable def oneT (P : Program) (t : TypeId) : Bool :=
 match ti P t with
 | some y => !y.ag
 | none => false
noncomputable def elG (b : Nat) (i : Value) : Value := .func (.yield b) ⟨[i]⟩ ⟨[]⟩
noncomputable def subG (b : Nat) (lo : Value) : Value := .func (.yield b) ⟨[lo, lo]⟩ ⟨[]⟩
noncomputable def lenGT : Nat → Value → Value :=
 @Nat.rec (fun _ => Value → Value) (fun v => sy (opc 48 3) [v]) (fun _ rec v => match v with
  | .func (.methodOf op nm) ⟨[u, x, y]⟩ c => cnd (Nat.beq op 829) (rec u) (cnd (Nat.beq op 861) (rec u) (sy (opc 48 3) [.func (.methodOf op nm) ⟨[u, x, y]⟩ c]))
  | .func (.methodOf op nm) ⟨[m, z]⟩ c => cnd (Nat.beq op 845) m (sy (opc 48 3) [.func (.methodOf op nm) ⟨[m, z]⟩ c])
  | v => sy (opc 48 3) [v])
noncomputable def ixEq (hp : Hp) (i j : Value) : Option Bool :=
 cnd (veq 50 i j) (some true) (match i with
  | .int _ a => (match j with
    | .int _ b => some (decide (a = b))
    | j => decH hp (sy (opc 16 8) [i, j]))
  | i => decH hp (sy (opc 16 8) [i, j]))
noncomputable def ixLt (hp : Hp) (i j : Value) : Option Bool :=
 match i with
 | .int _ a => (match j with
   | .int _ b => some (decide (a < b))
   | j => decH hp (sy (opc 12 8) [i, j]))
 | i => decH hp (sy (opc 12 8) [i, j])
noncomputable def getG (hp : Hp) (z : Nat) (i : Value) : Nat → Value → R :=
 @Nat.rec (fun _ => Value → R) (fun v => .val (sy (opc 49 z) [v, i])) (fun _ rec v => match v with
  | .func (.methodOf op nm) ⟨[u, j, x]⟩ c => cnd (Nat.beq op 829) (match ixEq hp i j with
   | some b => cnd b (.val x) (rec u)
   | none => .need (sy (opc 16 8) [i, j])) (cnd (Nat.beq op 861) (match ixLt hp i j with
   | some b => cnd b (rec u) (.val (sy (opc 49 z) [.func (.methodOf op nm) ⟨[u, j, x]⟩ c, i]))
   | none => .need (sy (opc 12 8) [i, j])) (.val (sy (opc 49 z) [.func (.methodOf op nm) ⟨[u, j, x]⟩ c, i])))
  | .func (.methodOf op nm) ⟨[m, x]⟩ c => cnd (Nat.beq op 845) (.val x) (.val (sy (opc 49 z) [.func (.methodOf op nm) ⟨[m, x]⟩ c, i]))
  | v => .val (sy (opc 49 z) [v, i]))
noncomputable def i64S (i : Value) : Bool :=
 match sortOf i with
 | some s => Nat.beq s 3
 | none => false
noncomputable def inG (hp : Hp) (i L : Value) (y : R) : R :=
 match ixLt hp i (.int .i64 0) with
 | some b => cnd b .bad (match ixLt hp i L with
   | some b => cnd b y .bad
   | none => .need (sy (opc 12 8) [i, L]))
 | none => .need (sy (opc 12 8) [i, .int .i64 0])
noncomputable def inGe (hp : Hp) (i L : Value) (y : R) : R :=
 match ixLt hp i (.int .i64 0) with
 | some b => cnd b .bad (match ixLt hp L i with
   | some b => cnd b .bad y
   | none => .need (sy (opc 12 8) [L, i]))
 | none => .need (sy (opc 12 8) [i, .int .i64 0])
noncomputable def indexG (hp : Hp) (b : Nat) (i : Value) : R :=
 match hp.get b with
 | .garr v _ => cnd (i64S i) (inG hp i (lenGT 200 v) (.val (elG b i))) .bad
 | _ => .bad
noncomputable def sliceLoG (hp : Hp) (b : Nat) (lo : Value) : R :=
 match hp.get b with
 | .garr v _ => cnd (i64S lo) (inGe hp lo (lenGT 200 v) (.val (subG b lo))) .bad
 | _ => .bad
noncomputable def loadG (P : Program) (hp : Hp) (t : TypeId) (b : Nat) (i : Value) : R :=
 match hp.get b with
 | .garr v ty => cnd (Nat.beq ty t && oneT P t) (getG hp (zsT P t) i 200 v) .bad
 | _ => .bad
noncomputable def storeG (P : Program) (hp : Hp) (t : TypeId) (b : Nat) (i x : Value) : R :=
 match hp.get b with
 | .garr v ty => cnd (Nat.beq ty t && (oneT P t && hasS (zsT P t) x)) (.mem undef (hp.set b (.garr (sy (opc 51 13) [v, i, x]) ty))) .bad
 | _ => .bad
noncomputable def loadE (P : Program) (hp : Hp) (t : TypeId) (a : Value) : R :=
 match a with
 | .func (.yield b) ⟨[i, .int _ (.ofNat off), .int _ (.ofNat e), .int _ (.ofNat len)]⟩ _ =>
   match cellsAt hp b, ti P t with
   | some l, some ti => match cnd ti.ag none (bindL (everyC l e len off) (selV i)) with
     | some v => .val v
     | none => match enumI hp i len with
       | .at_ c => optv (loadx P hp t (addr b off (c * e)))
       | .ask c => .need c
       | .no => .bad
   | _, _ => .bad
 | .func (.yield b) ⟨[i]⟩ _ => loadG P hp t b i
 | _ => .bad
noncomputable def oneSz (P : Program) (t : TypeId) : Bool :=
 match ti P t with
 | some y => !y.ag && Nat.beq y.sz 1
 | none => false
noncomputable def iteCs (k : IntKind) (z : Nat) (i x : Value) : Nat → List Value → List Value
 | _, [] => []
 | c, v :: l => sy (opc 56 z) [sy (opc 16 8) [i, .int k (.ofNat c)], x, v] :: iteCs k z i x (Nat.succ c) l
noncomputable def iteE (P : Program) (hp : Hp) (t : TypeId) (b off e len : Nat) (i x : Value) (y : R) : R :=
 match sortOf i, sortOf x with
 | some s, some z => (match codeK s with
   | some k => (match hp.get b with
     | .cells l ty gr => cnd (oneSz P t && (Nat.beq e 1 && (Nat.blt z 10 && (Nat.ble (off + len) l.length && allB (hasS z) ((l.drop off).take len)))))
      (.mem undef (hp.set b (.cells (splx l off (iteCs k z i x 0 ((l.drop off).take len))) ty gr))) y
     | _ => y)
   | none => y)
 | _, _ => y
noncomputable def storeE (P : Program) (hp : Hp) (t : TypeId) (a x : Value) : R :=
 match a with
 | .func (.yield b) ⟨[i, .int _ (.ofNat off), .int _ (.ofNat e), .int _ (.ofNat len)]⟩ _ =>
   iteE P hp t b off e len i x (match enumI hp i len with
   | .at_ c => match storex P hp t (addr b off (c * e)) x with
     | some hp' => .mem undef hp'
     | none => .bad
   | .ask c => .need c
   | .no => .bad)
 | .func (.yield b) ⟨[i]⟩ _ => storeG P hp t b i x
 | _ => .bad
noncomputable def indexAddrE (P : Program) (hp : Hp) (t : TypeId) (x i : Value) : R :=
 match ti P t, x with
 | some ⟨_, _, _, .sl e _⟩, .slice (some ⟨b, off, none⟩) len _ => inR hp i len (.val (elv b off e len i))
 | some ⟨_, _, _, .ar len e _⟩, .pointer (some ⟨b, off, none⟩) => inR hp i len (.val (elv b off e len i))
 | _, _ => .bad
noncomputable def indexE (P : Program) (hp : Hp) (t : TypeId) (x i : Value) : R :=
 match ti P t with
 | some ⟨_, _, _, kd⟩ => match kd with
   | .ar len e et => match x with
     | .agg cs => inR hp i len (match cnd (oneT P et) (bindL (everyC cs.toList e len 0) (selV i)) none with
       | some v => .val v
       | none => match enumI hp i len with
         | .at_ c => optv (partv P et cs.toList (c * e))
         | .ask c => .need c
         | .no => .bad)
     | _ => .bad
   | .str => match sortOf x, sortOf i with
     | some s, some s' => cnd (Nat.beq s 9 && Nat.blt s' 8) (grd hp (sy (opc 50 4) [x, i])) .bad
     | _, _ => .bad
   | _ => .bad
 | none => .bad
inductive MK where
 | int
 | str
noncomputable def keyTerm (kd : MK) (x y : Value) : Option Value :=
 match kd with
 | .int => symEq 0 7 x y
 | .str => symEq 9 9 x y
noncomputable def keyEq (hp : Hp) (kd : MK) (x y : Value) : Option Bool :=
 match kd, x, y with
 | .int, .int k a, .int k' b => cnd (kEq k k') (some (a == b)) none
 | .str, .string a, .string b => some (a.data.toList == b.data.toList)
 | kd, x, y => match keyTerm kd x y with
   | some c => decH hp c
   | none => none
noncomputable def keyAsk (hp : Hp) (kd : MK) (k : Value) : List MapEntry → Option Value
 | [] => none
 | e :: es => match keyEq hp kd k e.key with
   | some true => none
   | some false => keyAsk hp kd k es
   | none => keyTerm kd k e.key
noncomputable def findx (hp : Hp) (kd : MK) (k : Value) : List MapEntry → Nat → Option (Option (Nat × Value))
 | [], _ => some none
 | e :: es, i =>
   match keyEq hp kd k e.key with
   | some true => some (some (i, e.val))
   | some false => findx hp kd k es (i + 1)
   | none => none
noncomputable def setVal (v : Value) : Nat → List MapEntry → List MapEntry
 | _, [] => []
 | 0, e :: es => { e with val := v } :: es
 | k + 1, e :: es => e :: setVal v k es
noncomputable def zeroOf (P : Program) (t : TypeId) : Option Value :=
 match ti P t, infoT P t with
 | some _, some i => i.zero
 | _, _ => none
noncomputable def mapK (P : Program) (t : TypeId) : Option (MK × TypeId) :=
 match underT P t with
 | some (.map k e) => match underT P k with
   | some (.int _) => some (.int, e)
   | some .string => some (.str, e)
   | _ => none
 | _ => none
noncomputable def entriesOf (hp : Hp) (x : Value) : Option (List MapEntry) :=
 match x with
 | .map none => some []
 | .map (some r) => match hp.get r with
   | .map es _ => some es
   | _ => none
 | _ => none
noncomputable def okTuple (ok : Bool) (v : Value) (b : Bool) : Value := cnd ok (.tuple #[v, .bool b]) v
noncomputable def lookupx (P : Program) (hp : Hp) (t : TypeId) (x k : Value) (ok : Bool) : Option Value :=
 match mapK P t, entriesOf hp x with
 | some (kd, e), some es => match findx hp kd k es 0 with
   | some (some (_, v)) => some (okTuple ok v true)
   | some none => (zeroOf P e).map fun z => okTuple ok z false
   | none => none
 | _, _ => none
noncomputable def updatex (P : Program) (hp : Hp) (t : TypeId) (m k v : Value) : Option (Hp) :=
 match mapK P t, m with
 | some (kd, _), .map (some r) =>
   match hp.get r with
   | .map es clock =>
     match findx hp kd k es 0 with
     | some (some (i, _)) => some (hp.set r (.map (setVal v i es) clock))
     | some none => some (hp.set r (.map (es ++ [{ key := k, val := v, born := clock }]) (clock + 1)))
     | none => none
   | _ => none
 | _, _ => none
noncomputable def srcOf (hp : Hp) (e : Nat) (kd : TK) (x : Value) : Option (Nat × List Value) :=
 match kd with
 | .sl _ _ => match x with
   | .slice none m _ => cnd (Nat.beq m 0) (some (0, [])) none
   | .slice (some ⟨b, off, none⟩) m _ => match cellsAt hp b with
     | some l => cnd (Nat.ble (off + m * e) l.length) (some (m, (l.drop off).take (m * e))) none
     | none => none
   | _ => none
 | .str => match x with
   | .string s => cnd (Nat.beq e 1) (some (s.size, s.data.toList.map fun b => .int .u8 b.toNat)) none
   | _ => none
 | _ => none
noncomputable def appG (z : Nat) (n : Nat) (hp : Hp) (e : Nat) (et : TypeId) (bytes : Nat) (b m : Nat) (new : List Value) : R :=
 match hp.get b with
 | .garr v ty => cnd (Nat.beq ty et && (Nat.beq e 1 && (Nat.ble m 1024 && (Nat.ble bytes 512 && (allB (hasS z) new)))))
   (match decH hp (sy (opc 12 8) [sy (opc 48 3) [v], .int .i64 1073741824]) with
   | some b0 => cnd b0 (.new (.slice (some ⟨n, 0, some 7⟩) 0 CAPU) (hp.set b .dead) (.garr (sy (opc 47 13) [v, .agg ⟨new⟩]) et)) .bad
   | none => .need (sy (opc 12 8) [sy (opc 48 3) [v], .int .i64 1073741824])) .bad
 | _ => .bad
noncomputable def appTo (n : Nat) (hp : Hp) (e : Nat) (et : TypeId) (base : Option Addr) (sl cap m : Nat) (new : List Value) : R :=
 match base with
 | none => cnd (Nat.beq sl 0 && Nat.beq cap 0) (cnd (Nat.beq m 0) (.val (.slice none 0 0)) (.new (.slice (some ⟨n, 0, none⟩) m CAPU) hp (.cells new et true))) .bad
 | some ⟨b, off, none⟩ =>
   match hp.get b with
   | .cells l ty gr =>
     cnd (Nat.beq cap CAPU)
      (cnd (Nat.beq off 0 && Nat.beq l.length (sl * e) && Nat.beq ty et && gr) (.new (.slice (some ⟨n, 0, none⟩) (sl + m) CAPU) (hp.set b .dead) (.cells (l ++ new) et true)) .bad)
      (cnd (Nat.ble CAPU cap) .bad (cnd (Nat.ble (sl + m) cap)
       (cnd (Nat.ble (off + (sl + m) * e) l.length) (.mem (.slice (some ⟨b, off, none⟩) (sl + m) cap) (hp.set b (.cells (splx l (off + sl * e) new) ty gr))) .bad)
       (cnd (Nat.ble (off + sl * e) l.length) (.new (.slice (some ⟨n, 0, none⟩) (sl + m) CAPU) hp (.cells ((l.drop off).take (sl * e) ++ new) et true)) .bad)))
   | _ => .bad
 | _ => .bad
noncomputable def appendx (P : Program) (n : Nat) (hp : Hp) (t t2 : TypeId) (s x : Value) : R :=
 match ti P t, ti P t2, s with
 | some ⟨_, _, _, .sl e et⟩, some ⟨_, _, _, kd⟩, .slice base sl cap =>
   match infoT P et, ti P et, srcOf hp e kd x with
   | some i, some y, some (m, new) =>
     match base with
     | some ⟨b, _, some _⟩ => cnd (Nat.beq cap CAPU && (!Nat.beq e 0 && (Nat.beq y.zero.length e && new.all one))) (appG (zsT P et) n hp e et i.bytes b m new) .bad
     | base => cnd (!Nat.beq e 0 && Nat.beq y.zero.length e && new.all one && Nat.ble ((sl + m) * i.bytes) 1099511627776 && Nat.ble (sl + m) 1099511627776) (appTo n hp e et base sl cap m new) .bad
   | _, _, _ => .bad
 | _, _, _ => .bad
noncomputable def copyx (P : Program) (hp : Hp) (t t2 : TypeId) (d s : Value) : Option (Nat × Hp) :=
 match ti P t, ti P t2, d with
 | some ⟨_, _, _, .sl e _⟩, some ⟨_, _, _, .sl e2 et2⟩, .slice base dl _ =>
   match srcOf hp e (.sl e2 et2) s with
   | none => none
   | some (sl, new0) =>
     let m := cnd (Nat.ble sl dl) sl dl
     let new := new0.take (m * e)
     cnd (new.all one) (match base with
     | none => cnd (Nat.beq dl 0) (some (0, hp)) none
     | some ⟨b, off, none⟩ =>
       match hp.get b with
       | .cells l ty gr => cnd (Nat.ble (off + m * e) l.length) (some (m, hp.set b (.cells (splx l off new) ty gr))) none
       | _ => none
     | _ => none) none
 | _, _, _ => none
noncomputable def srcG (hp : Hp) (ty : TypeId) (z : Nat) (x : Value) (K : Value → Value → R) : R :=
 match x with
 | .slice (some ⟨b, _, some q⟩) _ _ => cnd (Nat.beq q 7) (match hp.get b with
   | .garr v ty' => cnd (Nat.beq ty ty') (K v (lenGT 200 v)) .bad
   | _ => .bad) .bad
 | .func (.methodOf op nm) a c => cnd (Nat.beq (Nat.mod op 16) 11) (match decH hp (sy (opc 63 8) [sy (opc 54 13) [.func (.methodOf op nm) a c, .int .i64 z]]) with
   | some b => cnd b (K (sy (opc 54 13) [.func (.methodOf op nm) a c, .int .i64 z]) (sy (opc 42 3) [.func (.methodOf op nm) a c])) .bad
   | none => .need (sy (opc 63 8) [sy (opc 54 13) [.func (.methodOf op nm) a c, .int .i64 z]])) .bad
 | _ => .bad
noncomputable def overT (v lo u m : Value) : Value := cnd (veq 50 lo (.int .i64 0) && veq 1000 (lenGT 200 v) m) u (sy (opc 53 13) [v, lo, u])
noncomputable def copyTo (hp : Hp) (ty : TypeId) (z b : Nat) (lo : Value) (s : Value) : R :=
 match hp.get b with
 | .garr v ty' => cnd (Nat.beq ty ty') (srcG hp ty z s fun u m => .mem (sy (opc 55 3) [sy (opc 2 3) [lenGT 200 v, lo], m]) (hp.set b (.garr (overT v lo u m) ty))) .bad
 | _ => .bad
noncomputable def copyG (P : Program) (hp : Hp) (t : TypeId) (d s : Value) : R :=
 match ti P t with
 | some ⟨_, _, _, kd⟩ => match kd with
   | .sl e et => cnd (Nat.beq e 1 && oneT P et) (match d with
     | .slice (some ⟨b, _, some q⟩) _ _ => cnd (Nat.beq q 7) (copyTo hp et (zsT P et) b (.int .i64 0) s) .bad
     | .func (.yield b) ⟨[lo, _]⟩ _ => copyTo hp et (zsT P et) b lo s
     | _ => .bad) .bad
   | _ => .bad
 | none => .bad
noncomputable def makeG (P : Program) (n : Nat) (hp : Hp) (t : TypeId) (l c : Value) : R :=
 match ti P t with
 | some ⟨_, _, _, kd⟩ => match kd with
   | .sl e et => (match ti P et with
     | some y => (match y.zero with
       | [z] => cnd (Nat.beq e 1 && (oneT P et && (veq 50 l c && (isSy l && (i64S l && hasS (zsort z) z))))) (match infoT P et with
         | some i => cnd (Nat.ble i.bytes 512 && Nat.ble 1 i.bytes) (inGe hp l (.int .i64 1048576) (.new (.slice (some ⟨n, 0, some 7⟩) 0 CAPU) hp (.garr (sy (opc 52 13) [l, z]) et))) .bad
         | none => .bad) .bad
       | _ => .bad)
     | none => .bad)
   | _ => .bad
 | none => .bad
noncomputable def bnd (x : Option Value) (d y : Nat) : Option Nat :=
 match x with
 | none => some d
 | some (.int _ n) => natLe n y
 | _ => none
noncomputable def slExact (e : Nat) (a : Option Addr) (len m : Nat) (lo hi : Option Value) : Option Value :=
 match bnd hi len m with
 | none => none
 | some h =>
   match bnd lo 0 h with
   | none => none
   | some l => match a with
     | none => some (.slice none (h - l) (m - l))
     | some ⟨b, off, none⟩ => cnd (Nat.blt (m - l) CAPU) (some (.slice (some ⟨b, cnd (Nat.beq m l) off (off + l * e), none⟩) (h - l) (m - l))) none
     | _ => none
noncomputable def CAPV : Nat := 2 ^ 64 + 1
noncomputable def slUnk (e : Nat) (a : Option Addr) (len cap : Nat) (lo hi : Option Value) : Option Value :=
 match bnd hi len len with
 | none => none
 | some h =>
   match bnd lo 0 h with
   | some l => match a with
     | some ⟨b, off, none⟩ => cnd (Nat.beq l 0 && (Nat.beq cap CAPU && Nat.beq off 0)) (some (.slice (some ⟨b, 0, none⟩) h CAPU))
       (cnd (Nat.blt l len) (some (.slice (some ⟨b, off + l * e, none⟩) (h - l) CAPV)) (some (.slice (some ⟨0, 0, some 0⟩) 0 CAPV)))
     | _ => none
   | none => none
noncomputable def slSlice (e : Nat) (a : Option Addr) (len cap : Nat) (lo hi mx : Option Value) : Option Value :=
 match mx with
 | none => cnd (Nat.ble CAPU cap) (slUnk e a len cap lo hi) (slExact e a len cap lo hi)
 | some v => match hi with
   | none => none
   | some h => match bnd (some v) 0 (cnd (Nat.ble CAPU cap) len cap) with
     | none => none
     | some m => cnd (Nat.ble m cap) (slExact e a len m lo (some h)) none
noncomputable def strSlice (s : ByteArray) (lo hi : Option Value) : Option Value :=
 match bnd hi s.size s.size with
 | none => none
 | some h => (bnd lo 0 h).map fun l => .string (s.extract l h)
noncomputable def arrSlice (e len : Nat) (b off : Nat) (lo hi mx : Option Value) : Option Value :=
 match mx with
 | none => slExact e (some ⟨b, off, none⟩) len len lo hi
 | some v => match hi with
   | none => none
   | some h => match bnd (some v) 0 len with
     | none => none
     | some m => slExact e (some ⟨b, off, none⟩) len m lo (some h)
noncomputable def adOk : Option Addr → Bool
 | none => true
 | some ⟨_, _, none⟩ => true
 | _ => false
noncomputable def slicex (P : Program) (t : TypeId) (x : Value) (lo hi mx : Option Value) : Option Value :=
 match ti P t with
 | some ⟨_, _, _, kd⟩ => match kd with
   | .sl e _ => match x with
     | .slice a len cap => cnd (adOk a) (slSlice e a len cap lo hi mx) none
     | _ => none
   | .str => match x, mx with
     | .string s, none => strSlice s lo hi
     | _, _ => none
   | .ar len e _ => match x with
     | .pointer (some ⟨b, off, none⟩) => arrSlice e len b off lo hi mx
     | _ => none
   | _ => none
 | none => none
abbrev OpF := Program → Tm → Nat → Hp → R
noncomputable def aBad : OpF := fun _ _ _ _ => .bad
noncomputable def aMove (x : Operand) : OpF := fun _ tm _ _ => .val (ev tm x)
noncomputable def aPick (c a b : Operand) : OpF := fun _ tm _ hp => match decH hp (ev tm c) with
 | some t => .val (cnd t (ev tm a) (ev tm b))
 | none => .need (ev tm c)
noncomputable def aAlloc (t : TypeId) : OpF := fun P _ n hp => match ti P t with
 | some ti => .new (.pointer (some ⟨n, 0, none⟩)) hp (.cells ti.zero t false)
 | none => .bad
noncomputable def aBox (t : TypeId) (x : Operand) : OpF := fun _ tm n hp => .new (.pointer (some ⟨n, 0, none⟩)) hp (.cells (cellsOfV (ev tm x)) t false)
noncomputable def aLoad (t : TypeId) (a : Operand) : OpF := fun P tm _ hp => cnd (isSy (ev tm a)) (loadS P hp t (ev tm a)) (cnd (isEl (ev tm a)) (loadE P hp t (ev tm a)) (optv (loadx P hp t (ev tm a))))
noncomputable def aStore (t : TypeId) (a x : Operand) : OpF := fun P tm _ hp => cnd (isEl (ev tm a)) (storeE P hp t (ev tm a) (ev tm x)) (match storex P hp t (ev tm a) (ev tm x) with
 | some hp' => .mem undef hp'
 | none => .bad)
noncomputable def fieldOf (P : Program) (s : TypeId) (f : Nat) : Option (Nat × Nat × TypeId) :=
 match ti P s with
 | some ⟨_, _, _, .st fs _⟩ => fs[f]?
 | _ => none
noncomputable def aFieldAddr (s : TypeId) (x : Operand) (f : Nat) : OpF := fun P tm _ hp => match ev tm x with
 | .pointer (some ⟨b, off, none⟩) => match fieldOf P s f with
   | some (d, m, _) => cnd (Nat.beq m 0) .bad (.val (addr b off d))
   | none => .bad
 | v => match fieldOf P s f with
   | some (d, m, _) => cnd (Nat.beq m 0) .bad (fieldS hp v d)
   | none => .bad
noncomputable def aField (s : TypeId) (x : Operand) (f : Nat) : OpF := fun P tm _ _ => match ev tm x with
 | .agg cs => match fieldOf P s f with
   | some (d, _, ft) => optv (partv P ft cs.toList d)
   | none => .bad
 | _ => .bad
noncomputable def aNilCheck (x : Operand) : OpF := fun _ tm _ _ => match ev tm x with
 | .pointer (some a) => .val (.pointer (some a))
 | .func (.func g) a b => .val (.func (.func g) a b)
 | .func (.yield g) a b => cnd (isEl (.func (.yield g) a b)) (.val (.func (.yield g) a b)) .bad
 | _ => .bad
noncomputable def isConst : Operand → Bool
 | .const _ => true
 | _ => false
noncomputable def aBinOp (op : BinOp) (t : TypeId) (x y : Operand) : OpF := fun P tm _ hp => match binx P (isConst x || isConst y) op t (ev tm x) (ev tm y) with
 | some v => .val v
 | none => symPart hp op (ev tm x) (ev tm y)
noncomputable def aUnOp (op : UnOp) (x : Operand) : OpF := fun _ tm _ _ => match op, ev tm x with
 | .not, .bool b => .val (.bool (!b))
 | .neg, .int k m => .val (.int k (k.wrap (0 - m)))
 | .not, v => optv (notV v)
 | .neg, v => match sortOf v with
   | some s => cnd (Nat.blt s 8) (.val (sy (opc 19 s) [v])) .bad
   | none => .bad
 | _, _ => .bad
noncomputable def aExtract (x : Operand) (i : Nat) : OpF := fun _ tm _ _ => match ev tm x with
 | .tuple vs => optv vs.toList[i]?
 | _ => .bad
noncomputable def evps (tm : Tm) : List (Nat × Operand) → List (Nat × Value)
 | [] => []
 | q :: r => (q.1, ev tm q.2) :: evps tm r
noncomputable def aBuild (t : TypeId) (ps : Array (Nat × Operand)) : OpF := fun P tm _ _ => match buildx P t (evps tm ps.toList) with
 | some l => .val (.agg ⟨l⟩)
 | none => .bad
noncomputable def aBuildSlice (t : TypeId) (len : Nat) (ps : Array (Nat × Operand)) : OpF := fun P tm n hp => match ti P t with
 | some ⟨_, _, _, .sl e et⟩ => match ti P et with
   | some ti => match cnd (Nat.beq e 0 || !Nat.ble (len * e) 16777216 || !Nat.beq ti.zero.length e) none (fillv (fun i => some (i * e, e)) (rep ti.zero len) (evps tm ps.toList)) with
     | some l => .new (.slice (some ⟨n, 0, none⟩) len len) hp (.cells l et false)
     | none => .bad
   | none => .bad
 | _ => .bad
noncomputable def aMakeFunc (fn : Fn) (a b : Array Operand) : OpF := fun _ tm _ _ => match fn with
 | .func g => .val (.func (.func g) ⟨evs tm a.toList⟩ ⟨evs tm b.toList⟩)
 | _ => .bad
noncomputable def aMakeInterface (t : TypeId) (x : Operand) : OpF := fun P tm _ _ => match ti P t with
 | some ⟨_, _, _, kd⟩ => match kd with
   | .ifc => .bad
   | .other => .bad
   | _ => .val (.iface t (ev tm x))
 | none => .bad
noncomputable def isG (v : Value) : Bool :=
 match v with
 | .slice (some ⟨_, _, some q⟩) _ _ => Nat.beq q 7
 | _ => false
noncomputable def blkG (v : Value) : Nat :=
 match v with
 | .slice (some ⟨b, _, _⟩) _ _ => b
 | _ => 0
noncomputable def aIndexAddr (t : TypeId) (x i : Operand) : OpF := fun P tm _ hp => cnd (isG (ev tm x)) (match ti P t with
 | some ⟨_, _, _, kd⟩ => match kd with
   | .sl e _ => cnd (Nat.beq e 1) (indexG hp (blkG (ev tm x)) (ev tm i)) .bad
   | _ => .bad
 | none => .bad) <| cnd (isSy (ev tm x)) (match ti P t with
 | some ⟨_, _, _, kd⟩ => match kd with
   | .sl e _ => indexS hp e (ev tm x) (ev tm i)
   | _ => .bad
 | none => .bad) (cnd (isSy (ev tm i)) (indexAddrE P hp t (ev tm x) (ev tm i)) (optv (indexAddrx P t (ev tm x) (ev tm i))))
noncomputable def aIndex (t : TypeId) (x i : Operand) : OpF := fun P tm _ hp => cnd (isSy (ev tm x) || isSy (ev tm i)) (indexE P hp t (ev tm x) (ev tm i)) (optv (indexx P t (ev tm x) (ev tm i)))
noncomputable def askM (P : Program) (hp : Hp) (t : TypeId) (x k : Value) : R :=
 match mapK P t, entriesOf hp x with
 | some (kd, _), some es => match keyAsk hp kd k es with
   | some c => .need c
   | none => .bad
 | _, _ => .bad
noncomputable def aLookup (t : TypeId) (x k : Operand) (ok : Bool) : OpF := fun P tm _ hp => match lookupx P hp t (ev tm x) (ev tm k) ok with
 | some v => .val v
 | none => askM P hp t (ev tm x) (ev tm k)
noncomputable def aUpdate (t : TypeId) (m k v : Operand) : OpF := fun P tm _ hp => match updatex P hp t (ev tm m) (ev tm k) (ev tm v) with
 | some hp' => .mem undef hp'
 | none => askM P hp t (ev tm m) (ev tm k)
noncomputable def aMakeMap (_t : TypeId) (r : Option Operand) : OpF := fun _ _ n hp => match r with
 | none => .new (.map (some n)) hp (.map [] 0)
 | some _ => .bad
noncomputable def aMakeSlice (t : TypeId) (l c : Operand) : OpF := fun P tm n hp => cnd (isSy (ev tm l)) (makeG P n hp t (ev tm l) (ev tm c)) <| match ti P t, ev tm l, ev tm c with
 | some ⟨_, _, _, .sl e et⟩, .int _ l, .int _ c => match ti P et, infoT P et, natLe c 1048576 with
   | some y, some i, some c => match natLe l c with
     | some l => cnd (!Nat.beq e 0 && Nat.beq y.zero.length e && Nat.ble (i.bytes * c) 1099511627776) (.new (.slice (some ⟨n, 0, none⟩) l c) hp (.cells (rep y.zero c) et false)) .bad
     | none => .bad
   | _, _, _ => .bad
 | _, _, _ => .bad
noncomputable def aSlice (t : TypeId) (x : Operand) (lo hi mx : Option Operand) : OpF := fun P tm _ hp => cnd (isG (ev tm x)) (match ti P t with
 | some ⟨_, _, _, kd⟩ => match kd with
   | .sl e _ => cnd (Nat.beq e 1) (match lo, hi, mx with
     | some l, none, none => sliceLoG hp (blkG (ev tm x)) (ev tm l)
     | _, _, _ => .bad) .bad
   | _ => .bad
 | none => .bad) <| optv (slicex P t (ev tm x) (lo.map (ev tm)) (hi.map (ev tm)) (mx.map (ev tm)))
noncomputable def aConvert (s d : TypeId) (x : Operand) : OpF := fun P tm _ _ => match ev tm x, ti P d, ti P s with
 | .int _ m, some ⟨_, _, _, .it k⟩, some _ => .val (.int k (k.wrap m))
 | .string b, some ⟨_, _, _, .str⟩, some _ => .val (.string b)
 | v, some ⟨_, _, _, kd⟩, some _ => match sortOf v with
   | some s' => match kd with
     | .it k => cnd (Nat.blt s' 8) (.val (cnd (Nat.beq s' (kCode k)) v (sy (opc 20 (kCode k)) [v]))) .bad
     | .str => cnd (Nat.beq s' 9) (.val v) .bad
     | _ => .bad
   | none => .bad
 | _, _, _ => .bad
noncomputable def aRange (t : TypeId) (x : Operand) : OpF := fun P tm n hp => match ti P t, ev tm x with
 | some ⟨_, _, _, .str⟩, .string s => .new (.pointer (some ⟨n, 0, none⟩)) hp (.sit s 0)
 | _, _ => .bad
noncomputable def aNext (it : Operand) (str : Bool) : OpF := fun _ tm _ hp => match ev tm it with
 | .pointer (some ⟨r, 0, none⟩) => match hp.get r with
   | .sit s pos => cnd str (match s.data.toList[pos]? with
     | some b => cnd (Nat.blt b.toNat 128) (.mem (.tuple #[.bool true, .int .i64 pos, .int .i32 b.toNat]) (hp.set r (.sit s (pos + 1)))) .bad
     | none => .val (.tuple #[.bool false])) .bad
   | _ => .bad
 | _ => .bad
noncomputable def aTypeAssert (x : Operand) (a : TypeId) (ok : Bool) : OpF := fun P tm _ _ => match ev tm x, ti P a with
 | .iface t v, some ⟨_, _, _, kd⟩ => match kd with
   | .ifc => .bad
   | .other => .bad
   | _ => cnd (Nat.beq t a) (.val (cnd ok (.tuple #[v, .bool true]) v)) .bad
 | _, _ => .bad
noncomputable def aPanic (x : Operand) : OpF := fun _ tm _ _ => match ev tm x with
 | .iface t v => .pan (.iface t v)
 | _ => .bad
noncomputable def aDefer (c : Call) : OpF := fun _ tm _ _ => match c with
 | ⟨.value f, xs, _⟩ => match ev tm f with
   | .func (.func g) a b => .dfr { target := .fn (.func g) b, args := ⟨a.toList ++ evs tm xs.toList⟩ }
   | _ => .bad
 | _ => .bad
noncomputable def aCallV (f : Operand) (xs : Array Operand) : OpF := fun _ tm _ _ => match ev tm f with
 | .func (.func g) a b => .enter g (a.toList ++ (evs tm xs.toList ++ b.toList))
 | .func (.yield l) a b => cnd (a.isEmpty && b.isEmpty) (.rnd l (evs tm xs.toList)) .bad
 | _ => .bad
noncomputable def findM (name : String) : List Method → Option Method
 | [] => none
 | m :: l => cnd (m.name == name) (some m) (findM name l)
noncomputable def methF (P : Program) (t : TypeId) (name : String) : Option FuncId :=
 match ti P t with
 | some ⟨_, _, _, kd⟩ => match kd with
   | .pt => match infoT P t with
     | some i => match findM name i.methods.toList with
       | some m => match m.path.toList with
         | [] => match m.func with
           | some (f, b) => cnd b (some f) none
           | none => none
         | _ => none
       | none => none
     | none => none
   | _ => none
 | none => none
noncomputable def aCallI (r : Operand) (name : String) (xs : Array Operand) : OpF := fun P tm _ _ => match ev tm r with
 | .iface t v => match methF P t name with
   | some f => .enter f (v :: evs tm xs.toList)
   | none => .bad
 | _ => .bad
noncomputable def lenG (hp : Hp) (b : Nat) : R :=
 match hp.get b with
 | .garr v _ => .val (lenGT 200 v)
 | _ => .bad
noncomputable def bLen (xs : List Value) (t : TypeId) : OpF := fun P _ _ hp => match xs with
 | [x] => match x, ti P t with
   | .slice (some ⟨b, _, some 7⟩) _ _, some ⟨_, _, _, .sl _ _⟩ => lenG hp b
   | .slice _ m _, some ⟨_, _, _, .sl _ _⟩ => .val (.int .i64 m)
   | .string s, some ⟨_, _, _, .str⟩ => .val (.int .i64 s.size)
   | .map m, some _ => match mapK P t, entriesOf hp (.map m) with
     | some _, some es => .val (.int .i64 es.length)
     | _, _ => .bad
   | x, some ⟨_, _, _, kd⟩ => lenS hp x kd
   | _, _ => .bad
 | _ => .bad
noncomputable def bPick (op : BinOp) (x y : Value) (hp : Hp) : R :=
 match symBin op y x with
 | some c => match decH hp c with
   | some b => .val (cnd b y x)
   | none => .need c
 | none => .bad
noncomputable def bMax (xs : List Value) : OpF := fun _ _ _ hp => match xs with
 | [.int k a, .int k' b] => cnd (kEq k k') (.val (.int k (cnd (decide (b > a)) b a))) .bad
 | [x, y] => bPick .gtr x y hp
 | _ => .bad
noncomputable def bMin (xs : List Value) : OpF := fun _ _ _ hp => match xs with
 | [.int k a, .int k' b] => cnd (kEq k k') (.val (.int k (cnd (decide (b < a)) b a))) .bad
 | [x, y] => bPick .lss x y hp
 | _ => .bad
noncomputable def bAppend (xs : List Value) (t t2 : TypeId) : OpF := fun P _ n hp => match xs with
 | [s, x] => appendx P n hp t t2 s x
 | _ => .bad
noncomputable def isGs (v : Value) : Bool :=
 match v with
 | .func (.yield _) a _ => (match a.toList with
   | [_, _] => true
   | _ => false)
 | v => isG v
noncomputable def bCopy (xs : List Value) (t t2 : TypeId) : OpF := fun P _ _ hp => match xs with
 | [d, s] => cnd (isGs d) (copyG P hp t d s) <| match copyx P hp t t2 d s with
   | some (m, hp') => .mem (.int .i64 m) hp'
   | none => .bad
 | _ => .bad
noncomputable def aBuiltin (b : Builtin) (xs : Array Operand) (ts : Array TypeId) : OpF := fun P tm n hp =>
 match b with
 | .len => match ts.toList with
   | [t] => bLen (evs tm xs.toList) t P tm n hp
   | _ => .bad
 | .append => match ts.toList with
   | [t, t2] => bAppend (evs tm xs.toList) t t2 P tm n hp
   | _ => .bad
 | .copy => match ts.toList with
   | [t, t2] => bCopy (evs tm xs.toList) t t2 P tm n hp
   | _ => .bad
 | .max => bMax (evs tm xs.toList) P tm n hp
 | .min => bMin (evs tm xs.toList) P tm n hp
 | .recover => .rcv
 | _ => .bad
noncomputable def aCall (c : Call) : OpF := match c with
 | ⟨.value f, xs, _⟩ => aCallV f xs
 | ⟨.builtin b, xs, ts⟩ => aBuiltin b xs ts
 | ⟨.invoke r m, xs, _⟩ => aCallI r m xs
structure OpW where
 f : OpF
noncomputable def aopW (op : Op) : OpW :=
 match op with
 | .move x => ⟨aMove x⟩
 | .assign x => ⟨aMove x⟩
 | .pick c a b => ⟨aPick c a b⟩
 | .alloc t => ⟨aAlloc t⟩
 | .box t x => ⟨aBox t x⟩
 | .load t a => ⟨aLoad t a⟩
 | .store t a x => ⟨aStore t a x⟩
 | .fieldAddr s x f => ⟨aFieldAddr s x f⟩
 | .field s x f => ⟨aField s x f⟩
 | .nilCheck x => ⟨aNilCheck x⟩
 | .binOp op t x y _ => ⟨aBinOp op t x y⟩
 | .unOp op _ x => ⟨aUnOp op x⟩
 | .extract x i => ⟨aExtract x i⟩
 | .build t ps => ⟨aBuild t ps⟩
 | .buildSlice t len ps => ⟨aBuildSlice t len ps⟩
 | .makeFunc fn a b => ⟨aMakeFunc fn a b⟩
 | .makeInterface t x => ⟨aMakeInterface t x⟩
 | .indexAddr t x i => ⟨aIndexAddr t x i⟩
 | .index t x i => ⟨aIndex t x i⟩
 | .lookup t x k ok => ⟨aLookup t x k ok⟩
 | .insert t m k v => ⟨aUpdate t m k v⟩
 | .mapUpdate t m k v => ⟨aUpdate t m k v⟩
 | .makeMap t r => ⟨aMakeMap t r⟩
 | .makeSlice t l c => ⟨aMakeSlice t l c⟩
 | .slice t x lo hi mx => ⟨aSlice t x lo hi mx⟩
 | .convert s d x => ⟨aConvert s d x⟩
 | .range t x => ⟨aRange t x⟩
 | .next it str => ⟨aNext it str⟩
 | .typeAssert x _ a ok => ⟨aTypeAssert x a ok⟩
 | .panic x => ⟨aPanic x⟩
 | .defer c => ⟨aDefer c⟩
 | .call c => ⟨aCall c⟩
 | _ => ⟨aBad⟩
inductive Out where
 | go (s : S)
 | draw (ops : Array Oper) (s : S)
 | ent (f : FuncId) (args : List Value) (o : Oper) (x : X) (all rest : List Oper) (k : List AI) (tm : Tm) (cs : List AF) (n : Nat) (hp : Hp)
 | done (v : Value) (n : Nat) (hp : Hp)
 | need (c : Value) (s : S)
 | head (s : S)
 | bad (why : Nat) (s : S)
noncomputable def exitA (id : Nat) : List AI → Option (List AI)
 | .blk id' :: k => cnd (Nat.beq id' id) (some k) (exitA id k)
 | _ :: k => exitA id k
 | [] => none
noncomputable def gotoA (l : Nat) : List AI → Option (List AI)
 | .sc body :: k => match findLabel body l with
   | some rest => some (.code rest :: .sc body :: k)
   | none => gotoA l k
 | _ :: k => gotoA l k
 | [] => none
noncomputable def fin (fr : AF) (v : Value) : Option AF :=
 match fr with
 | ⟨x, mode, todo, tm⟩ =>
   match todo with
   | [] => none
   | i :: k => match i with
     | .ops all l => match l with
       | [] => none
       | o :: rest => some ⟨x, mode, .ops all rest :: k, putx tm o.dst v⟩
     | .rf l => some ⟨x, mode, .erf l :: k, tm⟩
     | _ => none
noncomputable def opdOk (nt : Nat) : Operand → Bool
 | .tmp t => Nat.blt t nt
 | .const v => zas v
 | .global _ => false
 | .func _ => true
noncomputable def opdsOk (nt : Nat) : List Operand → Bool
 | [] => true
 | x :: l => cnd (opdOk nt x) (opdsOk nt l) false
noncomputable def dstOk (nt : Nat) : Option Tmp → Bool
 | none => true
 | some d => Nat.blt d nt
noncomputable def opsOk (nt : Nat) : List Oper → Bool
 | [] => true
 | o :: l => cnd (dstOk nt o.dst) (cnd (opdsOk nt o.op.operands.toList) (opsOk nt l) false) false
noncomputable def resOk (nt : Nat) : List ResultVar → Bool
 | [] => true
 | .tmp t :: r => cnd (Nat.blt t nt) (resOk nt r) false
 | .cell a _ :: r => cnd (Nat.blt a nt) (resOk nt r) false
noncomputable def bodyOf (P : Program) (f : FuncId) : Option (Code × Nat) :=
 cnd (Nat.blt f 4096) (match (ftab P).get f with
 | some fn => match fn.body with
   | some c => cnd (Nat.ble fn.ntmps 512 && resOk fn.ntmps fn.results.toList) (some (c, fn.ntmps)) none
   | none => none
 | none => none) none
noncomputable def enterF (P : Program) (f : FuncId) (args : List Value) (kind : CallKind) : Option AF :=
 match bodyOf P f with
 | some (c, nt) => cnd (Nat.ble args.length nt) (some ⟨⟨f, nt, [], kind, none⟩, .run, [.code c], Tm.ofList .none 0 args⟩) none
 | none => none
noncomputable def settleM : FrameMode → FrameMode
 | .panicking ({ recovered := true, .. } :: older) =>
   match older.dropWhile (!·.goexit) with
   | [] => .returning
   | rest => .panicking rest
 | m => m
noncomputable def raiseM (u : FrameMode) (chain : List PanicEntry) : FrameMode :=
 match u with
 | .panicking old => .panicking (chain ++ old)
 | _ => .panicking chain
noncomputable def top (fr : AF) (cs : List AF) (n : Nat) (hp : Hp) : Out :=
 match fr with
 | ⟨x, mode, todo, tm⟩ => .go ⟨x, mode, todo, tm, cs, n, hp⟩
noncomputable def doRet (v : Value) (x : X) (cs : List AF) (n : Nat) (hp : Hp) : Out :=
 match x with
 | ⟨_, _, _, kind, _⟩ => match kind with
   | .normal => match cs with
     | [] => .done v n hp
     | c :: cs => match fin c v with
       | some c' => top c' cs n hp
       | none => .bad 1 ⟨x, .run, [], .none, c :: cs, n, hp⟩
   | .deferred => match cs with
     | [] => .bad 2 ⟨x, .run, [], .none, cs, n, hp⟩
     | c :: cs => match c with
       | ⟨x, mode, todo, tm⟩ => .go ⟨x, settleM mode, todo, tm, cs, n, hp⟩
   | _ => .bad 2 ⟨x, .run, [], .none, cs, n, hp⟩
noncomputable def leaveA (jump : Option Code) (todo : List AI) (tm : Tm) (x : X) (cs : List AF) (n : Nat) (hp : Hp) : Out :=
 match x with
 | ⟨_, _, _, _, rnd⟩ => match rnd with
   | none => match jump with
     | none | some .ret => .go ⟨x, .returning, todo, tm, cs, n, hp⟩
     | _ => .bad 3 ⟨x, .run, todo, tm, cs, n, hp⟩
   | some l =>
     match hp.get l with
     | .loop _ _ fn nt tm ps a b d => doRet (.bool jump.isNone) x cs n (hp.set l (.loop (cnd jump.isNone .ready .done) jump fn nt tm ps a b d))
     | _ => .bad 4 ⟨x, .run, todo, tm, cs, n, hp⟩
noncomputable def putArgs (nt : Nat) (tm : Tm) : List Tmp → List Value → Option (Tm)
 | [], [] => some tm
 | p :: ps, v :: vs => cnd (Nat.blt p nt) (putArgs nt (tm.set p v) ps vs) none
 | _, _ => none
noncomputable def roundF (hp : Hp) (l : Nat) (args : List Value) : Option AF :=
 match hp.get l with
 | .loop _ _ fn nt tm ps a b _ => (putArgs nt tm ps args).map fun tm => ⟨⟨fn, nt, [], .normal, some l⟩, .run, [.code a, .br, .code b], tm⟩
 | _ => none
abbrev ApF := Program → Oper → List Oper → List Oper → List AI → Tm → X → List AF → Nat → Hp → Out
noncomputable def apVal (v : Value) : ApF := fun _ o all rest k tm x cs n hp => .go ⟨x, .run, .ops all rest :: k, putx tm o.dst v, cs, n, hp⟩
noncomputable def apMem (v : Value) (hp : Hp) : ApF := fun _ o all rest k tm x cs n _ => .go ⟨x, .run, .ops all rest :: k, putx tm o.dst v, cs, n, hp⟩
noncomputable def apNew (v : Value) (hp : Hp) (ob : AObj) : ApF := fun _ o all rest k tm x cs n _ => cnd (Nat.blt n 32767) (.go ⟨x, .run, .ops all rest :: k, putx tm o.dst v, cs, Nat.succ n, hp.set n ob⟩) (.bad 50 ⟨x, .run, k, tm, cs, n, hp⟩)
noncomputable def apEnter (f : FuncId) (args : List Value) : ApF := fun _ o all rest k tm x cs n hp => .ent f args o x all rest k tm cs n hp
noncomputable def apRnd (l : Nat) (args : List Value) : ApF := fun _ o all rest k tm x cs n hp => match roundF hp l args with
 | some fr => top fr (⟨x, .run, .ops all (o :: rest) :: k, tm⟩ :: cs) n hp
 | none => .bad 6 ⟨x, .run, .ops all (o :: rest) :: k, tm, cs, n, hp⟩
noncomputable def apDfr (d : Deferred) : ApF := fun _ o all rest k tm x cs n hp => match x with
 | ⟨fn, nt, dfs, kind, rnd⟩ => match rnd with
   | none => .go ⟨⟨fn, nt, d :: dfs, kind, none⟩, .run, .ops all rest :: k, putx tm o.dst undef, cs, n, hp⟩
   | some _ => .bad 8 ⟨x, .run, .ops all (o :: rest) :: k, tm, cs, n, hp⟩
noncomputable def apRcv : ApF := fun _ o all rest k tm x cs n hp => match x with
 | ⟨_, _, _, kind, rnd⟩ => match kind, rnd, cs with
   | .deferred, none, ⟨x', mode', todo', tm'⟩ :: cs' => match mode' with
     | .panicking ({ v, recovered := false, goexit := false } :: older) =>
       .go ⟨x, .run, .ops all rest :: k, putx tm o.dst v, ⟨x', .panicking ({ v, recovered := true } :: older), todo', tm'⟩ :: cs', n, hp⟩
     | _ => .go ⟨x, .run, .ops all rest :: k, putx tm o.dst .nilIface, cs, n, hp⟩
   | _, _, _ => .bad 9 ⟨x, .run, .ops all (o :: rest) :: k, tm, cs, n, hp⟩
noncomputable def apPan (v : Value) : ApF := fun _ o all rest k tm x cs n hp => .go ⟨x, .panicking [{ v, recovered := false }], .ops all (o :: rest) :: k, tm, cs, n, hp⟩
noncomputable def apNeed (c : Value) : ApF := fun _ o all rest k tm x cs n hp => .need c ⟨x, .run, .ops all (o :: rest) :: k, tm, cs, n, hp⟩
noncomputable def apBad : ApF := fun _ o all rest k tm x cs n hp => .bad 10 ⟨x, .run, .ops all (o :: rest) :: k, tm, cs, n, hp⟩
noncomputable def apply (r : R) : ApF :=
 match r with
 | .val v => apVal v
 | .mem v hp => apMem v hp
 | .new v hp o => apNew v hp o
 | .enter f args => apEnter f args
 | .rnd l args => apRnd l args
 | .dfr d => apDfr d
 | .rcv => apRcv
 | .pan v => apPan v
 | .need c => apNeed c
 | .bad => apBad
noncomputable def wantB (hp : Hp) (want : Bool) (v : Value) : Option Bool :=
 match v with
 | .bool b => some (cnd b want (!want))
 | .func fn a c => match fn with
   | .methodOf op s => cnd (Nat.beq (Nat.mod op 16) 8) (match decH hp (.func (.methodOf op s) a c) with
     | some b => some (cnd b want (!want))
     | none => none) none
   | _ => some false
 | _ => some false
noncomputable def wantedA (all : List Oper) (tm : Tm) (hp : Hp) (o : Oper) : Option Bool :=
 match o.guard with
 | none => some true
 | some (j, want) => match (all[j]?).bind (·.dst) with
   | some d => wantB hp want (slot tm d)
   | none => some false
noncomputable def guardV (all : List Oper) (tm : Tm) (o : Oper) : Value :=
 match o.guard with
 | none => undef
 | some (j, _) => match (all[j]?).bind (·.dst) with
   | some d => slot tm d
   | none => undef
noncomputable def resA (P : Program) (hp : Hp) (tm : Tm) : List ResultVar → Option (List Value)
 | [] => some []
 | .tmp t :: r => (resA P hp tm r).map (slot tm t :: ·)
 | .cell a t :: r => match loadx P hp t (slot tm a) with
   | some v => (resA P hp tm r).map (v :: ·)
   | none => none
noncomputable def resultsOf (P : Program) (f : FuncId) : Option (List ResultVar) :=
 cnd (Nat.blt f 4096) (match (ftab P).get f with
 | some fn => some fn.results.toList
 | none => none) none
noncomputable def unwindA (P : Program) (mode : FrameMode) (todo : List AI) (tm : Tm) (x : X) (cs : List AF) (n : Nat) (hp : Hp) : Out :=
 match x with
 | ⟨fn, nt, dfs, kind, rnd⟩ => match dfs with
   | ⟨t, args⟩ :: ds => match t with
     | .collected b => match hp.get b with
       | .dfr (some l) => .go ⟨⟨fn, nt, l ++ ds, kind, rnd⟩, mode, todo, tm, cs, n, hp.set b (.dfr none)⟩
       | _ => .bad 11 ⟨x, mode, todo, tm, cs, n, hp⟩
     | .fn (.func g) cap => match enterF P g (args.toList ++ cap.toList) .deferred with
       | some fr => top fr (⟨⟨fn, nt, ds, kind, rnd⟩, mode, todo, tm⟩ :: cs) n hp
       | none => .bad 12 ⟨x, mode, todo, tm, cs, n, hp⟩
     | _ => .bad 13 ⟨x, mode, todo, tm, cs, n, hp⟩
   | [] =>
     match mode with
     | .returning => match resultsOf P fn with
       | some rs => cnd (resOk nt rs) (match resA P hp tm rs with
         | some l => doRet (tupx l) x cs n hp
         | none => .bad 14 ⟨x, mode, todo, tm, cs, n, hp⟩) (.bad 14 ⟨x, mode, todo, tm, cs, n, hp⟩)
       | none => .bad 15 ⟨x, mode, todo, tm, cs, n, hp⟩
     | .panicking chain => match cs with
       | ⟨x, mode, todo, tm⟩ :: cs => match resultsOf P fn with
         | some _ => .go ⟨x, raiseM mode chain, todo, tm, cs, n, hp⟩
         | none => .bad 15 ⟨x, mode, todo, tm, cs, n, hp⟩
       | [] => .bad 16 ⟨x, mode, todo, tm, cs, n, hp⟩
     | .run => .bad 17 ⟨x, mode, todo, tm, cs, n, hp⟩
abbrev StF := Program → List AI → Tm → X → List AF → Nat → Hp → Out
noncomputable def stTo2 (a b : AI) : StF := fun _ k tm x cs n hp => .go ⟨x, .run, a :: b :: k, tm, cs, n, hp⟩
noncomputable def stHead (a b : AI) : StF := fun _ k tm x cs n hp => match cs with
 | [] => .head ⟨x, .run, a :: b :: k, tm, cs, n, hp⟩
 | _ :: _ => .go ⟨x, .run, a :: b :: k, tm, cs, n, hp⟩
noncomputable def stPop : StF := fun _ k tm x cs n hp => .go ⟨x, .run, k, tm, cs, n, hp⟩
noncomputable def stBad (w : Nat) : StF := fun _ k tm x cs n hp => .bad w ⟨x, .run, k, tm, cs, n, hp⟩
noncomputable def stOps (all rest : List Oper) : StF := fun P k tm x cs n hp =>
 match rest with
 | [] => .go ⟨x, .run, k, tm, cs, n, hp⟩
 | o :: rest => match wantedA all tm hp o with
   | some b => cnd b (apply ((aopW o.op).f P tm n hp) P o all rest k tm x cs n hp)
     (.go ⟨x, .run, .ops all rest :: k, putx tm o.dst undef, cs, n, hp⟩)
   | none => .need (guardV all tm o) ⟨x, .run, .ops all (o :: rest) :: k, tm, cs, n, hp⟩
noncomputable def pendTo (p : Option Code) (k : List AI) : List AI := match p with
 | some c => .code c :: k
 | none => k
noncomputable def stErf (l : Nat) : StF := fun _ k tm x cs n hp =>
 match hp.get l with
 | .loop st p fn' nt' tm' ps a b d => match st with
   | .busy => .bad 19 ⟨x, .run, k, tm, cs, n, hp⟩
   | _ => .go ⟨x, .run, pendTo p k, tm, cs, n, hp.set l (.loop .exhausted p fn' nt' tm' ps a b d)⟩
 | _ => .bad 20 ⟨x, .run, k, tm, cs, n, hp⟩
noncomputable def stBr : StF := fun _ k tm x cs n hp =>
 match x with
 | ⟨_, _, _, _, rnd⟩ => match rnd with
   | some l => match hp.get l with
     | .loop .ready p fn' nt' tm' ps a b d => .go ⟨x, .run, k, tm, cs, n, hp.set l (.loop .busy p fn' nt' tm' ps a b d)⟩
     | _ => .bad 21 ⟨x, .run, k, tm, cs, n, hp⟩
   | none => .bad 22 ⟨x, .run, k, tm, cs, n, hp⟩
noncomputable def stRf (f : Operand) (ps : Array Tmp) (assign body : Code) : StF := fun P k tm x cs n hp =>
 match x, ev tm f with
 | ⟨fn, nt, dfs, kind, rnd⟩, .func (.func g) a b =>
   cnd (opdOk nt f && Nat.blt (Nat.succ n) 32767) (match rnd with
   | none =>
     match enterF P g (a.toList ++ (Value.func (.yield (Nat.succ n)) #[] #[] :: b.toList)) .normal with
     | some fr => top fr (⟨⟨fn, nt, ⟨.collected n, #[]⟩ :: dfs, kind, none⟩, .run, (.rf (Nat.succ n)) :: k, tm⟩ :: cs) (Nat.succ (Nat.succ n)) ((hp.set n (.dfr (some []))).set (Nat.succ n) (.loop .ready none fn nt tm ps.toList assign body n))
     | none => .bad 24 ⟨x, .run, k, tm, cs, n, hp⟩
   | some l0 =>
     match hp.get l0 with
     | .loop _ _ _ _ _ _ _ _ d =>
       match enterF P g (a.toList ++ (Value.func (.yield n) #[] #[] :: b.toList)) .normal with
       | some fr => top fr (⟨x, .run, .rf n :: k, tm⟩ :: cs) (Nat.succ n) (hp.set n (.loop .ready none fn nt tm ps.toList assign body d))
       | none => .bad 25 ⟨x, .run, k, tm, cs, n, hp⟩
     | _ => .bad 26 ⟨x, .run, k, tm, cs, n, hp⟩) (.bad 42 ⟨x, .run, k, tm, cs, n, hp⟩)
 | _, _ => .bad 27 ⟨x, .run, k, tm, cs, n, hp⟩
noncomputable def stRet (c : Code) : StF := fun _ k tm x cs n hp => leaveA (some c) (.code c :: k) tm x cs n hp
noncomputable def stCond (c : Operand) (a b : Code) : StF := fun _ k tm x cs n hp => match x with
 | ⟨_, nt, _, _, _⟩ => cnd (opdOk nt c) (match decH hp (ev tm c) with
   | some t => .go ⟨x, .run, .code (cnd t a b) :: k, tm, cs, n, hp⟩
   | none => .need (ev tm c) ⟨x, .run, .code (.cond c a b) :: k, tm, cs, n, hp⟩) (.bad 41 ⟨x, .run, k, tm, cs, n, hp⟩)
noncomputable def stExit (id : Nat) : StF := fun _ k tm x cs n hp => match exitA id k with
 | some t => .go ⟨x, .run, t, tm, cs, n, hp⟩
 | none => leaveA (some (.exit id)) (.code (.exit id) :: k) tm x cs n hp
noncomputable def stGoto (l : Nat) : StF := fun _ k tm x cs n hp => match gotoA l k with
 | some t => .go ⟨x, .run, t, tm, cs, n, hp⟩
 | none => leaveA (some (.goto l)) (.code (.goto l) :: k) tm x cs n hp
noncomputable def stRegion (ops : Array Oper) (draw : Bool) : StF := fun _ k tm x cs n hp =>
 match x with
 | ⟨_, nt, _, _, _⟩ => cnd (opsOk nt ops.toList) (cnd draw (.draw ops ⟨x, .run, k, tm, cs, n, hp⟩) (.go ⟨x, .run, .ops ops.toList ops.toList :: k, tm, cs, n, hp⟩)) (.bad 40 ⟨x, .run, k, tm, cs, n, hp⟩)
structure StW where
 f : StF
noncomputable def codeW (c : Code) : StW :=
 match c with
 | .ret => ⟨stRet .ret⟩
 | .skip => ⟨stPop⟩
 | .label _ => ⟨stPop⟩
 | .seq a b => ⟨stTo2 (.code a) (.code b)⟩
 | .cond c x y => ⟨stCond c x y⟩
 | .block id c => ⟨stTo2 (.code c) (.blk id)⟩
 | .loop c => ⟨stHead (.code c) (.lp c)⟩
 | .scope c => ⟨stTo2 (.code c) (.sc c)⟩
 | .exit id => ⟨stExit id⟩
 | .goto l => ⟨stGoto l⟩
 | .region _ ops draw => ⟨stRegion ops draw⟩
 | .rangeFunc f ps assign body => ⟨stRf f ps assign body⟩
 | .refuse _ => ⟨stBad 28⟩
noncomputable def itemA (i : AI) : StF :=
 match i with
 | .ops all rest => stOps all rest
 | .code c => (codeW c).f
 | .blk _ => stPop
 | .sc _ => stPop
 | .lp body => stHead (.code body) (.lp body)
 | .rf _ => stBad 18
 | .erf l => stErf l
 | .br => stBr
noncomputable def runA (P : Program) (todo : List AI) (tm : Tm) (x : X) (cs : List AF) (n : Nat) (hp : Hp) : Out :=
 match todo with
 | [] => leaveA none [] tm x cs n hp
 | i :: k => itemA i P k tm x cs n hp
noncomputable def astep (P : Program) (s : S) : Out :=
 match s with
 | ⟨x, mode, todo, tm, cs, n, hp⟩ =>
   match mode with
   | .run => runA P todo tm x cs n hp
   | .returning => unwindA P .returning todo tm x cs n hp
   | .panicking c => unwindA P (.panicking c) todo tm x cs n hp
inductive Ans where
 | ok (v : Value) (n : Nat) (hp : Hp)
 | need (c : Value) (s : S)
 | stop (s : S)
 | bad (why : Nat) (s : S)
 | out
def heavy : Op → Bool
 | .store .. | .mapUpdate .. | .insert .. | .next .. | .panic _ | .defer _ => true
 | .call { callee := .builtin .len, .. } | .call { callee := .builtin .max, .. } | .call { callee := .builtin .min, .. } => false
 | .call _ => true
 | _ => false
noncomputable def readsOp : Op → Bool
 | .load .. | .lookup .. | .indexAddr .. | .slice .. => true
 | .call { callee := .builtin .len, .. } => true
 | _ => false
noncomputable def newOp : Op → Bool
 | .alloc _ | .box .. | .buildSlice .. | .makeMap .. => true
 | _ => false
structure DO where
 i : Nat
 b : Nat
 m : Nat
 o : Oper
noncomputable def bitsOf {α : Type} : List α → Nat → List α
 | [], _ => []
 | o :: l, m => cnd (Nat.beq (Nat.mod m 2) 1) (o :: bitsOf l (Nat.div m 2)) (bitsOf l (Nat.div m 2))
noncomputable def nth {α : Type} : List α → Nat → Option α
 | [], _ => none
 | a :: l, k => @Nat.rec (fun _ => Option α) (some a) (fun k _ => nth l k) k
noncomputable def bindsA : Ground → Bool
 | .textOnly _ => false
 | .gcOnly _ => false
 | _ => true
noncomputable def edgeBits (acc : List Nat) (i : Nat) : List Edge → Nat → Nat
 | [], m => m
 | ⟨j, g⟩ :: r, m => cnd (bindsA g) (match nth acc (Nat.sub (Nat.sub i 1) j) with
  | some x => edgeBits acc i r (Nat.lor m x)
  | none => edgeBits acc i r m) (edgeBits acc i r m)
noncomputable def edgesLt (i : Nat) : List Edge → Bool
 | [] => true
 | ⟨j, g⟩ :: r => cnd (bindsA g) (cnd (Nat.blt j i) (edgesLt i r) false) (edgesLt i r)
noncomputable def dos : List Oper → Nat → List Nat → List DO
 | [], _, _ => []
 | o :: l, i, acc => ⟨i, Nat.pow 2 i, edgeBits acc i o.after.toList (Nat.pow 2 i), o⟩ :: dos l (Nat.succ i) (edgeBits acc i o.after.toList (Nat.pow 2 i) :: acc)
noncomputable def canonGo (all : List DO) : List DO → Nat → List DO
 | ⟨_, _, m, o⟩ :: l, seen => cnd (heavy o.op) (bitsOf all (Nat.xor (Nat.lor m seen) seen) ++ canonGo all l (Nat.lor m seen)) (canonGo all l seen)
 | _, seen => bitsOf all (Nat.xor (Nat.lor (Nat.sub (Nat.pow 2 all.length) 1) seen) seen)
noncomputable def chkGo (full : Nat) : List DO → Nat → Bool
 | [], seen => Nat.beq seen full
 | ⟨i, b, m, o⟩ :: r, seen =>
   cnd (Nat.beq (Nat.land seen b) 0)
    (cnd (cnd (heavy o.op) (Nat.beq (Nat.lor seen b) m) (Nat.beq (Nat.lor seen m) (Nat.lor seen b)))
     (cnd (edgesLt i o.after.toList) (chkGo full r (Nat.lor seen b)) false) false) false
noncomputable def opdHas (t : Nat) : List Operand → Bool
 | [] => false
 | .tmp u :: l => cnd (Nat.beq u t) true (opdHas t l)
 | _ :: l => opdHas t l
noncomputable def dstIs (t : Nat) : Option Tmp → Bool
 | some d => Nat.beq d t
 | none => false
noncomputable def guardHas (all : List Oper) (t : Nat) : Option (Nat × Bool) → Bool
 | some (j, _) => match all[j]? with
   | some q => dstIs t q.dst
   | none => false
 | none => false
noncomputable def looksT (all : List Oper) (o : Oper) (t : Nat) : Bool := cnd (opdHas t o.op.operands.toList) true (guardHas all t o.guard)
noncomputable def pairOk (all : List Oper) (x a : DO) : Bool :=
 match a.o.dst with
 | none => true
 | some d => cnd (Nat.beq x.i a.i) (!looksT all x.o d)
  (cnd (looksT all x.o d) (cnd (Nat.beq (Nat.land x.m a.b) a.b) (!dstIs d x.o.dst) false) (!dstIs d x.o.dst))
noncomputable def planOf (ops : Array Oper) : Option (List DO) :=
 match dos ops.toList 0 [] with
 | all => match canonGo all all 0 with
   | l => cnd (chkGo (Nat.sub (Nat.pow 2 ops.toList.length) 1) l 0) (cnd (allB (fun x => allB (pairOk ops.toList x) l) l) (some l) none) none
structure Snap where
 b : Nat
 n : Nat
 hp : Hp
noncomputable def snapGo (f : Hp → Bool) (m : Nat) : List Snap → Option Nat
 | [] => none
 | ⟨b, n, hp⟩ :: r => cnd (f hp) (cnd (Nat.beq (Nat.land m b) b) (some n) (snapGo f m r)) none
noncomputable def alsHas (m j : Nat) : List (Nat × Nat) → Bool
 | [] => false
 | (b, k) :: r => cnd (Nat.beq k j) (Nat.beq (Nat.land m b) b) (alsHas m j r)
noncomputable def numOk (np m : Nat) (als : List (Nat × Nat)) (j : Nat) : Bool := cnd (Nat.blt j np) true (alsHas m j als)
noncomputable def nums (ok : Nat → Bool) : Nat → Value → Bool :=
 @Nat.rec (fun _ => Value → Bool) zas (fun _ rec v => match v with
  | .pointer (some ⟨j, _, _⟩) => ok j
  | .slice (some ⟨j, _, _⟩) _ _ => ok j
  | .map (some j) => ok j
  | .func (.func _) a b => cnd (allB rec a.toList) (allB rec b.toList) false
  | .func (.yield l) _ _ => ok l
  | .func (.methodOf _ _) _ _ => true
  | .iface _ v => rec v
  | .agg a => allB rec a.toList
  | .tuple a => allB rec a.toList
  | v => zas v)
noncomputable def sameVal (r : R) (v : Value) : Bool :=
 match r with
 | .val u => veq 50 u v
 | _ => false
noncomputable def lightOk (P : Program) (o : Oper) (m : Nat) (tm : Tm) (n : Nat) (v : Value) (ob : Option AObj) (snaps : List Snap) (als : List (Nat × Nat)) : Bool :=
 match readsOp o.op with
 | true => match snapGo (fun hp => sameVal ((aopW o.op).f P tm n hp) v) m snaps with
   | some np => cnd (allB (nums (fun j => Nat.blt j np) 50) (evs tm o.op.operands.toList)) (nums (numOk np m als) 50 v) false
   | none => false
 | false => match snapGo (fun _ => true) m snaps with
   | some np => cnd (nums (numOk np m als) 50 v) (match ob with
     | none => true
     | some ob => match ob with
       | .cells l _ g => cnd g false (allB (nums (numOk np m als) 50) l)
       | .map es c => es.isEmpty && Nat.beq c 0
       | _ => false) false
   | none => false
inductive SmR where
 | no
 | ans (v : Value) (n : Nat) (hp : Hp)
 | ask (c : Value)
abbrev Sm := FuncId → List Value → Nat → Hp → SmR
noncomputable def noSm : Sm := fun _ _ _ _ => .no
noncomputable def inner (s0 : S) (a : Ans) (K : Value → Nat → Hp → Ans) : Ans :=
 match a with
 | .ok v n hp => K v n hp
 | .need c _ => .need c s0
 | .bad w s => .bad w s
 | .stop _ => .out
 | .out => .out
noncomputable def drawRun (P : Program) (sm : Sm) (rec : S → Ans) (s0 : S) (kb : AObj) (all : List Oper) : List DO → Tm → Nat → Hp → List Snap → List (Nat × Nat) → (Tm → Nat → Hp → Ans) → Ans
 | [], tm, n, hp, _, _, K => K tm n hp
 | ⟨_, b, m, o⟩ :: r, tm, n, hp, snaps, als, K =>
   cnd (heavy o.op)
    (match wantedA all tm hp o with
    | some true =>
      (match (aopW o.op).f P tm n hp with
      | .val v => drawRun P sm rec s0 kb all r (putx tm o.dst v) n hp (⟨b, n, hp⟩ :: snaps) als K
      | .mem v hp => drawRun P sm rec s0 kb all r (putx tm o.dst v) n (hp.set 32767 kb) (⟨b, n, hp.set 32767 kb⟩ :: snaps) als K
      | .new v hp ob => cnd (Nat.blt n 32767) (drawRun P sm rec s0 kb all r (putx tm o.dst v) (Nat.succ n) ((hp.set n ob).set 32767 kb) (⟨b, Nat.succ n, (hp.set n ob).set 32767 kb⟩ :: snaps) als K) .out
      | .enter f args => match sm f args n hp with
        | .ask c => .need c s0
        | .ans v n' hp => cnd (Nat.ble n n' && Nat.ble n' 32767) (drawRun P sm rec s0 kb all r (putx tm o.dst v) n' (hp.set 32767 kb) (⟨b, n', hp.set 32767 kb⟩ :: snaps) als K) .out
        | .no => match enterF P f args .normal with
          | some ⟨x, mode, todo, tm'⟩ => inner s0 (rec ⟨x, mode, todo, tm', [], n, hp⟩) fun v n' hp => cnd (Nat.ble n n' && Nat.ble n' 32767) (drawRun P sm rec s0 kb all r (putx tm o.dst v) n' (hp.set 32767 kb) (⟨b, n', hp.set 32767 kb⟩ :: snaps) als K) .out
          | none => .out
      | .rnd l args => match roundF hp l args with
        | some ⟨x, mode, todo, tm'⟩ => inner s0 (rec ⟨x, mode, todo, tm', [], n, hp⟩) fun v n' hp => cnd (Nat.ble n n' && Nat.ble n' 32767) (drawRun P sm rec s0 kb all r (putx tm o.dst v) n' (hp.set 32767 kb) (⟨b, n', hp.set 32767 kb⟩ :: snaps) als K) .out
        | none => .out
      | .need c => .need c s0
      | _ => .bad 31 ⟨⟨0, 0, [], .normal, none⟩, .run, [.ops all [o]], tm, [], n, hp⟩)
    | some false => drawRun P sm rec s0 kb all r (putx tm o.dst undef) n hp (⟨b, n, hp⟩ :: snaps) als K
    | none => .need (guardV all tm o) s0)
    (match wantedA all tm hp o with
    | some true =>
      (match (aopW o.op).f P tm n hp with
      | .val v => cnd (lightOk P o m tm n v none snaps als) (drawRun P sm rec s0 kb all r (putx tm o.dst v) n hp snaps als K) (.bad 32 ⟨⟨0, 0, [], .normal, none⟩, .run, [.ops all [o]], tm, [], n, hp⟩)
      | .new v _ ob => cnd (Nat.blt n 32767 && newOp o.op) (cnd (lightOk P o m tm n v (some ob) snaps ((b, n) :: als))
       (drawRun P sm rec s0 kb all r (putx tm o.dst v) (Nat.succ n) (hp.set n ob) snaps ((b, n) :: als) K)
       (.bad 33 ⟨⟨0, 0, [], .normal, none⟩, .run, [.ops all [o]], tm, [], n, hp⟩)) .out
      | .need c => .need c s0
      | _ => .bad 34 ⟨⟨0, 0, [], .normal, none⟩, .run, [.ops all [o]], tm, [], n, hp⟩)
    | some false => drawRun P sm rec s0 kb all r (putx tm o.dst undef) n hp snaps als K
    | none => .need (guardV all tm o) s0)
noncomputable def drawStep (P : Program) (sm : Sm) (rec : Bool → S → Ans) (stop : Bool) (ops : Array Oper) (s s0 : S) : Ans :=
 match s with
 | ⟨x, mode, todo, tm, cs, n, hp⟩ => match planOf ops with
   | some l => drawRun P sm (rec false) s0 (hp.get 32767) ops.toList l tm n hp [⟨0, n, hp⟩] [] fun tm n hp => rec stop ⟨x, mode, todo, tm, cs, n, hp⟩
   | none => .bad 35 ⟨x, mode, todo, tm, cs, n, hp⟩
noncomputable def onOut (o : Out) : Program → Sm → (Bool → S → Ans) → Bool → S → Ans :=
 match o with
 | .go s => fun _ _ rec stop _ => rec stop s
 | .done v n hp => fun _ _ _ _ _ => .ok v n hp
 | .need c s => fun _ _ _ _ _ => .need c s
 | .head s => fun _ _ rec stop _ => cnd stop (.stop s) (rec stop s)
 | .bad w s => fun _ _ _ _ _ => .bad w s
 | .draw ops s => fun P sm rec stop s0 => drawStep P sm rec stop ops s s0
 | .ent f args o x all rest k tm cs n hp => fun P sm rec stop _ => match sm f args n hp with
   | .ask c => .need c ⟨x, .run, .ops all (o :: rest) :: k, tm, cs, n, hp⟩
   | .ans v n' hp' => cnd (Nat.ble n n' && Nat.ble n' 32767) (rec stop ⟨x, .run, .ops all rest :: k, putx tm o.dst v, cs, n', hp'⟩) .out
   | .no => match enterF P f args .normal with
     | some ⟨x', mode, todo, tm'⟩ => rec stop ⟨x', mode, todo, tm', ⟨x, .run, .ops all (o :: rest) :: k, tm⟩ :: cs, n, hp⟩
     | none => .bad 5 ⟨x, .run, .ops all (o :: rest) :: k, tm, cs, n, hp⟩
noncomputable def arunS (P : Program) (sm : Sm) : Nat → Bool → S → Ans :=
 @Nat.rec (fun _ => Bool → S → Ans) (fun _ _ => .out) (fun _ rec stop s => onOut (astep P s) P sm rec stop s)
end Go.Gz
