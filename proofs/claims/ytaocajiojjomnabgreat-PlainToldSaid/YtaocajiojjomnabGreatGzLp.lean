/- The evaluator that the kernel runs: the heads of loops, as states over variables. -/
import Derived.Test.YtaocajiojjomnabGreatGzArg
namespace Go.Gz
open Go Go.Gx Go.RowKit
noncomputable def rigT : Nat → Value → Bool :=
 @Nat.rec (fun _ => Value → Bool) (fun _ => false) (fun _ rec v => match v with
  | .func fn a _ => match fn with
    | .methodOf op _ => cnd (Nat.blt (Nat.div op 16) 8192 && !(Nat.beq (Nat.div op 16) 40)) (allB rec a.toList) false
    | _ => false
  | .agg a => allB rec a.toList
  | .int _ _ => true
  | .bool _ => true
  | .string _ => true
  | _ => false)
noncomputable def rigid (op : Nat) (a : Array Value) : Bool := Nat.blt (Nat.div op 16) 8192 && (!(Nat.beq (Nat.div op 16) 40) && allB (rigT 40) a.toList)
noncomputable def pvar (k s : Nat) : Value := sy (opc (8192 + k) s) []
structure NSt where
 ts : List Value
 bs : List Nat
noncomputable def idxV (v : Value) : List Value → Nat → Option Nat
 | [], _ => none
 | u :: l, k => cnd (veq 1000 u v) (some k) (idxV v l (Nat.succ k))
noncomputable def idxN (b : Nat) : List Nat → Nat → Option Nat
 | [], _ => none
 | u :: l, k => cnd (Nat.beq u b) (some k) (idxN b l (Nat.succ k))
structure NR (α : Type) where
 v : α
 s : NSt
noncomputable def addT (v : Value) (s : NSt) : NR Nat :=
 match s with
 | ⟨ts, bs⟩ => match idxV v ts 0 with
   | some k => ⟨k, ⟨ts, bs⟩⟩
   | none => ⟨ts.length, ⟨ts ++ [v], bs⟩⟩
noncomputable def addB (b : Nat) (s : NSt) : NR Nat :=
 match s with
 | ⟨ts, bs⟩ => match idxN b bs 0 with
   | some k => ⟨k, ⟨ts, bs⟩⟩
   | none => ⟨bs.length, ⟨ts, bs ++ [b]⟩⟩
noncomputable def nvL (f : Value → NSt → NR Value) : List Value → NSt → NR (List Value)
 | [], s => ⟨[], s⟩
 | v :: l, s => match f v s with
   | ⟨v', s1⟩ => match nvL f l s1 with
     | ⟨l', s2⟩ => ⟨v' :: l', s2⟩
noncomputable def nv (gen : Bool) : Nat → Value → NSt → NR Value :=
 @Nat.rec (fun _ => Value → NSt → NR Value) (fun v s => ⟨v, s⟩) (fun _ rec v s => match v with
  | .func fn a c => match fn with
    | .methodOf op nm => cnd (rigid op a) ⟨.func (.methodOf op nm) a c, s⟩ (match addT (.func (.methodOf op nm) a c) s with
      | ⟨k, s1⟩ => ⟨pvar k (Nat.mod op 16), s1⟩)
    | .func g => match nvL rec a.toList s with
      | ⟨a', s1⟩ => match nvL rec c.toList s1 with
        | ⟨c', s2⟩ => ⟨.func (.func g) ⟨a'⟩ ⟨c'⟩, s2⟩
    | .yield l => match addB l s with
      | ⟨k, s1⟩ => ⟨.func (.yield k) a c, s1⟩
    | fn => ⟨.func fn a c, s⟩
  | .int k n => cnd gen (match addT (.int k n) s with
    | ⟨j, s1⟩ => ⟨pvar j (kCode k), s1⟩) ⟨.int k n, s⟩
  | .pointer (some ⟨j, o, none⟩) => match addB j s with
    | ⟨k, s1⟩ => ⟨.pointer (some ⟨k, o, none⟩), s1⟩
  | .slice (some ⟨j, o, none⟩) len cap => match addB j s with
    | ⟨k, s1⟩ => ⟨cnd (Nat.beq cap CAPU) (.slice (some ⟨k, 0, some 7⟩) 0 CAPU) (.slice (some ⟨k, o, none⟩) len cap), s1⟩
  | .slice (some ⟨j, o, some z⟩) len cap => cnd (Nat.beq z 7) (match addB j s with
    | ⟨k, s1⟩ => ⟨.slice (some ⟨k, o, some z⟩) len cap, s1⟩) ⟨.slice (some ⟨j, o, some z⟩) len cap, s⟩
  | .map (some j) => match addB j s with
    | ⟨k, s1⟩ => ⟨.map (some k), s1⟩
  | .iface t u => match rec u s with
    | ⟨u', s1⟩ => ⟨.iface t u', s1⟩
  | .agg a => match nvL rec a.toList s with
    | ⟨a', s1⟩ => ⟨.agg ⟨a'⟩, s1⟩
  | .tuple a => match nvL rec a.toList s with
    | ⟨a', s1⟩ => ⟨.tuple ⟨a'⟩, s1⟩
  | v => ⟨v, s⟩)
noncomputable def nvM : List MapEntry → NSt → NR (List MapEntry)
 | [], s => ⟨[], s⟩
 | ⟨k, v, b⟩ :: l, s => match nv false 50 k s with
   | ⟨k', s1⟩ => match nv false 50 v s1 with
     | ⟨v', s2⟩ => match nvM l s2 with
       | ⟨l', s3⟩ => ⟨⟨k', v', b⟩ :: l', s3⟩
noncomputable def nvO (o : AObj) (s : NSt) : NR AObj :=
 match o with
 | .cells l t g => cnd g (match addT (.agg ⟨l⟩) s with
  | ⟨k, s1⟩ => ⟨.garr (pvar k 13) t, s1⟩) (match nvL (nv false 50) l s with
  | ⟨l', s1⟩ => ⟨.cells l' t false, s1⟩)
 | .garr v t => match addT v s with
   | ⟨k, s1⟩ => ⟨.garr (pvar k 13) t, s1⟩
 | .map es c => match nvM es s with
   | ⟨es', s1⟩ => ⟨.map es' c, s1⟩
 | o => ⟨o, s⟩
noncomputable def nvB (hp : Hp) : Nat → Nat → NSt → NR (List AObj) :=
 @Nat.rec (fun _ => Nat → NSt → NR (List AObj)) (fun _ s => ⟨[], s⟩) (fun _ rec i s => match nth s.bs i with
  | some b => match nvO (hp.get b) s with
    | ⟨o, s1⟩ => match rec (Nat.succ i) s1 with
      | ⟨l, s2⟩ => ⟨o :: l, s2⟩
  | none => ⟨[], s⟩)
noncomputable def dLeaf (c : Nat) : Value := sy (opc (1048576 + c) 12) []
noncomputable def dpl2 : Nat → List Value → List Value
 | _, [] => []
 | c, _ :: l => dLeaf c :: dpl2 (Nat.succ c) l
noncomputable def dp1 (c : Nat) (v : Value) : Value :=
 match v with
 | .agg a => .agg ⟨dpl2 (Nat.succ (Nat.mul c 256)) a.toList⟩
 | .tuple a => .tuple ⟨dpl2 (Nat.succ (Nat.mul c 256)) a.toList⟩
 | _ => dLeaf (Nat.mul c 256)
noncomputable def dpl1 : Nat → List Value → List Value
 | _, [] => []
 | c, v :: l => dp1 c v :: dpl1 (Nat.succ c) l
noncomputable def dp0 (i : Nat) (v : Value) : Value :=
 match v with
 | .agg a => .agg ⟨dpl1 (Nat.succ (Nat.mul i 256)) a.toList⟩
 | .tuple a => .tuple ⟨dpl1 (Nat.succ (Nat.mul i 256)) a.toList⟩
 | _ => dLeaf (Nat.mul (Nat.mul i 256) 256)
noncomputable def shallow2 : List Value → Bool
 | [] => true
 | v :: l => cnd (one v) (shallow2 l) false
noncomputable def small1 (v : Value) : Bool :=
 match v with
 | .agg a => Nat.ble a.size 255 && shallow2 a.toList
 | .tuple a => Nat.ble a.size 255 && shallow2 a.toList
 | _ => true
noncomputable def small0 (v : Value) : Bool :=
 match v with
 | .agg a => Nat.ble a.size 255 && allB small1 a.toList
 | .tuple a => Nat.ble a.size 255 && allB small1 a.toList
 | _ => true
noncomputable def hasN (i : Nat) : List Nat → Bool
 | [] => false
 | j :: l => cnd (Nat.beq j i) true (hasN i l)
noncomputable def nvS (live gens : List Nat) (tm : Tm) : Nat → Nat → NSt → NR (List Value)
 | 0, _, s => ⟨[], s⟩
 | k + 1, i, s => cnd (hasN i live) (match nv (hasN i gens) 50 (slot tm i) s with
     | ⟨v, s1⟩ => match nvS live gens tm k (Nat.succ i) s1 with
       | ⟨l, s2⟩ => ⟨v :: l, s2⟩)
   (match nvS live gens tm k (Nat.succ i) s with
    | ⟨l, s2⟩ => ⟨dp0 i (slot tm i) :: l, s2⟩)
structure Nrm where
 slots : List Value
 objs : List AObj
 s : NSt
noncomputable def nrm (live gens : List Nat) (s : S) : Nrm :=
 match s with
 | ⟨⟨_, nt, _, _, _⟩, _, _, tm, _, _, hp⟩ => match nvS live gens tm nt 0 ⟨[], []⟩ with
   | ⟨slots, s1⟩ => match nvB hp 1000 0 s1 with
     | ⟨objs, s2⟩ => ⟨slots, objs, s2⟩
noncomputable def mtVar (τ : List Value) (op : Nat) (v : Value) : Bool :=
 cnd (Nat.ble 8192 (Nat.div op 16)) (match nth τ (Nat.sub (Nat.div op 16) 8192) with
  | some t => veq 1000 t v
  | none => false) false
noncomputable def isNth (l : List Nat) (i j : Nat) : Bool :=
 match nth l i with
 | some k => Nat.beq k j
 | none => false
noncomputable def grownLen (hp : Hp) (j len : Nat) : Bool :=
 match hp.get j with
 | .cells l _ g => cnd g (Nat.beq l.length len && Nat.ble len 1048576) false
 | _ => false
noncomputable def isGarr (hp : Hp) (j : Nat) : Bool :=
 match hp.get j with
 | .garr _ _ => true
 | _ => false
noncomputable def mtL (f : Value → Value → Bool) : List Value → List Value → Bool
 | [], [] => true
 | a :: l, b :: r => cnd (f a b) (mtL f l r) false
 | _, _ => false
noncomputable def mtV (τ : List Value) (bs : List Nat) (hp : Hp) : Nat → Value → Value → Bool :=
 @Nat.rec (fun _ => Value → Value → Bool) (fun _ _ => false) (fun _ rec p => match p with
  | .func fn a c => match fn with
    | .methodOf op _ => fun v => cnd (rigid op a) (veq 1000 p v && (zas v).isSome) (a.isEmpty && (mtVar τ op v && (match zas v with
      | some s => Nat.beq s (Nat.mod op 16)
      | none => false)))
    | .func g => fun v => match v with
      | .func (.func g') a' c' => Nat.beq g g' && (mtL rec a.toList a'.toList && mtL rec c.toList c'.toList)
      | _ => false
    | .yield l => fun v => match v with
      | .func (.yield l') a' _ => a.isEmpty && (c.isEmpty && (a'.isEmpty && isNth bs l l'))
      | _ => false
    | _ => fun _ => false
  | .pointer (some ⟨j, o, none⟩) => fun v => match v with
    | .pointer (some ⟨j', o', none⟩) => isNth bs j j' && Nat.beq o o'
    | _ => false
  | .slice (some ⟨j, o, sp⟩) len cap => match sp with
    | some z => fun v => cnd (Nat.beq z 7 && (Nat.beq o 0 && (Nat.beq len 0 && Nat.beq cap CAPU))) (match v with
      | .slice (some ⟨j', _, sp'⟩) len' cap' => isNth bs j j' && (match sp' with
        | some _ => isGarr hp j' && Nat.beq cap' CAPU
        | none => grownLen hp j' len' && Nat.beq cap' CAPU)
      | _ => false) false
    | none => fun v => match v with
      | .slice (some ⟨j', o', none⟩) len' cap' => isNth bs j j' && (Nat.beq o o' && (Nat.beq len len' && (Nat.beq cap cap' && (Nat.blt cap CAPU || (Nat.beq cap CAPV)))))
      | _ => false
  | .map (some j) => fun v => match v with
    | .map (some j') => isNth bs j j'
    | _ => false
  | .iface t u => fun v => match v with
    | .iface t' u' => Nat.beq t t' && rec u u'
    | _ => false
  | .agg a => fun v => match v with
    | .agg a' => mtL rec a.toList a'.toList
    | _ => false
  | .tuple a => fun v => match v with
    | .tuple a' => mtL rec a.toList a'.toList
    | _ => false
  | p => fun v => zaq p && veq 50 p v)
noncomputable def mtM (τ : List Value) (bs : List Nat) (hp : Hp) : List MapEntry → List MapEntry → Bool
 | [], [] => true
 | ⟨k, v, b⟩ :: l, ⟨k', v', b'⟩ :: r => cnd (mtV τ bs hp 50 k k' && (mtV τ bs hp 50 v v' && Nat.beq b b')) (mtM τ bs hp l r) false
 | _, _ => false
noncomputable def mtO (P : Program) (τ : List Value) (bs : List Nat) (hp : Hp) (p : AObj) (o : AObj) : Bool :=
 match p with
 | .cells l t g => match o with
   | .cells l' t' g' => cnd g false (cnd g' false (Nat.beq t t' && mtL (mtV τ bs hp 50) l l'))
   | _ => false
 | .garr (.func (.methodOf op _) a _) t => a.isEmpty && (Nat.beq (Nat.mod op 16) 13 && (match o with
   | .garr v t' => Nat.beq t t' && mtVar τ op v
   | .cells l t' g => cnd g (Nat.beq t t' && (mtVar τ op (.agg ⟨l⟩) && (allB (hasS (zsT P t)) l && (Nat.beq (cellsT P t) 1 && ((infoT P t).isSome && Nat.ble l.length 1048576))))) false
   | _ => false))
 | .map es c => match o with
   | .map es' c' => Nat.beq c c' && mtM τ bs hp es es'
   | _ => false
 | _ => false
noncomputable def mtOs (P : Program) (τ : List Value) (bs : List Nat) (hp : Hp) : List AObj → List Nat → Bool
 | [], [] => true
 | p :: l, b :: r => cnd (mtO P τ bs hp p (hp.get b)) (mtOs P τ bs hp l r) false
 | _, _ => false
noncomputable def mtS (live : List Nat) (τ : List Value) (bs : List Nat) (tm : Tm) (hp : Hp) : Nat → List Value → Bool
 | _, [] => true
 | i, p :: l => cnd (cnd (hasN i live) (mtV τ bs hp 50 p (slot tm i)) (small0 (slot tm i) && veq 50 p (dp0 i (slot tm i)))) (mtS live τ bs tm hp (Nat.succ i) l) false
noncomputable def nodupN : List Nat → Bool
 | [] => true
 | j :: l => cnd (hasN j l) false (nodupN l)
noncomputable def ltN (n : Nat) : List Nat → Bool
 | [] => true
 | j :: l => cnd (Nat.blt j n) (ltN n l) false
noncomputable def todoOk : List AI → Bool
 | [] => true
 | i :: l => match i with
   | .code _ => todoOk l
   | .blk _ => todoOk l
   | .lp _ => todoOk l
   | .sc _ => todoOk l
   | _ => false
noncomputable def xOk (x : X) : Bool :=
 match x with
 | ⟨_, _, dfs, _, rnd⟩ => match dfs, rnd with
   | [], none => true
   | _, _ => false
noncomputable def chkH (P : Program) (live : List Nat) (slots : List Value) (objs : List AObj) (τ : List Value) (bs : List Nat) (s : S) : Bool :=
 match s with
 | ⟨x, mode, todo, tm, cs, n, hp⟩ => xOk x && (todoOk todo && ((match mode with
   | .run => true
   | _ => false) && (cs.isEmpty && (Nat.beq slots.length x.nt && (Nat.ble slots.length 512 && (Nat.ble bs.length 32767 && (nodupN bs && (ltN n bs && (mtS live τ bs tm hp 0 slots && mtOs P τ bs hp objs bs)))))))))
noncomputable def mkS (x : X) (todo : List AI) (slots : List Value) (objs : List AObj) : S :=
 ⟨x, .run, todo, Tm.ofList .none 0 slots, [], objs.length, hpOf .none 0 objs⟩
where
 hpOf (t : Hp) : Nat → List AObj → Hp
 | _, [] => t
 | k, o :: l => hpOf (t.set k o) (Nat.succ k) l
end Go.Gz
