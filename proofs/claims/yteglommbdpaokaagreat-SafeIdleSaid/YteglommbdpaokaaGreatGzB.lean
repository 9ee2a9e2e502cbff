/- The evaluator that the kernel runs: its trees, its tables; when an abstract value stands for a value. -/
import Derived.Test.YteglommbdpaokaaGreatGzA
import Derived.Test.YteglommbdpaokaaGreatGxB
namespace Go.Gz
open Go Go.Gx
theorem blt_lt {a b : Nat} (h : Nat.blt a b = true) : a < b := Nat.le_of_ble_eq_true h
theorem zaw {a b : Nat} (h : Nat.ble a b = true) : a ≤ b := Nat.le_of_ble_eq_true h
theorem zad {a b : Nat} (h : Nat.beq a b = true) : a = b := Nat.eq_of_beq_eq_true h
theorem cnd_t {β : Type} (x y : β) : cnd true x y = x := rfl
theorem cnd_f {β : Type} (x y : β) : cnd false x y = y := rfl
theorem zaa {β : Type} (b : Bool) (x y : β) : cnd b x y = if b = true then x else y := by cases b <;> rfl
section
variable {α : Type}
theorem zan (i : Nat) (h : i < 8) (z : α → α) (x : N8 α) : pick i (upd i z x) = z (pick i x) := by
 have : i = 0 ∨ i = 1 ∨ i = 2 ∨ i = 3 ∨ i = 4 ∨ i = 5 ∨ i = 6 ∨ i = 7 := by omega
 cases x
 rcases this with rfl | rfl | rfl | rfl | rfl | rfl | rfl | rfl <;> rfl
theorem pick_upd_ne (i j : Nat) (hi : i < 8) (hj : j < 8) (h : i ≠ j) (z : α → α) (x : N8 α) : pick j (upd i z x) = pick j x := by
 have h1 : i = 0 ∨ i = 1 ∨ i = 2 ∨ i = 3 ∨ i = 4 ∨ i = 5 ∨ i = 6 ∨ i = 7 := by omega
 have h2 : j = 0 ∨ j = 1 ∨ j = 2 ∨ j = 3 ∨ j = 4 ∨ j = 5 ∨ j = 6 ∨ j = 7 := by omega
 cases x
 rcases h1 with rfl | rfl | rfl | rfl | rfl | rfl | rfl | rfl <;> rcases h2 with rfl | rfl | rfl | rfl | rfl | rfl | rfl | rfl <;> first | rfl | exact absurd rfl h
theorem pick_all8 (i : Nat) (x : α) : pick i (all8 x) = x := by
 match i with
 | 0 | 1 | 2 | 3 | 4 | 5 | 6 => rfl
 | n + 7 => rfl
end
theorem slot_set_same (t : Tm) (k : Nat) (h : k < 512) (v : Value) : slot (t.set k v) k = v := by
 show pick (k % 8) (pick (k / 8 % 8) (pick (k / 64) (upd (k / 64) (upd (k / 8 % 8) (upd (k % 8) fun _ => v)) t))) = v
 rw [zan _ (by omega), zan _ (by omega), zan _ (by omega)]
theorem slot_set_ne (t : Tm) (k j : Nat) (h : k < 512) (hj : j < 512) (hn : k ≠ j) (v : Value) : slot (t.set k v) j = slot t j := by
 show pick (j % 8) (pick (j / 8 % 8) (pick (j / 64) (upd (k / 64) (upd (k / 8 % 8) (upd (k % 8) fun _ => v)) t))) = pick (j % 8) (pick (j / 8 % 8) (pick (j / 64) t))
 by_cases h1 : k / 64 = j / 64
 ·rw [← h1, zan _ (by omega)]
  by_cases h2 : k / 8 % 8 = j / 8 % 8
  ·rw [← h2, zan _ (by omega), pick_upd_ne _ _ (by omega) (by omega) (by omega)]
  ·rw [pick_upd_ne _ _ (by omega) (by omega) h2]
 ·rw [pick_upd_ne _ _ (by omega) (by omega) h1]
theorem slot_none (k : Nat) : slot Tm.none k = undef := by
 show pick (k % 8) (pick (k / 8 % 8) (pick (k / 64) (all8 (all8 (all8 undef))))) = undef
 rw [pick_all8, pick_all8, pick_all8]
theorem hp_set_same (t : Hp) (k : Nat) (h : k < 32768) (v : AObj) : (t.set k v).get k = v := by
 show pick (k % 8) (pick (k / 8 % 8) (pick (k / 64 % 8) (pick (k / 512 % 8) (pick (k / 4096) (upd (k / 4096) (upd (k / 512 % 8) (upd (k / 64 % 8) (upd (k / 8 % 8) (upd (k % 8) fun _ => v)))) t))))) = v
 rw [zan _ (by omega), zan _ (by omega), zan _ (by omega), zan _ (by omega), zan _ (by omega)]
theorem hp_set_ne (t : Hp) (k j : Nat) (h : k < 32768) (hj : j < 32768) (hn : k ≠ j) (v : AObj) : (t.set k v).get j = t.get j := by
 show pick (j % 8) (pick (j / 8 % 8) (pick (j / 64 % 8) (pick (j / 512 % 8) (pick (j / 4096) (upd (k / 4096) (upd (k / 512 % 8) (upd (k / 64 % 8) (upd (k / 8 % 8) (upd (k % 8) fun _ => v)))) t))))) =
  pick (j % 8) (pick (j / 8 % 8) (pick (j / 64 % 8) (pick (j / 512 % 8) (pick (j / 4096) t))))
 by_cases h1 : k / 4096 = j / 4096
 ·rw [← h1, zan _ (by omega)]
  by_cases h2 : k / 512 % 8 = j / 512 % 8
  ·rw [← h2, zan _ (by omega)]
   by_cases h3 : k / 64 % 8 = j / 64 % 8
   ·rw [← h3, zan _ (by omega)]
    by_cases h4 : k / 8 % 8 = j / 8 % 8
    ·rw [← h4, zan _ (by omega), pick_upd_ne _ _ (by omega) (by omega) (by omega)]
    ·rw [pick_upd_ne _ _ (by omega) (by omega) h4]
   ·rw [pick_upd_ne _ _ (by omega) (by omega) h3]
  ·rw [pick_upd_ne _ _ (by omega) (by omega) h2]
 ·rw [pick_upd_ne _ _ (by omega) (by omega) h1]
theorem hp_none (k : Nat) : Hp.none.get k = .dead := by
 show pick (k % 8) (pick (k / 8 % 8) (pick (k / 64 % 8) (pick (k / 512 % 8) (pick (k / 4096) (all8 (all8 (all8 (all8 (all8 AObj.dead))))))))) = .dead
 rw [pick_all8, pick_all8, pick_all8, pick_all8, pick_all8]
section
variable {α : Type}
theorem tb_set_same (t : Tb α) (k : Nat) (h : k < 4096) (v : α) : (t.set k v).get k = some v := by
 show pick (k % 8) (pick (k / 8 % 8) (pick (k / 64 % 8) (pick (k / 512) (upd (k / 512) (upd (k / 64 % 8) (upd (k / 8 % 8) (upd (k % 8) fun _ => some v))) t)))) = some v
 rw [zan _ (by omega), zan _ (by omega), zan _ (by omega), zan _ (by omega)]
theorem tb_set_ne (t : Tb α) (k j : Nat) (h : k < 4096) (hj : j < 4096) (hn : k ≠ j) (v : α) : (t.set k v).get j = t.get j := by
 show pick (j % 8) (pick (j / 8 % 8) (pick (j / 64 % 8) (pick (j / 512) (upd (k / 512) (upd (k / 64 % 8) (upd (k / 8 % 8) (upd (k % 8) fun _ => some v))) t)))) =
  pick (j % 8) (pick (j / 8 % 8) (pick (j / 64 % 8) (pick (j / 512) t)))
 by_cases h2 : k / 512 = j / 512
 ·rw [← h2, zan _ (by omega)]
  by_cases h3 : k / 64 % 8 = j / 64 % 8
  ·rw [← h3, zan _ (by omega)]
   by_cases h4 : k / 8 % 8 = j / 8 % 8
   ·rw [← h4, zan _ (by omega), pick_upd_ne _ _ (by omega) (by omega) (by omega)]
   ·rw [pick_upd_ne _ _ (by omega) (by omega) h4]
  ·rw [pick_upd_ne _ _ (by omega) (by omega) h3]
 ·rw [pick_upd_ne _ _ (by omega) (by omega) h2]
theorem tb_none (k : Nat) : (Tb.none : Tb α).get k = none := by
 show pick (k % 8) (pick (k / 8 % 8) (pick (k / 64 % 8) (pick (k / 512) (all8 (all8 (all8 (all8 (Option.none : Option α)))))))) = none
 rw [pick_all8, pick_all8, pick_all8, pick_all8]
theorem tb_ofList (l : List α) : ∀ (t : Tb α) (k j : Nat), k + l.length ≤ 4096 → j < 4096 → (Tb.ofList t k l).get j = if k ≤ j ∧ j < k + l.length then l[j - k]? else t.get j := by
 induction l with
 | nil => intro t k j _ _; simp [Tb.ofList]; omega
 | cons a l ih =>
   intro t k j hk hj
   simp only [List.length_cons] at hk ⊢
   rw [Tb.ofList, ih _ _ _ (by omega) hj]
   by_cases h1 : k + 1 ≤ j ∧ j < k + 1 + l.length
   ·rw [if_pos h1, if_pos (by omega), show j - k = (j - (k + 1)) + 1 by omega, List.getElem?_cons_succ]
   ·rw [if_neg h1]
    by_cases h2 : j = k
    ·subst h2
     rw [tb_set_same _ _ hj, if_pos (by omega)]; simp
    ·rw [tb_set_ne _ _ _ (by omega) hj (Ne.symm h2), if_neg (by omega)]
end
def Small (P : Program) : Prop := P.funcs.size ≤ 4096 ∧ P.types.size ≤ 4096 ∧ P.follows .mixedOrders = true ∧ ∀ (f : Nat) (fn : Func), P.funcs[f]? = some fn → fn.body.isSome = true → (fn.name == "runtime.NumGoroutine") = false
section
variable {P : Program} (hP : Small P)
include hP
theorem ftab_get {f : Nat} {fn : Func} (hf : f < 4096) (h : (ftab P).get f = some fn) : P.funcs[f]? = some fn := by
 unfold ftab at h
 rw [tb_ofList _ _ _ _ (by simpa using hP.1) hf, tb_none] at h
 split at h
 ·simpa using h
 ·cases h
theorem infoT_info {t : TypeId} {i : TypeInfo} (h : infoT P t = some i) : P.info? t = some i := by
 unfold infoT at h
 rw [zaa] at h
 split at h
 ·rename_i hb
  have ht : t < 4096 := blt_lt hb
  unfold ttab at h
  rw [tb_ofList _ _ _ _ (by simpa using hP.2.1) ht, tb_none] at h
  split at h
  ·rename_i hr
   show Tables.info? P.toTables t = some i
   unfold Tables.info?
   rw [if_pos (by simpa using hr.2)]
   simpa using h
  ·cases h
 ·cases h
theorem underT_under {t : TypeId} {d : TypeDesc} (h : underT P t = some d) : P.underlying t = some d := by
 unfold underT at h
 split at h
 ·rename_i i hi
  have hi' := infoT_info hP hi
  unfold Program.underlying
  rw [hi']
  obtain ⟨desc⟩ := i
  simp only at h ⊢
  split at h
  ·simp only [Option.map_eq_some_iff] at h
   obtain ⟨j, hj, rfl⟩ := h
   simp only [infoT_info hP hj]; rfl
  ·rename_i d' hn
   cases h
   split
   ·rename_i heq
    cases heq
    exact absurd rfl (hn _ _)
   ·rename_i heq; cases heq; rfl
   ·rename_i heq; cases heq
 ·cases h
theorem fieldsT_eq : ∀ (fs : List Field) (l : List (Nat × Nat × TypeId)), fieldsT P fs = some l →
  l = (fs.map fun f => (f.offset, cellsOf P f.type, f.type)) ∧ ∀ f ∈ fs, (P.info? f.type).isSome = true
 | [], l, h => by simp [fieldsT] at h; subst h; simp
 | f :: r, l, h => by
   unfold fieldsT at h
   split at h
   ·rename_i i l' hi hl
    cases h
    have hi' := infoT_info hP hi
    obtain ⟨h1, h2⟩ := fieldsT_eq r l' hl
    refine ⟨by simp [h1, cellsOf, hi'], fun g hg => ?_⟩
    rcases List.mem_cons.1 hg with rfl | hg
    ·simp [hi']
    ·exact h2 g hg
   ·cases h
theorem ti0_tiof {t : TypeId} {x : TI} (h : ti0 P t = some x) : tiof P t = some x := by
 unfold ti0 at h
 split at h
 ·rename_i i d hi hd
  have hi' := infoT_info hP hi
  have hd' := underT_under hP hd
  unfold tiof
  rw [hi', hd']
  simp only
  split at h
  ·cases h
  ·rename_i z hz
   simp only [hz]
   split at h
   ·rename_i fs
    split at h
    ·rename_i l hl
     cases h
     obtain ⟨h1, h2⟩ := fieldsT_eq hP _ _ hl
     show (if _ then _ else _) = _
     rw [if_pos (by
      rw [Array.all_eq_true']
      intro f hf
      exact h2 f (by simpa using hf)), h1]
    ·cases h
   ·rename_i n e
    split at h
    ·rename_i j hj
     cases h
     have hj' := infoT_info hP hj
     show (if _ then _ else _) = _
     rw [if_pos (by simp [hj'])]
     simp [cellsOf, hj']
    ·cases h
   ·rename_i e
    split at h
    ·rename_i j hj
     cases h
     have hj' := infoT_info hP hj
     show (if _ then _ else _) = _
     rw [if_pos (by simp [hj'])]
     simp [cellsOf, hj']
    ·cases h
   all_goals first | exact h | skip
   split <;> first | exact h | simp_all
 ·cases h
end
theorem zam {P : Program} (hP : Small P) {t : TypeId} {x : TI} (h : ti P t = some x) : tiof P t = some x := by
 unfold ti at h
 split at h
 ·rename_i y hy
  rw [zaa] at h
  split at h
  ·cases h; exact ti0_tiof hP hy
  ·cases h
 ·cases h
theorem allPlain_all : ∀ {l : List Value}, allPlain l = true → ∀ v ∈ l, zas v = true
 | [], _, v, hv => by simp at hv
 | u :: l, h, v, hv => by
   unfold allPlain at h
   rw [zaa] at h
   split at h
   ·rename_i hu
    rcases List.mem_cons.1 hv with rfl | hv
    ·exact hu
    ·exact allPlain_all h v hv
   ·cases h
theorem ti_plain {P : Program} {t : TypeId} {x : TI} (h : ti P t = some x) : ∀ v ∈ x.zero, zas v = true := by
 unfold ti at h
 split at h
 ·rw [zaa] at h
  split at h
  ·rename_i ha; cases h; exact allPlain_all ha
  ·cases h
 ·cases h
structure Mu where
 I : Nat → List Value → Value
 K : Nat → Option Obj
noncomputable def zag (op : BinOp) (x y : Value) : Option Value :=
 match x, y with
 | .int k a, .int k' b => if isShift op = true then shBin op k a b else if kEq k k' = true then zao op k a b else none
 | .bool a, .bool b => match op with
   | .eql => some (.bool (a == b))
   | .neq => some (.bool (!(a == b)))
   | _ => none
 | .string a, .string b => match op with
   | .eql => some (.bool (a.data.toList == b.data.toList))
   | .neq => some (.bool (!(a.data.toList == b.data.toList)))
   | _ => none
 | _, _ => none
noncomputable def codeBin : Nat → Option BinOp
 | 1 => some .add | 2 => some .sub | 3 => some .mul | 4 => some .quo | 5 => some .rem | 6 => some .and | 7 => some .or | 8 => some .xor | 9 => some .andNot | 10 => some .shl | 11 => some .shr
 | 12 => some .lss | 13 => some .leq | 14 => some .gtr | 15 => some .geq | 16 => some .eql | 17 => some .neq
 | _ => none
theorem codeBin_code (op : BinOp) : codeBin (binCode op) = some op := by cases op <;> rfl
noncomputable def putI (x i e : Value) : Option Value :=
 match x with
 | .agg l => (match i with
   | .int _ j => if 0 ≤ j ∧ j.toNat < l.toList.length then some (.agg ⟨l.toList.set j.toNat e⟩) else none
   | _ => none)
 | _ => none
noncomputable def elemI (x i e : Value) : Option Value :=
 match x, i, e with
 | .slice (some ⟨b, off, none⟩) len _, .int _ i, .int _ e => if 0 ≤ i ∧ i < len ∧ 0 ≤ e then some (.pointer (some ⟨b, off + i.toNat * e.toNat, none⟩)) else none
 | _, _, _ => none
noncomputable def noughtI (x y : Value) : Option Value :=
 match x with
 | .int .i64 j => if 0 ≤ j then some (.agg ⟨List.replicate j.toNat y⟩) else none
 | _ => none
noncomputable def overI (x i e : Value) : Option Value :=
 match x with
 | .agg l => (match i with
   | .int _ j => (match e with
     | .agg r => if 0 ≤ j ∧ j.toNat ≤ l.toList.length then some (.agg ⟨l.toList.take j.toNat ++ (r.toList.take (l.toList.length - j.toNat) ++ l.toList.drop (j.toNat + r.toList.length))⟩) else none
     | _ => none)
   | _ => none)
 | _ => none
noncomputable def heldI (m : Mu) (x y : Value) : Option Value :=
 match x with
 | .slice a len _ => if len = 0 then some (.agg ⟨[]⟩) else (match a with
   | some ⟨b, off, none⟩ => (match y with
     | .int _ z => (match m.K b with
       | some (.cells l _ _) => if ((l.toList.drop off).take len).length = len ∧ ((l.toList.drop off).take len).all (srt z.toNat) = true then some (.agg ⟨(l.toList.drop off).take len⟩) else none
       | _ => none)
     | _ => none)
   | _ => none)
 | _ => none
noncomputable def iteI (x y z : Value) : Option Value :=
 match x with
 | .bool b => some (if b = true then y else z)
 | _ => none
noncomputable def lessI (x y : Value) : Option Value :=
 match x with
 | .int .i64 i => (match y with
   | .int .i64 j => some (.int .i64 (if i < j then i else j))
   | _ => none)
 | _ => none
noncomputable def stdI (m : Mu) (c s : Nat) (l : List Value) : Option Value :=
 match l with
 | [x] => if c = 18 then (match x with
   | .bool b => some (.bool (!b))
   | _ => none)
   else if c = 19 then (match x with
    | .int k n => some (.int k (k.wrap (0 - n)))
    | _ => none)
   else if c = 20 then (match x, codeK s with
    | .int _ n, some k => some (.int k (k.wrap n))
    | _, _ => none)
   else if c = 40 then (match x with
    | .pointer (some ⟨b, off, none⟩) => match m.K b with
      | some (.cells l _ _) => l.toList[off]?
      | _ => none
    | _ => none)
   else if c = 42 then (match x with
    | .slice _ n _ => some (.int .i64 n)
    | _ => none)
   else if c = 43 then (match x with
    | .string s => some (.int .i64 s.size)
    | _ => none)
   else if c = 48 then (match x with
    | .agg l => some (.int .i64 l.size)
    | _ => none)
   else none
 | [x, y] => if c = 21 then (match x, y with
   | .bool a, .bool b => some (.bool (a && b))
   | _, _ => none)
   else if c = 45 then (match x, y with
    | .pointer (some ⟨b, off, none⟩), .int _ j => if 0 ≤ j then some (.pointer (some ⟨b, off + j.toNat, none⟩)) else none
    | _, _ => none)
   else if c = 47 then (match x, y with
    | .agg l, .agg r => some (.agg ⟨l.toList ++ r.toList⟩)
    | _, _ => none)
   else if c = 49 then (match x, y with
    | .agg l, .int _ j => if 0 ≤ j then l.toList[j.toNat]? else none
    | _, _ => none)
   else if c = 50 then (match x, y with
    | .string s, .int _ j => if 0 ≤ j then (s.data.toList[j.toNat]?).map fun b => .int .u8 b.toNat else none
    | _, _ => none)
   else if c = 52 then noughtI x y
   else if c = 54 then heldI m x y
   else if c = 55 then lessI x y
   else match codeBin c with
    | some op => zag op x y
    | none => none
 | [x, i, e] => if c = 51 then putI x i e
   else if c = 53 then overI x i e
   else if c = 56 then iteI x i e
   else if c = 44 then elemI x i e
   else none
 | _ => none
noncomputable def dflt (s : Nat) : Value :=
 match codeK s with
 | some k => .int k 0
 | none => if s = 8 then .bool false else if s = 9 then .string ByteArray.empty else if s = 10 then .pointer (some ⟨0, 0, none⟩) else if s = 11 then .slice none 0 0 else if s = 13 then .agg #[] else .nilFunc
noncomputable def srtA (s : Nat) (v : Value) : Bool :=
 match v with
 | .agg _ => Nat.beq s 13
 | v => srt s v
noncomputable def fixS (s : Nat) (v : Value) : Value := if srtA s v = true then v else dflt s
noncomputable def itp (m : Mu) (op : Nat) (l : List Value) : Option Value :=
 match (if op / 16 < 64 then stdI m (op / 16) (op % 16) l else some (fixS (op % 16) (m.I op l))) with
 | some v => if srtA (op % 16) v = true then some v else none
 | none => none
mutual
noncomputable def den (m : Mu) : Value → Option Value
 | .func (.methodOf op _) a _ => match denA m a with
   | some l => if op = 1016 then some (.bool true) else itp m op l
   | none => if op = 1016 then some (.bool false) else none
 | .agg a => match denA m a with
   | some l => some (.agg ⟨l⟩)
   | none => none
 | .bool b => some (.bool b)
 | .int k n => some (.int k n)
 | .string s => some (.string s)
 | _ => none
noncomputable def denA (m : Mu) : Array Value → Option (List Value)
 | ⟨l⟩ => denL m l
noncomputable def denL (m : Mu) : List Value → Option (List Value)
 | [] => some []
 | v :: l => match den m v with
   | some a => match denL m l with
     | some b => some (a :: b)
     | none => none
   | none => none
end
structure Env where
 β : Nat → Nat
 tot : Nat → Nat
 m : Mu
theorem srt_one {s : Nat} {v : Value} (h : srt s v = true) : one v = true := by cases v <;> first | rfl | (simp [srt] at h)
theorem zaq {s : Nat} {v : Value} (h : srt s v = true) : srtA s v = true := by
 cases v <;> first | exact h | cases h
theorem zat {s : Nat} (hs : s ≠ 13) {v : Value} (h : srtA s v = true) : srt s v = true := by
 cases v <;> first | exact h | exact absurd (zad h) hs
theorem itp_srt {m : Mu} {op : Nat} {l : List Value} {v : Value} (h : itp m op l = some v) : srtA (op % 16) v = true := by
 unfold itp at h
 split at h
 ·split at h
  ·rename_i hs; cases h; exact hs
  ·cases h
 ·cases h
theorem den_srt {m : Mu} {op : Nat} {s : String} {a c : Array Value} {v : Value} (h : den m (.func (.methodOf op s) a c) = some v) : srtA (op % 16) v = true := by
 rw [den] at h
 split at h
 ·split at h
  ·rename_i ho; cases h; subst ho; rfl
  ·exact itp_srt h
 ·split at h
  ·rename_i ho; cases h; subst ho; rfl
  ·cases h
mutual
inductive RV (e : Env) (n : Nat) : Value → Value → Prop
 | plain (v : Value) (h : zas v = true) : RV e n v v
 | ptr (j off : Nat) (h : j < n) : RV e n (.pointer (some ⟨j, off, none⟩)) (.pointer (some ⟨e.β j, off, none⟩))
 | slice (j off len cap : Nat) (h : j < n) (hc : cap < CAPU) : RV e n (.slice (some ⟨j, off, none⟩) len cap) (.slice (some ⟨e.β j, off, none⟩) len cap)
 | sliceU (j len : Nat) (h : j < n) (hl : len ≤ e.tot j) : RV e n (.slice (some ⟨j, 0, none⟩) len CAPU) (.slice (some ⟨e.β j, 0, none⟩) len (e.tot j))
 | sliceV (j off len cap : Nat) (h : j < n) (hl : len ≤ cap) : RV e n (.slice (some ⟨j, off, none⟩) len CAPV) (.slice (some ⟨e.β j, off, none⟩) len cap)
 | sliceZ (a : Addr) (cap : Nat) : RV e n (.slice (some ⟨0, 0, some 0⟩) 0 CAPV) (.slice (some a) 0 cap)
 | map (j : Nat) (h : j < n) : RV e n (.map (some j)) (.map (some (e.β j)))
 | func (g : FuncId) (a b a' b' : Array Value) (ha : RL e n a.toList a'.toList) (hb : RL e n b.toList b'.toList) : RV e n (.func (.func g) a b) (.func (.func g) a' b')
 | yield (l : Nat) (h : l < n) : RV e n (.func (.yield l) #[] #[]) (.func (.yield (e.β l)) #[] #[])
 | iface (t : TypeId) (v v' : Value) (h : RV e n v v') : RV e n (.iface t v) (.iface t v')
 | agg (a a' : Array Value) (h : RL e n a.toList a'.toList) : RV e n (.agg a) (.agg a')
 | tuple (a a' : Array Value) (h : RL e n a.toList a'.toList) : RV e n (.tuple a) (.tuple a')
 | sym (op : Nat) (s : String) (a c : Array Value) (v' : Value) (h : den e.m (.func (.methodOf op s) a c) = some v') (hs : srt (op % 16) v' = true) : RV e n (.func (.methodOf op s) a c) v'
 | elem (j off ed len q : Nat) (i : Value) (k : IntKind) (h : j < n) (hi : den e.m i = some (.int k q)) (hq : q < len) : RV e n (elv j off ed len i) (.pointer (some ⟨e.β j, off + q * ed, none⟩))
 | sliceG (j : Nat) (h : j < n) : RV e n (.slice (some ⟨j, 0, some 7⟩) 0 CAPU) (.slice (some ⟨e.β j, 0, none⟩) (e.tot j % 9223372036854775808) (e.tot j / 9223372036854775808))
 | elemG (j q : Nat) (i : Value) (h : j < n) (hi : den e.m i = some (.int .i64 q)) (hq : q < e.tot j % 9223372036854775808) : RV e n (elG j i) (.pointer (some ⟨e.β j, q, none⟩))
 | partG (j q : Nat) (i : Value) (h : j < n) (hi : den e.m i = some (.int .i64 q)) (hq : q ≤ e.tot j % 9223372036854775808) : RV e n (subG j i) (.slice (some ⟨e.β j, if e.tot j / 9223372036854775808 = q then 0 else q, none⟩) (e.tot j % 9223372036854775808 - q) (e.tot j / 9223372036854775808 - q))
inductive RL (e : Env) (n : Nat) : List Value → List Value → Prop
 | nil : RL e n [] []
 | cons (v v' : Value) (l l' : List Value) (h : RV e n v v') (hl : RL e n l l') : RL e n (v :: l) (v' :: l')
end
structure Ext (e : Env) (n : Nat) (e' : Env) (n' : Nat) : Prop where
 le : n ≤ n'
 β : ∀ j, j < n → e'.β j = e.β j
 tot : ∀ j, j < n → e'.tot j = e.tot j
 m : e'.m = e.m
theorem Ext.refl (e : Env) (n : Nat) : Ext e n e n := ⟨Nat.le_refl _, fun _ _ => rfl, fun _ _ => rfl, rfl⟩
theorem Ext.trans {a b c : Env} {n m k : Nat} (h : Ext a n b m) (h' : Ext b m c k) : Ext a n c k :=
 ⟨Nat.le_trans h.le h'.le, fun j hj => (h'.β j (Nat.lt_of_lt_of_le hj h.le)).trans (h.β j hj), fun j hj => (h'.tot j (Nat.lt_of_lt_of_le hj h.le)).trans (h.tot j hj), h'.m.trans h.m⟩
mutual
theorem RV.mono {e e' : Env} {n n' : Nat} (x : Ext e n e' n') : ∀ {v v' : Value}, RV e n v v' → RV e' n' v v'
 | _, _, .plain v h => .plain v h
 | _, _, .ptr j off h => by rw [← x.β j h]; exact .ptr j off (Nat.lt_of_lt_of_le h x.le)
 | _, _, .slice j off len cap h hc => by rw [← x.β j h]; exact .slice j off len cap (Nat.lt_of_lt_of_le h x.le) hc
 | _, _, .sliceU j len h hl => by rw [← x.β j h, ← x.tot j h]; exact .sliceU j len (Nat.lt_of_lt_of_le h x.le) (by rw [x.tot j h]; exact hl)
 | _, _, .sliceV j off len cap h hl => by rw [← x.β j h]; exact .sliceV j off len cap (Nat.lt_of_lt_of_le h x.le) hl
 | _, _, .sliceZ a cap => .sliceZ a cap
 | _, _, .map j h => by rw [← x.β j h]; exact .map j (Nat.lt_of_lt_of_le h x.le)
 | _, _, .func g a b a' b' ha hb => .func g a b a' b' (RL.mono x ha) (RL.mono x hb)
 | _, _, .yield l h => by rw [← x.β l h]; exact .yield l (Nat.lt_of_lt_of_le h x.le)
 | _, _, .iface t v v' h => .iface t v v' (RV.mono x h)
 | _, _, .agg a a' h => .agg a a' (RL.mono x h)
 | _, _, .tuple a a' h => .tuple a a' (RL.mono x h)
 | _, _, .sym op s a c v' h hs => .sym op s a c v' (by rw [x.m]; exact h) hs
 | _, _, .elem j off ed len q i k h hi hq => by rw [← x.β j h]; exact .elem j off ed len q i k (Nat.lt_of_lt_of_le h x.le) (by rw [x.m]; exact hi) hq
 | _, _, .sliceG j h => by rw [← x.β j h, ← x.tot j h]; exact .sliceG j (Nat.lt_of_lt_of_le h x.le)
 | _, _, .elemG j q i h hi hq => by rw [← x.β j h]; exact .elemG j q i (Nat.lt_of_lt_of_le h x.le) (by rw [x.m]; exact hi) (by rw [x.tot j h]; exact hq)
 | _, _, .partG j q i h hi hq => by rw [← x.β j h, ← x.tot j h]; exact .partG j q i (Nat.lt_of_lt_of_le h x.le) (by rw [x.m]; exact hi) (by rw [x.tot j h]; exact hq)
theorem RL.mono {e e' : Env} {n n' : Nat} (x : Ext e n e' n') : ∀ {l l' : List Value}, RL e n l l' → RL e' n' l l'
 | _, _, .nil => .nil
 | _, _, .cons v v' l l' h hl => .cons v v' l l' (RV.mono x h) (RL.mono x hl)
end
section
variable {e : Env} {n : Nat}
theorem RL.length : ∀ {l l' : List Value}, RL e n l l' → l.length = l'.length
 | _, _, .nil => rfl
 | _, _, .cons _ _ _ _ _ hl => by simp [RL.length hl]
theorem RL.get : ∀ {l l' : List Value}, RL e n l l' → ∀ {i : Nat} {v : Value}, l[i]? = some v → ∃ v', l'[i]? = some v' ∧ RV e n v v'
 | _, _, .nil, i, v, h => by simp at h
 | _, _, .cons u u' l l' h hl, i, v, hi => by
   cases i with
   | zero => simp at hi; subst hi; exact ⟨u', by simp, h⟩
   | succ i => simp at hi; obtain ⟨v', h1, h2⟩ := RL.get hl hi; exact ⟨v', by simp [h1], h2⟩
theorem RL.append : ∀ {l l' r r' : List Value}, RL e n l l' → RL e n r r' → RL e n (l ++ r) (l' ++ r')
 | _, _, _, _, .nil, hr => hr
 | _, _, _, _, .cons u u' l l' h hl, hr => .cons u u' _ _ h (RL.append hl hr)
theorem RL.drop : ∀ {l l' : List Value}, RL e n l l' → ∀ k, RL e n (l.drop k) (l'.drop k)
 | _, _, h, 0 => by simpa using h
 | _, _, .nil, k + 1 => by simpa using RL.nil
 | _, _, .cons u u' l l' h hl, k + 1 => by simpa using RL.drop hl k
theorem RL.take : ∀ {l l' : List Value}, RL e n l l' → ∀ k, RL e n (l.take k) (l'.take k)
 | _, _, _, 0 => by simpa using RL.nil
 | _, _, .nil, k + 1 => by simpa using RL.nil
 | _, _, .cons u u' l l' h hl, k + 1 => by simpa using RL.cons _ _ _ _ h (RL.take hl k)
theorem RL.plain : ∀ {l : List Value}, (∀ v ∈ l, zas v = true) → RL e n l l
 | [], _ => .nil
 | v :: l, h => .cons _ _ _ _ (.plain v (h v (by simp))) (RL.plain fun u hu => h u (List.mem_cons_of_mem _ hu))
theorem RV.one {v v' : Value} (h : RV e n v v') : one v = one v' := by
 cases h with
 | sym op s a c v' h hs => rw [srt_one hs]; rfl
 | _ => rfl
theorem RL.allOne : ∀ {l l' : List Value}, RL e n l l' → l.all one = l'.all one
 | _, _, .nil => rfl
 | _, _, .cons u u' l l' h hl => by simp [RL.allOne hl, h.one]
theorem RV.cells {v v' : Value} (h : RV e n v v') : RL e n (cellsOfV v) v'.cells.toList := by
 cases h with
 | plain v h => cases v with
   | agg l =>
     simp only [zas, List.isEmpty_iff] at h
     simp only [cellsOfV, Value.cells, h]; exact .nil
   | _ => exact .cons _ _ _ _ (.plain _ h) .nil
 | agg a a' h => exact h
 | ptr j off h => exact .cons _ _ _ _ (.ptr j off h) .nil
 | slice j off len cap h hc => exact .cons _ _ _ _ (.slice j off len cap h hc) .nil
 | sliceU j len h hl => exact .cons _ _ _ _ (.sliceU j len h hl) .nil
 | sliceV j off len cap h hl => exact .cons _ _ _ _ (.sliceV j off len cap h hl) .nil
 | sliceZ a cap => exact .cons _ _ _ _ (.sliceZ a cap) .nil
 | map j h => exact .cons _ _ _ _ (.map j h) .nil
 | func g a b a' b' ha hb => exact .cons _ _ _ _ (.func g a b a' b' ha hb) .nil
 | yield l h => exact .cons _ _ _ _ (.yield l h) .nil
 | iface t v v' h => exact .cons _ _ _ _ (.iface t v v' h) .nil
 | tuple a a' h => exact .cons _ _ _ _ (.tuple a a' h) .nil
 | elem j off ed len q i k h hi hq => exact .cons _ _ _ _ (.elem j off ed len q i k h hi hq) .nil
 | sliceG j h => exact .cons _ _ _ _ (.sliceG j h) .nil
 | elemG j q i h hi hq => exact .cons _ _ _ _ (.elemG j q i h hi hq) .nil
 | partG j q i h hi hq => exact .cons _ _ _ _ (.partG j q i h hi hq) .nil
 | sym op s a c v' h hs =>
   have h1 := srt_one hs
   have : v'.cells = #[v'] := by cases v' <;> first | rfl | (cases h1)
   rw [this]
   exact .cons _ _ _ _ (.sym op s a c v' h hs) .nil
theorem over_eq : ∀ (l cs : List Value), cs.length ≤ l.length → over l cs = cs ++ l.drop cs.length
 | [], [], _ => rfl
 | _ :: _, [], _ => by simp [over]
 | [], _ :: _, h => by simp at h
 | a :: l, c :: cs, h => by simp [over]; exact over_eq l cs (by simpa using h)
theorem splx_eq : ∀ (l : List Value) (k : Nat) (cs : List Value), k + cs.length ≤ l.length → splx l k cs = splice l k cs
 | l, 0, cs, h => by simp [splx, splice, over_eq l cs (by simpa using h)]
 | [], k + 1, cs, h => by simp at h
 | a :: l, k + 1, cs, h => by
   simp only [splx, splx_eq l k cs (by simp at h; omega), splice, List.take_succ_cons, List.cons_append, List.cons.injEq, true_and]
   rw [show k + 1 + cs.length = (k + cs.length) + 1 by omega, List.drop_succ_cons]
theorem RL.splice {l l' cs cs' : List Value} (h : RL e n l l') (hc : RL e n cs cs') (k : Nat) : RL e n (Gx.splice l k cs) (Gx.splice l' k cs') := by
 unfold Gx.splice
 rw [← hc.length]
 exact ((h.take k).append hc).append (h.drop _)
end
end Go.Gz
