/- What is known of calls, for the evaluator over terms: what codes mean, for any law; contracts of words, plans, lists, as entries. -/
import Derived.Test.YteglommbdpaokaaGreatA1
import Derived.Test.YteglommbdpaokaaGreatGzLf
import Derived.Test.YteglommbdpaokaaGreatGzPu
import Derived.Test.YteglommbdpaokaaGreatGzDe3
set_option linter.unusedSimpArgs false
set_option linter.unusedVariables false
namespace Go.Proofs.YteglommbdpaokaaGreat
open Go Go.Gz Go.RowKit
def tl (K : Nat → Option Obj) (p : Option Addr) (k : Nat) : List ByteArray := (txt K p k).getD []
def firstT (K : Nat → Option Obj) (p : Option Addr) (k : Nat) : ByteArray := (tl K p k).headD ByteArray.empty
def inA (T S a : Int) : Bool := decide (1 ≤ T ∧ T ≤ 8 ∧ 32 ≤ S ∧ S ≤ 4096 ∧ 3 + 2 * T ≤ a ∧ a < 3 + 2 * T + 2 * S)
def partNo (T S a : Int) : Int := if inA T S a = true then (a - (3 + 2 * T)) / S else 0
def partAt (T S a : Int) : Int := if inA T S a = true then (a - (3 + 2 * T)) % S else 0
def baseOf (T S a : Int) : Int := if inA T S a = true then 3 + 2 * T + (a - (3 + 2 * T)) / S * S else a
noncomputable def GI (K : Nat → Option Obj) (op : Nat) (l : List Value) : Value :=
 match op, l with
 | 80008, [.slice p k _] => .bool (txt K p k).isSome
 | 65544, [.slice p k _] => .bool (fewB (tl K p k))
 | 80024, [.slice p k _] => .bool (okShapes (tl K p k))
 | 65560, [.int _ T, .int _ S, .slice p k _] => .bool (okPlan T S (tl K p k))
 | 65571, [.int _ T, .int _ t] => .int .i64 (IntKind.wrap .i64 (3 + T + t))
 | 65592, [.int _ T, .int _ S, .slice p k _, .int _ x] => .bool (fitB T S (tl K p k) x)
 | 65603, [.int _ x] => .int .i64 (if kindW x = 2 then x / 8 else 0)
 | 65624, [.int _ x] => .bool (decide (kindW x = 2))
 | 65640, [.int _ T, .int _ S, .slice p k _, .int _ a] => .bool (insideB T S (tl K p k) a)
 | 65651, [.int _ x] => .int .i64 (kindW x)
 | 65672, [.int _ x] => .bool (sealedW x)
 | 65683, [.int _ x] => .int .i64 (valW x (kindW x))
 | 65703, [.int _ a] => .int .u64 (IntKind.wrap .u64 (8 * IntKind.wrap .u64 a))
 | 65720, [.int _ x] => .bool (isHdr x)
 | 65731, [.int _ x] => .int .i64 (hShape x)
 | 65747, [.int _ x] => .int .i64 (hMark x)
 | 65763, [.int _ T, .int _ S, .int _ a] => .int .i64 (partNo T S a)
 | 65779, [.int _ T, .int _ S, .int _ a] => .int .i64 (partAt T S a)
 | 65795, [.slice p k _, .int _ s] => .int .i64 (if okShapes (tl K p k) = true then sizeL (tl K p k) s else 0)
 | 65811, [.int _ T, .int _ S, .int _ a] => .int .i64 (baseOf T S a)
 | 65832, [.slice _ k _, .int _ s] => .bool (decide (0 ≤ s ∧ s < k))
 | 65843, [.int _ k] => .int .i64 (fieldN k)
 | 65864, [.int _ k] => .bool (isF k)
 | 66093, [.int _ T, .int _ S, .slice p k _] => .agg ⟨(stCells T S (firstT K p k) (firstT K p k).size).drop (3 + 2 * T).toNat⟩
 | 66103, [.int _ S, .slice p k _] => .int .u64 (IntKind.wrap .u64 (2 * (2 + (firstT K p k).size) + 16384 * S))
 | _, _ => undef
def Glob (m : Mu) : Prop := ∀ op l, 4096 ≤ op / 16 → op / 16 < 6000 → m.I op l = GI m.K op l
theorem code_val {m : Mu} (hm : Glob m) {op : Nat} {l : List Value} {v : Value} (h1 : 4096 ≤ op / 16) (h2 : op / 16 < 6000) (hv : srtA (op % 16) v = true) (hg : GI m.K op l = v) : itp m op l = some v := by
 unfold itp
 rw [if_neg (by omega), hm op l h1 h2, hg]
 have hf : fixS (op % 16) v = v := by unfold fixS; exact if_pos hv
 simp only [hf]
 exact if_pos hv
theorem code_bool {m : Mu} (hm : Glob m) {op : Nat} {l : List Value} {b c : Bool} (h : itp m op l = some (.bool c)) (h1 : 4096 ≤ op / 16) (h2 : op / 16 < 6000) (h3 : op % 16 = 8) (hg : GI m.K op l = .bool b) : b = c := by
 have := code_val hm h1 h2 (by rw [h3]; rfl) hg
 rw [h] at this
 cases this; rfl
theorem Glob.tx {m : Mu} (hm : Glob m) : TxOk m := fun p k c h => Option.isSome_iff_exists.1 (code_bool hm h (by decide) (by decide) rfl rfl)
theorem s_int {k : IntKind} {v : Value} (h : srt (kCode k) v = true) : ∃ n, v = .int k n ∧ wfK k n = true := by
 obtain ⟨k', n, rfl, hk, hw⟩ := srt_num (kCode_lt k) h
 have : k' = k := by cases k <;> cases k' <;> first | rfl | cases hk
 subst this
 exact ⟨n, rfl, hw⟩
theorem S3 {ss : List Nat} {vs : List Value} (h : Sorted (3 :: ss) vs) : ∃ n l, vs = .int .i64 n :: l ∧ (-9223372036854775808 ≤ n ∧ n < 9223372036854775808) ∧ Sorted ss l := by
 match vs, h with
 | v :: l, h =>
   obtain ⟨n, rfl, hw⟩ := s_int (k := .i64) h.1
   rw [wfK_iff] at hw
   exact ⟨n, l, rfl, by simp only at hw; omega, h.2⟩
theorem S7 {ss : List Nat} {vs : List Value} (h : Sorted (7 :: ss) vs) : ∃ n l, vs = .int .u64 n :: l ∧ (0 ≤ n ∧ n ≤ 18446744073709551615) ∧ Sorted ss l := by
 match vs, h with
 | v :: l, h =>
   obtain ⟨n, rfl, hw⟩ := s_int (k := .u64) h.1
   rw [wfK_iff] at hw
   exact ⟨n, l, rfl, by simp only at hw; omega, h.2⟩
theorem S11 {ss : List Nat} {vs : List Value} (h : Sorted (11 :: ss) vs) : ∃ p k c l, vs = .slice p k c :: l ∧ k < 9223372036854775808 ∧ Sorted ss l := by
 match vs, h with
 | v :: l, h =>
   obtain ⟨p, k, c, rfl, w⟩ := srt_slice h.1
   exact ⟨p, k, c, l, rfl, w, h.2⟩
theorem S0 {vs : List Value} (h : Sorted [] vs) : vs = [] := by cases vs <;> first | rfl | exact h.elim
theorem S_plan {ss : List Nat} {vs : List Value} (h : Sorted (3 :: 3 :: 11 :: ss) vs) : ∃ T S p k c l, vs = .int .i64 T :: .int .i64 S :: .slice p k c :: l ∧ Sorted ss l := by
 obtain ⟨T, _, rfl, _, h⟩ := S3 h
 obtain ⟨S, _, rfl, _, h⟩ := S3 h
 obtain ⟨p, k, c, l, rfl, _, h⟩ := S11 h
 exact ⟨T, S, p, k, c, l, rfl, h⟩
theorem i64S {n : Int} (h : -9223372036854775808 ≤ n ∧ n < 9223372036854775808) : srt 3 (.int .i64 n) = true := zav (k := .i64) (by rw [wfK_iff]; simp only; omega)
theorem u64S {n : Int} (h : 0 ≤ n ∧ n ≤ 18446744073709551615) : srt 7 (.int .u64 n) = true := zav (k := .u64) (by rw [wfK_iff]; simp only; omega)
theorem shp_of {m : Mu} {w : World} (hm : Glob m) (hk : KOk m w) {p : Option Addr} {k c : Nat} (h : itp m 80008 [.slice p k c] = some (.bool true)) : Shp w p k (tl m.K p k) := by
 have h1 : (txt m.K p k).isSome = true := code_bool hm h (by decide) (by decide) rfl rfl
 obtain ⟨L, hL⟩ := Option.isSome_iff_exists.1 h1
 obtain ⟨g1, g2⟩ := txt_get hL
 have e : tl m.K p k = L := by unfold tl; rw [hL]; rfl
 rw [e]
 refine ⟨g1, ?_⟩
 rcases g2 with g | ⟨b, off, cs, t, z, e1, e2, e3⟩
 ·exact .inl g
 ·exact .inr ⟨b, off, cs, t, z, e1, hk b _ e2, e3⟩
theorem few_small {L : List ByteArray} (h : fewB L = true) : (∀ s ∈ L, s.size ≤ 1000) ∧ L.length ≤ 1000 := by
 unfold fewB at h
 rw [Bool.and_eq_true] at h
 refine ⟨fun s hs => ?_, by have := of_decide_eq_true h.1; omega⟩
 have := of_decide_eq_true (List.all_eq_true.1 h.2 s hs)
 omega
section
variable {m : Mu} (hm : Glob m)
include hm
theorem gAddrV {x : Int} (hx : 0 ≤ x ∧ x ≤ 18446744073709551615) : itp m 65603 [.int .u64 x] = some (.int .i64 (if kindW x = 2 then x / 8 else 0)) :=
 code_val hm (by decide) (by decide) (i64S (by split <;> omega)) rfl
theorem gIsV {x : Int} : itp m 65624 [.int .u64 x] = some (.bool (decide (kindW x = 2))) := code_val hm (by decide) (by decide) rfl rfl
theorem gFew : EntOk Tryz.prog m (entG (pFew 4)) := by
 refine entG_ok (by kernel_rfl) (by kernel_rfl) fun w vs hk hs => ?_
 obtain ⟨T, S, p, k, c, _, rfl, hs2⟩ := S_plan hs
 cases S0 hs2
 unfold pFew
 simp only [DOk, vR3, vR2, vR2s, vR1, vR1s, vAp, vIxs, vIx, List.getElem?_cons_zero, List.getElem?_cons_succ]
 intro h0
 exact ⟨_, code_val hm (by decide) (by decide) rfl rfl, c_few T S _ p k c w (shp_of hm hk h0)⟩
theorem gRight : EntOk Tryz.prog m (entG (pRight 15)) := by
 refine entG_ok (by kernel_rfl) (by kernel_rfl) fun w vs hk hs => ?_
 obtain ⟨T, S, p, k, c, _, rfl, hs2⟩ := S_plan hs
 cases S0 hs2
 unfold pRight
 simp only [DOk, vR3, vR2, vR2s, vR1, vR1s, vAp, vIxs, vIx, List.getElem?_cons_zero, List.getElem?_cons_succ]
 intro h0 h1
 have hf : fewB (tl m.K p k) = true := code_bool hm h1 (by decide) (by decide) rfl rfl
 have hs := shp_of hm hk h0
 exact ⟨_, code_val hm (by decide) (by decide) rfl rfl, c_right6 T S _ p k c w hs (few_small hf).1 (by rw [← hs.len]; exact (few_small hf).2)⟩
theorem gCheck : EntOk Tryz.prog m (entG (pCheck 79)) := by
 refine entG_ok (by kernel_rfl) (by kernel_rfl) fun w vs hk hs => ?_
 obtain ⟨T, S, p, k, c, _, rfl, hs2⟩ := S_plan hs
 cases S0 hs2
 unfold pCheck
 simp only [DOk, vR3, vR2, vR2s, vR1, vR1s, vAp, vIxs, vIx, List.getElem?_cons_zero, List.getElem?_cons_succ]
 intro h0
 have hg := c_check T S _ p k c w (shp_of hm hk h0)
 refine ⟨fun h1 => ?_, fun h1 => ?_⟩
 ·rw [code_bool hm h1 (by decide) (by decide) rfl rfl, if_pos rfl] at hg
  exact ⟨_, rfl, hg⟩
 ·rw [code_bool hm h1 (by decide) (by decide) rfl rfl, if_neg (by decide)] at hg
  exact ⟨_, rfl, hg⟩
theorem gFit : EntOk Tryz.prog m (entG (pFit 65)) := by
 refine entG_ok (by kernel_rfl) (by kernel_rfl) fun w vs hk hs => ?_
 obtain ⟨T, S, p, k, c, _, rfl, hs2⟩ := S_plan hs
 obtain ⟨x, _, rfl, hx, hs3⟩ := S7 hs2
 cases S0 hs3
 unfold pFit
 simp only [DOk, vR3, vR2, vR2s, vR1, vR1s, vAp, vIxs, vIx, List.getElem?_cons_zero, List.getElem?_cons_succ]
 intro h0
 exact ⟨_, code_val hm (by decide) (by decide) rfl rfl, c_Fit T S x hx _ p k c w (shp_of hm hk h0)⟩
theorem gRFit : EntOk Tryz.prog m (entG (pRFit 17)) := by
 refine entG_ok (by kernel_rfl) (by kernel_rfl) fun w vs hk hs => ?_
 obtain ⟨T, S, p, k, c, _, rfl, hs2⟩ := S_plan hs
 obtain ⟨x, _, rfl, hx, hs3⟩ := S7 hs2
 cases S0 hs3
 unfold pRFit
 simp only [DOk, vR3, vR2, vR2s, vR1, vR1s, vAp, vIxs, vIx, List.getElem?_cons_zero, List.getElem?_cons_succ]
 intro h0 h1
 have o1 : okPlan T S (tl m.K p k) = true := code_bool hm h1 (by decide) (by decide) rfl rfl
 exact ⟨_, code_val hm (by decide) (by decide) rfl rfl, c_rfit T S x hx _ o1 p k c w⟩
theorem gOfV {x : Int} (hx : 0 ≤ x ∧ x ≤ 18446744073709551615) : itp m 65651 [.int .u64 x] = some (.int .i64 (kindW x)) ∧ itp m 65672 [.int .u64 x] = some (.bool (sealedW x)) ∧ itp m 65683 [.int .u64 x] = some (.int .i64 (valW x (kindW x))) := by
 refine ⟨code_val hm (by decide) (by decide) (i64S ?_) rfl, code_val hm (by decide) (by decide) rfl rfl, code_val hm (by decide) (by decide) (i64S ?_) rfl⟩
 ·have := kind_0 x; omega
 ·unfold valW; split
  ·omega
  ·split <;> omega
end
theorem opened_get {P : Program} {ts : List TypeId} {vs : List Value} {av : List (List Value)} (ho : Opened P ts vs av) : ∀ {p : Nat} {t : TypeId} {ss : List Nat}, ts[p]? = some t → zl P 20 t = some ss → ∃ cs, av[p]? = some cs ∧ Sorted ss cs := by
 induction ho with
 | nil => intro p t ss h; simp at h
 | agg t ts cs vs av ss hz hs ha ho ih =>
   intro p t' ss' h1 h2
   cases p with
   | zero => simp at h1; subst h1; rw [hz] at h2; cases h2; exact ⟨_, rfl, hs⟩
   | succ p => obtain ⟨cs', k1, k2⟩ := ih (p := p) (by simpa using h1) h2; exact ⟨cs', by simpa using k1, k2⟩
 | one t ts v vs av s hz hs ha ho ih =>
   intro p t' ss' h1 h2
   cases p with
   | zero => simp at h1; subst h1; rw [hz] at h2; cases h2; exact ⟨_, rfl, hs, trivial⟩
   | succ p => obtain ⟨cs', k1, k2⟩ := ih (p := p) (by simpa using h1) h2; exact ⟨cs', by simpa using k1, k2⟩
section
variable {H : Type} {enc : TypeId × Value → H} {P : Program} (hP : Small P) {W : World} {base : Nat} {ts : List TypeId} {vs : List Value} {ds : List (DataW H)} {ps : List MemPlace} {av : List (List Value)}
 (hA : DataW.TrodAll enc P W base (fun _ => true) true ts vs ds ps) (ho : Opened P ts vs av) {m : Mu} (hI : ArgI m av) (hK : m.K = fun r => W.heap[r]?)
include hP hA ho hI hK
omit hK in
theorem start_cell {p j s : Nat} {t u : TypeId} {us : List TypeId} {ss : List Nat} (h1 : ts[p]? = some t) (h2 : zl P 20 t = some ss) (h3 : zt P 20 t = some us) (h4 : us[j]? = some u) (h5 : ss[j]? = some s) (h6 : j < 128) :
  ∃ v, den m (cellV p j s) = some v ∧ srt s v = true ∧ CellOk enc P W base (fun _ => true) true u v := by
 obtain ⟨cs, g1, g2⟩ := opened_get ho h1 h2
 have hlt := (List.getElem?_eq_some_iff.1 h5).1
 have hlen := g2.len
 have hv : cs[j]? = some cs[j] := List.getElem?_eq_getElem (by omega)
 have hs := g2.get h5 hv
 exact ⟨_, den_cell (srt_lt hs) (by omega) (hI p j s cs _ h6 (srt_lt hs) g1 hv) hs, hs, args_cells hP ho hA p t us cs h1 h3 g1 j u _ h4 hv⟩
theorem start_texts (hm : Glob m) {p j : Nat} {t u e : TypeId} {us : List TypeId} {ss : List Nat} (h1 : ts[p]? = some t) (h2 : zl P 20 t = some ss) (h3 : zt P 20 t = some us) (h4 : us[j]? = some u) (h5 : ss[j]? = some 11) (h6 : j < 128)
  (hu : P.underlying u = some (.slice e)) (he : P.underlying e = some .string) (hc : P.cellsOf e = 1) : den m (sy 80008 [cellV p j 11]) = some (.bool true) := by
 obtain ⟨v, g1, _, g3⟩ := start_cell hP hA ho hI h1 h2 h3 h4 h5 h6
 obtain ⟨q, k, c, L, rfl, g4⟩ := cell_texts hu he hc g3
 unfold sy
 rw [den_1 (by decide) g1]
 refine code_val hm (by decide) (by decide) rfl ?_
 show Value.bool (txt m.K q k).isSome = _
 rw [hK, g4]; rfl
end
end Go.Proofs.YteglommbdpaokaaGreat
