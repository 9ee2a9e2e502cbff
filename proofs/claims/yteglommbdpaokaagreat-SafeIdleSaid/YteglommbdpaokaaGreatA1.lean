/- Contracts: arenas' words. -/
import Derived.Test.YteglommbdpaokaaGreatL10
import Derived.Test.YteglommbdpaokaaGreatGzSub
set_option linter.unusedSimpArgs false
set_option linter.unusedVariables false
namespace Go.Proofs.YteglommbdpaokaaGreat
open Go.Gx Go.RowKit
set_option maxRecDepth 100000
set_option maxHeartbeats 2000000
def NumAt (cs : List Value) (f : Nat → Int) (n : Nat) : Prop := ∀ i, i < n → cs[i]? = some (.int .u64 (f i))
def eqB (f g : Nat → Int) (n n2 : Nat) : Bool := decide (n = n2) && (List.range n).all fun i => decide (f i = g i)
theorem eqB_ne {f g : Nat → Int} {n n2 : Nat} (h : n ≠ n2) : eqB f g n n2 = false := by simp [eqB, h]
theorem eqB_at {f g : Nat → Int} {n i : Nat} (h : i < n) (hi : f i ≠ g i) : eqB f g n n = false := by
 rw [eqB, Bool.and_eq_false_iff]; right
 rw [Bool.eq_false_iff]
 intro h2
 have := List.all_eq_true.1 h2 i (List.mem_range.2 h)
 simp at this; exact hi this
theorem eqB_all {f g : Nat → Int} {n : Nat} (h : ∀ i, i < n → f i = g i) : eqB f g n n = true := by
 rw [eqB, Bool.and_eq_true]
 exact ⟨by simp, List.all_eq_true.2 fun i hi => by simp [h i (List.mem_range.1 hi)]⟩
theorem c_equal (cs1 cs2 : List Value) (f g : Nat → Int) (n n2 k1 k2 b1 b2 : Nat) (t1 t2 : TypeId) (z1 z2 : Nat × Nat) (w : World) (h1 : w.heap[b1]? = some (.cells cs1.toArray t1 z1)) (h2 : w.heap[b2]? = some (.cells cs2.toArray t2 z2)) (hne : b1 ≠ b2) (hn : n < 9223372036854775808)
  (hf : NumAt cs1 f n) (hg : NumAt cs2 g n2) : Gives Tryz.prog 35 [.slice (some ⟨b1, 0, none⟩) n k1, .slice (some ⟨b2, 0, none⟩) n2 k2] w (.bool (eqB f g n n2)) := by
 refine zal 100 fu35 rfl _ w _ [b1, b2] [.r cs1 t1 z1, .r cs2 t2 z2] (.cons h1 (by simp [HE.kind]) (by simp [hne]) (.cons h2 (by simp [HE.kind]) (by simp) (.nil w))) fun β hβ hbs => ?_
 obtain rfl : β 0 = b1 := hbs 0 _ rfl
 obtain rfl : β 1 = b2 := hbs 1 _ rfl
 clear h1 h2 hne
 simp only [gx, ft, ↓zae, ↓zab, zak hβ, zaj hβ, Nat.reduceAdd, Nat.reduceSub, Nat.reduceMul, Nat.reduceLT, Nat.reduceLeDiff, Nat.reduceEqDiff, Int.cast_ofNat_Int, Int.reduceLT, Int.reduceLE, Int.reduceToNat, Int.reduceAdd, Int.reduceNeg, Int.reduceEq, reduceCtorEq, wrap_i, wrap_u, false_or, true_and, and_true, or_true, cond_true, cond_false, or_false, true_or]
 refine gd_n (fun h3 => ?_) fun h3 => ?_
 ·exact fun w' hw => by first | (refine ⟨?_, hw.same rfl⟩; rw [eqB_ne (by omega)]) | exact hw.same rfl
 have : n = n2 := by omega
 subst this
 clear h3
 revert β
 refine loop_setsR fu35 [13, 5, 14, 15, 16, 17, 18, 19, 20, 21, 22, 23, 24, 25] 100
  (fun m _ u hp => ∃ i : Nat, i ≤ n ∧ m = n - i ∧ u 13 = .int .i64 i ∧ hp = [.r cs1 t1 z1, .r cs2 t2 z2] ∧ ∀ j, j < i → f j = g j) n (fun _ _ => ⟨0, by omega, rfl, rfl, rfl, fun _ h => by omega⟩) ?_
 rintro m ih β u hp hβ ⟨i, hi, rfl, hu, rfl, hall⟩ β' hβ ha
 simp only [ha, zaf, gx, ft, ↓zae, ↓zab, zak hβ, zaj hβ, Nat.reduceAdd, Nat.reduceSub, Nat.reduceMul, Nat.reduceLT, Nat.reduceLeDiff, Nat.reduceEqDiff, Int.cast_ofNat_Int, Int.reduceLT, Int.reduceLE, Int.reduceToNat, Int.reduceAdd, Int.reduceNeg, Int.reduceEq, reduceCtorEq, wrap_i, wrap_u, false_or, true_and, and_true, or_true, cond_true, cond_false, or_false, true_or, sets, hu]
 refine gd_i (fun h3 => ?_) fun h3 => ?_
 ·have hil : i < n := by omega
  have h4 : (i : Int).toNat = i := by omega
  have h5 := hf i hil
  have h6 := hg i hil
  refine draw_run fu35 mixed hβ 100 [] (by decide +kernel) fun β hβ ha => ?_
  simp only [ha, zaf, gx, ft, ↓zae, ↓zab, zak hβ, zaj hβ, Nat.reduceAdd, Nat.reduceSub, Nat.reduceMul, Nat.reduceLT, Nat.reduceLeDiff, Nat.reduceEqDiff, Int.cast_ofNat_Int, Int.reduceLT, Int.reduceLE, Int.reduceToNat, Int.reduceAdd, Int.reduceNeg, Int.reduceEq, reduceCtorEq, wrap_i, wrap_u, false_or, true_and, and_true, or_true, cond_true, cond_false, or_false, true_or, h4, h5, h6]
  refine ⟨⟨by omega, by omega⟩, ⟨by omega, by omega⟩, gd_n (fun h7 => ?_) fun h7 => ?_⟩
  ·exact fun w' hw => by first | (refine ⟨?_, hw.same rfl⟩; rw [eqB_at hil h7]) | exact hw.same rfl
  ·rw [wrap_i _ (by omega)]
   refine ih _ β _ _ (by omega) hβ ⟨i + 1, by omega, rfl, by simp, rfl, fun j hlt => ?_⟩ rfl
   rcases Nat.lt_or_ge j i with h | h
   ·exact hall j h
   ·obtain rfl : j = i := by omega
    exact h7
 ·exact fun w' hw => by first | (refine ⟨?_, hw.same rfl⟩; rw [eqB_all fun j hj => hall j (by omega)]) | exact hw.same rfl
theorem c_rword0 (w : World) : Gives Tryz.prog 24 [.int .i64 0, .int .i64 0] w (.int .u64 6) := by
 refine zal 100 fu24 rfl _ w _ [] [] (.nil w) fun β hβ _ => ?_
 simp only [gx, ft, ↓zae, ↓zab, zak hβ, zaj hβ, Nat.reduceAdd, Nat.reduceSub, Nat.reduceMul, Nat.reduceLT, Nat.reduceLeDiff, Nat.reduceEqDiff, Int.cast_ofNat_Int, Int.reduceLT, Int.reduceLE, Int.reduceToNat, Int.reduceAdd, Int.reduceNeg, Int.reduceEq, reduceCtorEq, wrap_i, wrap_u, false_or, true_and, and_true, or_true, cond_true, cond_false, or_false, true_or]
 exact fun w' hw => by first | (refine ⟨?_, hw.same rfl⟩; rfl) | exact hw.same rfl
theorem c_rright2 (low high : Int) (h : 0 ≤ low ∧ low ≤ high ∧ high ≤ 4096) (w : World) : Gives Tryz.prog 41 [.agg #[.int .i64 0, .int .i64 low, .int .i64 high, .int .i64 0]] w (.bool true) := by
 refine zal 100 fu41 rfl _ w _ [] [] (.nil w) fun β hβ _ => ?_
 simp only [gx, ft, ↓zae, ↓zab, zak hβ, zaj hβ, Nat.reduceAdd, Nat.reduceSub, Nat.reduceMul, Nat.reduceLT, Nat.reduceLeDiff, Nat.reduceEqDiff, Int.cast_ofNat_Int, Int.reduceLT, Int.reduceLE, Int.reduceToNat, Int.reduceAdd, Int.reduceNeg, Int.reduceEq, reduceCtorEq, wrap_i, wrap_u, false_or, true_and, and_true, or_true, cond_true, cond_false, or_false, true_or, decide_eq_false (show ¬ low < 0 by omega), decide_eq_false (show ¬ low > 4096 by omega), decide_eq_false (show ¬ high < 0 by omega), decide_eq_false (show ¬ high > 4096 by omega)]
 exact fun w' hw => by first | (refine ⟨?_, hw.same rfl⟩; rw [wrap_i _ (by omega), Int.add_zero, decide_eq_true h.2.1]) | exact hw.same rfl
theorem c_rfront (low high : Int) (h : 0 ≤ low ∧ low ≤ high ∧ high ≤ 4096) (w : World) : Gives Tryz.prog 23 [.agg #[.int .i64 0, .int .i64 low, .int .i64 high, .int .i64 0]] w (.tuple #[.int .u64 (2 * low + 16384 * high), .int .i64 0]) := by
 refine zal 100 fu23 rfl _ w _ [] [] (.nil w) fun β hβ _ => ?_
 simp only [gx, ft, ↓zae, ↓zab, zak hβ, zaj hβ, Nat.reduceAdd, Nat.reduceSub, Nat.reduceMul, Nat.reduceLT, Nat.reduceLeDiff, Nat.reduceEqDiff, Int.cast_ofNat_Int, Int.reduceLT, Int.reduceLE, Int.reduceToNat, Int.reduceAdd, Int.reduceNeg, Int.reduceEq, reduceCtorEq, wrap_i, wrap_u, false_or, true_and, and_true, or_true, cond_true, cond_false, or_false, true_or]
 refine zah hβ (fun w hw => c_rright2 low high h w) fun β hβ ha => ?_
 try simp only [ha, zaf, gx, ft, ↓zae, ↓zab, zak hβ, zaj hβ, Nat.reduceAdd, Nat.reduceSub, Nat.reduceMul, Nat.reduceLT, Nat.reduceLeDiff, Nat.reduceEqDiff, Int.cast_ofNat_Int, Int.reduceLT, Int.reduceLE, Int.reduceToNat, Int.reduceAdd, Int.reduceNeg, Int.reduceEq, reduceCtorEq, wrap_i, wrap_u, false_or, true_and, and_true, or_true, cond_true, cond_false, or_false, true_or, nms_0, nms_s]
 exact fun w' hw => by first | (refine ⟨?_, hw.same rfl⟩; rw [Int.mul_zero, wrap_u 0 (by omega), wrap_u high (by omega), Int.add_zero, wrap_u high (by omega), wrap_u (8192 * high) (by omega), wrap_u low (by omega), wrap_u (low + 8192 * high) (by omega), wrap_u (2 * (low + 8192 * high)) (by omega), wrap_u _ (by omega), show 0 + 2 * (low + 8192 * high) = 2 * low + 16384 * high by omega]) | exact hw.same rfl
theorem c_rmake0 (w : World) : Gives Tryz.prog 42 [.agg #[.int .i64 3, .bool false, .int .i64 0]] w (.tuple #[.int .u64 4611686018427387908, .int .i64 0]) := by
 refine zal 300 fu42 rfl _ w _ [] [] (.nil w) fun β hβ _ => ?_
 simp only [gx, ft, ↓zae, ↓zab, zak hβ, zaj hβ, Nat.reduceAdd, Nat.reduceSub, Nat.reduceMul, Nat.reduceLT, Nat.reduceLeDiff, Nat.reduceEqDiff, Int.cast_ofNat_Int, Int.reduceLT, Int.reduceLE, Int.reduceToNat, Int.reduceAdd, Int.reduceNeg, Int.reduceEq, reduceCtorEq, wrap_i, wrap_u, false_or, true_and, and_true, or_true, cond_true, cond_false, or_false, true_or]
 exact fun w' hw => by first | (refine ⟨?_, hw.same rfl⟩; rfl) | exact hw.same rfl
theorem c_rscalar0 (w : World) : Gives Tryz.prog 26 [.int .i64 0] w (.tuple #[.int .u64 4611686018427387908, .int .i64 0]) := by
 refine zal 100 fu26 rfl _ w _ [] [] (.nil w) fun β hβ _ => ?_
 simp only [gx, ft, ↓zae, ↓zab, zak hβ, zaj hβ, Nat.reduceAdd, Nat.reduceSub, Nat.reduceMul, Nat.reduceLT, Nat.reduceLeDiff, Nat.reduceEqDiff, Int.cast_ofNat_Int, Int.reduceLT, Int.reduceLE, Int.reduceToNat, Int.reduceAdd, Int.reduceNeg, Int.reduceEq, reduceCtorEq, wrap_i, wrap_u, false_or, true_and, and_true, or_true, cond_true, cond_false, or_false, true_or]
 refine zah hβ (fun w hw => c_rmake0 w) fun β hβ ha => ?_
 try simp only [ha, zaf, gx, ft, ↓zae, ↓zab, zak hβ, zaj hβ, Nat.reduceAdd, Nat.reduceSub, Nat.reduceMul, Nat.reduceLT, Nat.reduceLeDiff, Nat.reduceEqDiff, Int.cast_ofNat_Int, Int.reduceLT, Int.reduceLE, Int.reduceToNat, Int.reduceAdd, Int.reduceNeg, Int.reduceEq, reduceCtorEq, wrap_i, wrap_u, false_or, true_and, and_true, or_true, cond_true, cond_false, or_false, true_or, nms_0, nms_s]
 exact fun w' hw => by first | (refine ⟨?_, hw.same rfl⟩; rfl) | exact hw.same rfl
def stAt (T S : Int) (s : ByteArray) (i q : Nat) : Int :=
 if (q : Int) = 1 then 2 * (2 + s.size) + 16384 * S else if (q : Int) = 3 + 2 * T then 6
 else if 3 + 2 * T + 2 ≤ (q : Int) ∧ (q : Int) < 3 + 2 * T + 2 + i ∧ s.data.toList.getD ((q : Int) - (3 + 2 * T + 2)).toNat 0 = 115 then 4611686018427387908 else 0
def stCells (T S : Int) (s : ByteArray) (i : Nat) : List Value := (List.range (3 + 2 * T + 2 * S).toNat).map fun q => .int .u64 (stAt T S s i q)
theorem stCells_length (T S : Int) (s : ByteArray) (i : Nat) : (stCells T S s i).length = (3 + 2 * T + 2 * S).toNat := by simp [stCells]
theorem splice_one {l l' : List Value} {k : Nat} {v : Value} (hl : l.length = l'.length) (hk : k < l.length) (h : ∀ q, q < l.length → l'[q]? = if q = k then some v else l[q]?) : splice l k [v] = l' := by
 apply List.ext_getElem?
 intro q
 unfold splice
 rcases Nat.lt_or_ge q l.length with hq | hq
 ·rw [h q hq]
  rcases Nat.lt_trichotomy q k with h1 | h1 | h1
  ·rw [if_neg (by omega), List.append_assoc, List.getElem?_append_left (by simp; omega), List.getElem?_take, if_pos h1]
  ·subst h1
   rw [if_pos rfl, List.append_assoc, List.getElem?_append_right (by simp; omega)]
   simp [Nat.min_eq_left (Nat.le_of_lt hk)]
  ·rw [if_neg (by omega), List.getElem?_append_right (by simp; omega), List.getElem?_drop]
   congr 1
   simp; omega
 ·rw [List.getElem?_eq_none (by simp; omega), List.getElem?_eq_none (by omega)]
theorem st_start {T S : Int} {s : ByteArray} {N0 : Nat} (hp : 1 ≤ T ∧ T ≤ 8 ∧ 32 ≤ S ∧ S ≤ 4096) (hN : (3 + 2 * T + 2 * S).toNat = N0) :
  splice (splice (List.replicate N0 (.int .u64 0)) 1 [.int .u64 (2 * (2 + s.size) + 16384 * S)]) (3 + 2 * T).toNat [.int .u64 6] = stCells T S s 0 := by
 have h1 : splice (List.replicate N0 (.int .u64 0)) 1 [.int .u64 (2 * (2 + s.size) + 16384 * S)] = (List.range N0).map fun q => if q = 1 then Value.int .u64 (2 * (2 + s.size) + 16384 * S) else .int .u64 0 := by
  refine splice_one (by simp) (by rw [List.length_replicate]; omega) fun q hq => ?_
  have hq : q < N0 := by simpa using hq
  have h1N : 1 < N0 := by omega
  by_cases h : q = 1
  ·subst h; simp [h1N]
  ·simp [h, hq, List.getElem?_replicate]
 rw [h1]
 refine splice_one (by simp [stCells, hN]) (by simp; omega) fun q hq => ?_
 have hq : q < N0 := by simpa using hq
 simp only [stCells, hN, List.getElem?_map, List.getElem?_range hq, Option.map_some]
 unfold stAt
 by_cases h : q = (3 + 2 * T).toNat
 ·rw [if_pos h, if_neg (by omega), if_pos (by omega)]
 ·rw [if_neg h]
  by_cases h2 : q = 1
  ·rw [if_pos h2, if_pos (by omega)]
  ·rw [if_neg h2, if_neg (by omega), if_neg (by omega), if_neg (by omega)]
theorem st_yes {T S : Int} {s : ByteArray} {i : Nat} (hp : 1 ≤ T ∧ T ≤ 8 ∧ 32 ≤ S ∧ S ≤ 4096) (hi : i < s.size) (hs : s.size ≤ 20) (hc : s.data.toList.getD i 0 = 115) :
  splice (stCells T S s i) (3 + 2 * T + 2 + i).toNat [.int .u64 4611686018427387908] = stCells T S s (i + 1) := by
 refine splice_one (by simp [stCells]) (by rw [stCells_length]; omega) fun q hq => ?_
 rw [stCells_length] at hq
 simp only [stCells, List.getElem?_map, List.getElem?_range hq, Option.map_some]
 unfold stAt
 by_cases h : q = (3 + 2 * T + 2 + i).toNat
 ·rw [if_pos h, if_neg (by omega), if_neg (by omega), if_pos ⟨by omega, by omega, by rw [show ((q : Int) - (3 + 2 * T + 2)).toNat = i by omega]; exact hc⟩]
 ·rw [if_neg h]
  congr 4
  have : (3 + 2 * T + 2 ≤ (q : Int) ∧ (q : Int) < 3 + 2 * T + 2 + ((i + 1 : Nat) : Int) ∧ s.data.toList.getD ((q : Int) - (3 + 2 * T + 2)).toNat 0 = 115) = (3 + 2 * T + 2 ≤ (q : Int) ∧ (q : Int) < 3 + 2 * T + 2 + (i : Int) ∧ s.data.toList.getD ((q : Int) - (3 + 2 * T + 2)).toNat 0 = 115) := by
   apply propext
   constructor
   ·rintro ⟨a, b, c⟩; exact ⟨a, by omega, c⟩
   ·rintro ⟨a, b, c⟩; exact ⟨a, by omega, c⟩
  simp only [this]
theorem st_no {T S : Int} {s : ByteArray} {i : Nat} (hc : ¬ s.data.toList.getD i 0 = 115) : stCells T S s i = stCells T S s (i + 1) := by
 unfold stCells
 apply List.map_congr_left
 intro q _
 unfold stAt
 suffices this : (3 + 2 * T + 2 ≤ (q : Int) ∧ (q : Int) < 3 + 2 * T + 2 + (i : Int) ∧ s.data.toList.getD ((q : Int) - (3 + 2 * T + 2)).toNat 0 = 115) = (3 + 2 * T + 2 ≤ (q : Int) ∧ (q : Int) < 3 + 2 * T + 2 + ((i + 1 : Nat) : Int) ∧ s.data.toList.getD ((q : Int) - (3 + 2 * T + 2)).toNat 0 = 115) by simp only [this]
 apply propext
 constructor
 ·rintro ⟨a, b, c⟩; exact ⟨a, by omega, c⟩
 ·rintro ⟨a, b, c⟩
  refine ⟨a, ?_, c⟩
  by_cases h : (q : Int) < 3 + 2 * T + 2 + i
  ·exact h
  ·exact absurd (by rw [show ((q : Int) - (3 + 2 * T + 2)).toNat = i by omega] at c; exact c) hc
theorem c_start (T S : Int) (L : List ByteArray) (p : Option Addr) (n c : Nat) (w : World) (hs : Shp w p n L) (ho : okPlan T S L = true) (s : ByteArray) (hs0 : L[0]? = some s) (hss : s.size ≤ 20) :
  Makes Tryz.prog 7 [.agg #[.int .i64 T, .int .i64 S, .slice p n c]] w (fun _ => .c 2 (stCells T S s s.size) 28) (fun b => .slice (some ⟨b, 0, none⟩) (3 + 2 * T + 2 * S).toNat (3 + 2 * T + 2 * S).toNat) := by
 have hp : 1 ≤ T ∧ T ≤ 8 ∧ 32 ≤ S ∧ S ≤ 4096 := by
  simp only [okPlan, Bool.and_eq_true, decide_eq_true_eq] at ho; exact ho.1
 have hl := hs.len
 have hL0 : 0 < L.length := (List.getElem?_eq_some_iff.1 hs0).1
 rcases hs.ats with rfl | ⟨b, off, cs, t, z, rfl, hb, hcs⟩
 ·omega
 have hc0 : cs[off]? = some (.string s) := by
  have := hcs 0 hL0
  rw [Nat.add_zero] at this
  rw [this, ← (List.getElem?_eq_some_iff.1 hs0).2]
 refine zal 100 fu7 rfl _ w _ [b] [.r cs t z] (.cons hb (by simp [HE.kind]) (by simp) (.nil w)) fun β hβ hbs => ?_
 obtain rfl : β 0 = b := hbs 0 _ rfl
 clear hb hs hcs
 simp only [gx, ft, ↓zae, ↓zab, zak hβ, zaj hβ, Nat.reduceAdd, Nat.reduceSub, Nat.reduceMul, Nat.reduceLT, Nat.reduceLeDiff, Nat.reduceEqDiff, Int.cast_ofNat_Int, Int.reduceLT, Int.reduceLE, Int.reduceToNat, Int.reduceAdd, Int.reduceNeg, Int.reduceEq, reduceCtorEq, wrap_i, wrap_u, false_or, true_and, and_true, or_true, cond_true, cond_false, or_false, true_or]
 refine zah hβ (fun w hw => c_rsize T S ⟨hp.1, hp.2.1⟩ hp.2.2 _ _ _ w) fun β hβ ha => ?_
 try simp only [ha, zaf, gx, ft, ↓zae, ↓zab, zak hβ, zaj hβ, Nat.reduceAdd, Nat.reduceSub, Nat.reduceMul, Nat.reduceLT, Nat.reduceLeDiff, Nat.reduceEqDiff, Int.cast_ofNat_Int, Int.reduceLT, Int.reduceLE, Int.reduceToNat, Int.reduceAdd, Int.reduceNeg, Int.reduceEq, reduceCtorEq, wrap_i, wrap_u, false_or, true_and, and_true, or_true, cond_true, cond_false, or_false, true_or, nms_0, nms_s]
 have hN : ((3 + 2 * T + 2 * S).toNat : Int) = 3 + 2 * T + 2 * S := by omega
 generalize hn0 : (3 + 2 * T + 2 * S).toNat = N0 at hN
 rw [← hN]
 refine opX_new hβ (fun b => .slice (some ⟨b, 0, none⟩) N0 N0) (.c 2 (List.replicate N0 (.int .u64 0)) 28) rfl (fun w hw => ?_) fun β hβ ha => ?_
 ·have := Gz.make_runB (P := Tryz.prog) (w := w) (t := 35) (et := 28) (z0 := .int .u64 0) (Gz.small_of (by kernel_rfl)) (by kernel_rfl) (q := N0) (by omega)
  simp only [execOp, Sem.run_bind, evx, List.getD_cons_succ, List.getD_cons_zero]
  rw [this]; rfl
 try simp only [ha, zaf, gx, ft, ↓zae, ↓zab, zak hβ, zaj hβ, Nat.reduceAdd, Nat.reduceSub, Nat.reduceMul, Nat.reduceLT, Nat.reduceLeDiff, Nat.reduceEqDiff, Int.cast_ofNat_Int, Int.reduceLT, Int.reduceLE, Int.reduceToNat, Int.reduceAdd, Int.reduceNeg, Int.reduceEq, reduceCtorEq, wrap_i, wrap_u, false_or, true_and, and_true, or_true, cond_true, cond_false, or_false, true_or, nms_0, nms_s]
 refine ⟨by omega, ?_⟩
 simp only [ha, zaf, gx, ft, ↓zae, ↓zab, zak hβ, zaj hβ, Nat.reduceAdd, Nat.reduceSub, Nat.reduceMul, Nat.reduceLT, Nat.reduceLeDiff, Nat.reduceEqDiff, Int.cast_ofNat_Int, Int.reduceLT, Int.reduceLE, Int.reduceToNat, Int.reduceAdd, Int.reduceNeg, Int.reduceEq, reduceCtorEq, wrap_i, wrap_u, false_or, true_and, and_true, or_true, cond_true, cond_false, or_false, true_or, hc0, Nat.add_zero]
 rw [wrap_i (2 + (s.size : Int)) (by omega)]
 refine zah hβ (fun w hw => c_rfront (2 + s.size) S (by omega) w) fun β hβ ha => ?_
 try simp only [ha, zaf, gx, ft, ↓zae, ↓zab, zak hβ, zaj hβ, Nat.reduceAdd, Nat.reduceSub, Nat.reduceMul, Nat.reduceLT, Nat.reduceLeDiff, Nat.reduceEqDiff, Int.cast_ofNat_Int, Int.reduceLT, Int.reduceLE, Int.reduceToNat, Int.reduceAdd, Int.reduceNeg, Int.reduceEq, reduceCtorEq, wrap_i, wrap_u, false_or, true_and, and_true, or_true, cond_true, cond_false, or_false, true_or, nms_0, nms_s]
 refine ⟨by omega, by simp; omega, ?_⟩
 refine zah hβ (fun w hw => c_rbase T S 0 (.int .i64 0) ⟨hp.1, hp.2.1⟩ hp.2.2 (by omega) _ _ _ w) fun β hβ ha => ?_
 try simp only [ha, zaf, gx, ft, ↓zae, ↓zab, zak hβ, zaj hβ, Nat.reduceAdd, Nat.reduceSub, Nat.reduceMul, Nat.reduceLT, Nat.reduceLeDiff, Nat.reduceEqDiff, Int.cast_ofNat_Int, Int.reduceLT, Int.reduceLE, Int.reduceToNat, Int.reduceAdd, Int.reduceNeg, Int.reduceEq, reduceCtorEq, wrap_i, wrap_u, false_or, true_and, and_true, or_true, cond_true, cond_false, or_false, true_or, nms_0, nms_s]
 refine zah hβ (fun w hw => c_rword0 w) fun β hβ ha => ?_
 try simp only [ha, zaf, gx, ft, ↓zae, ↓zab, zak hβ, zaj hβ, Nat.reduceAdd, Nat.reduceSub, Nat.reduceMul, Nat.reduceLT, Nat.reduceLeDiff, Nat.reduceEqDiff, Int.cast_ofNat_Int, Int.reduceLT, Int.reduceLE, Int.reduceToNat, Int.reduceAdd, Int.reduceNeg, Int.reduceEq, reduceCtorEq, wrap_i, wrap_u, false_or, true_and, and_true, or_true, cond_true, cond_false, or_false, true_or, nms_0, nms_s]
 rw [show 3 + 2 * T + 0 * S = 3 + 2 * T by omega]
 try simp only [ha, zaf, gx, ft, ↓zae, ↓zab, zak hβ, zaj hβ, Nat.reduceAdd, Nat.reduceSub, Nat.reduceMul, Nat.reduceLT, Nat.reduceLeDiff, Nat.reduceEqDiff, Int.cast_ofNat_Int, Int.reduceLT, Int.reduceLE, Int.reduceToNat, Int.reduceAdd, Int.reduceNeg, Int.reduceEq, reduceCtorEq, wrap_i, wrap_u, false_or, true_and, and_true, or_true, cond_true, cond_false, or_false, true_or, nms_0, nms_s]
 have hlen1 : (splice (List.replicate N0 (Value.int .u64 0)) 1 [.int .u64 (2 * (2 + s.size) + 16384 * S)]).length = N0 := by
  rw [splice_length _ _ _ (by simp; omega), List.length_replicate]
 refine ⟨⟨by omega, by omega⟩, by rw [hlen1]; omega, ?_⟩
 rw [st_start hp hn0]
 revert β
 refine loop_setsR fu7 [5, 30, 31, 32, 33, 34, 35, 36, 37, 38, 39, 40, 41, 42, 43, 44, 45, 46, 47, 48, 49, 50] 100
  (fun m β u hp => ∃ i : Nat, i ≤ s.size ∧ m = s.size - i ∧ u 5 = .int .i64 i ∧ hp = [.r cs t z, .c 2 [.int .i64 T, .int .i64 S, .slice (some ⟨β 0, off, none⟩) n c] 24, .c 2 (stCells T S s i) 28]) s.size (fun _ _ => ⟨0, by omega, rfl, rfl, rfl⟩) ?_
 rintro m ih β u hp' hβ ⟨i, hi, rfl, hu, rfl⟩ β' hβ ha
 simp only [ha, zaf, gx, ft, ↓zae, ↓zab, zak hβ, zaj hβ, Nat.reduceAdd, Nat.reduceSub, Nat.reduceMul, Nat.reduceLT, Nat.reduceLeDiff, Nat.reduceEqDiff, Int.cast_ofNat_Int, Int.reduceLT, Int.reduceLE, Int.reduceToNat, Int.reduceAdd, Int.reduceNeg, Int.reduceEq, reduceCtorEq, wrap_i, wrap_u, false_or, true_and, and_true, or_true, cond_true, cond_false, or_false, true_or, sets, hu]
 refine gd_i (fun h2 => ?_) fun h2 => ?_
 ·have hil : i < s.size := by omega
  refine ⟨by omega, gd_i (fun h5 => ?_) fun h5 => ?_⟩
  ·have h6 : s.data.toList.getD i 0 = 115 := UInt8.toNat_inj.1 (by show _ = 115; omega)
   refine zah hβ (fun w hw => c_rbase T S 0 (.int .i64 0) ⟨hp.1, hp.2.1⟩ hp.2.2 (by omega) _ _ _ w) fun β hβ ha => ?_
   try simp only [ha, zaf, gx, ft, ↓zae, ↓zab, zak hβ, zaj hβ, Nat.reduceAdd, Nat.reduceSub, Nat.reduceMul, Nat.reduceLT, Nat.reduceLeDiff, Nat.reduceEqDiff, Int.cast_ofNat_Int, Int.reduceLT, Int.reduceLE, Int.reduceToNat, Int.reduceAdd, Int.reduceNeg, Int.reduceEq, reduceCtorEq, wrap_i, wrap_u, false_or, true_and, and_true, or_true, cond_true, cond_false, or_false, true_or, nms_0, nms_s]
   rw [wrap_i (3 + 2 * T + 0 * S + 2) (by omega), wrap_i (3 + 2 * T + 0 * S + 2 + i) (by omega), show 3 + 2 * T + 0 * S + 2 + (i : Int) = 3 + 2 * T + 2 + i by omega]
   refine zah hβ (fun w hw => c_rscalar0 w) fun β hβ ha => ?_
   try simp only [ha, zaf, gx, ft, ↓zae, ↓zab, zak hβ, zaj hβ, Nat.reduceAdd, Nat.reduceSub, Nat.reduceMul, Nat.reduceLT, Nat.reduceLeDiff, Nat.reduceEqDiff, Int.cast_ofNat_Int, Int.reduceLT, Int.reduceLE, Int.reduceToNat, Int.reduceAdd, Int.reduceNeg, Int.reduceEq, reduceCtorEq, wrap_i, wrap_u, false_or, true_and, and_true, or_true, cond_true, cond_false, or_false, true_or, nms_0, nms_s]
   refine ⟨⟨by omega, by omega⟩, by rw [stCells_length]; omega, ?_⟩
   rw [st_yes hp hil hss h6, wrap_i ((i : Int) + 1) (by omega)]
   exact ih _ β _ _ (by omega) hβ ⟨i + 1, by omega, rfl, by simp, rfl⟩ (by simp [sets])
  ·have h6 : ¬ s.data.toList.getD i 0 = 115 := fun h => h5 (by rw [h]; rfl)
   rw [wrap_i ((i : Int) + 1) (by omega), st_no h6]
   exact ih _ β' _ _ (by omega) hβ ⟨i + 1, by omega, rfl, by simp, rfl⟩ (by simp [sets])
 ·have : i = s.size := by omega
  subst this
  exact fun w' hw => ⟨β' 2, hw.fresh 2 _ rfl rfl, rfl, hw.same rfl, hw.obj 2 _ rfl⟩
end Go.Proofs.YteglommbdpaokaaGreat
