/- Contracts: the document's answers. -/
import Derived.Test.YteglommbdpaokaaGreatL4
set_option linter.unusedSimpArgs false
set_option linter.unusedVariables false
namespace Go.Proofs.YteglommbdpaokaaGreat
open Go.Gx Go.RowKit
set_option maxRecDepth 100000
set_option maxHeartbeats 2000000
theorem okLetter_n (b : UInt8) : okLetter b = true ↔ ((b.toNat : Int) = 112 ∨ (b.toNat : Int) = 115) := by
 simp only [okLetter, Bool.or_eq_true, beq_iff_eq]
 constructor
 ·rintro (h | h) <;> subst h <;> decide
 ·rintro (h | h)
  ·exact .inl (UInt8.toNat_inj.1 (by show b.toNat = 112; omega))
  ·exact .inr (UInt8.toNat_inj.1 (by show b.toNat = 115; omega))
def goodS (s : ByteArray) : Bool := !badS s
theorem c_one (s : ByteArray) (hs : s.size ≤ 1000) (w : World) : Gives Tryz.prog 50 [.string s] w (.bool (goodS s)) := by
 refine zal 100 fu50 rfl _ w _ [] [] (.nil w) fun β hβ _ => ?_
 simp only [gx, ft, ↓zae, ↓zab, zak hβ, zaj hβ, Nat.reduceAdd, Nat.reduceSub, Nat.reduceMul, Nat.reduceLT, Nat.reduceLeDiff, Nat.reduceEqDiff, Int.cast_ofNat_Int, Int.reduceLT, Int.reduceLE, Int.reduceToNat, Int.reduceAdd, Int.reduceNeg, Int.reduceEq, reduceCtorEq, wrap_i, wrap_u, false_or, true_and, and_true, or_true, cond_true, cond_false, or_false, true_or]
 refine gd_i (fun h1 => ?_) fun h1 => ?_
 ·exact fun w' hw => by first | (refine ⟨?_, hw.same rfl⟩; rw [goodS, badS, decide_eq_true (show 8 < s.size by omega), Bool.or_true]; rfl) | exact hw.same rfl
 revert β
 refine loop_setsR fu50 [3, 7, 8, 9, 10, 11, 12, 13, 14, 15, 16, 17, 18, 19, 20, 21, 22] 100
  (fun m _ u hp => ∃ i : Nat, i ≤ s.size ∧ m = s.size - i ∧ u 3 = .int .i64 i ∧ hp = [] ∧ ∀ j (h : j < s.size), j < i → okLetter s[j] = true) s.size (fun _ _ => ⟨0, by omega, rfl, rfl, rfl, fun _ _ h => by omega⟩) ?_
 rintro m ih β u hp hβ ⟨i, hi, rfl, hu, rfl, hall⟩ β' hβ ha
 simp only [ha, zaf, gx, ft, ↓zae, ↓zab, zak hβ, zaj hβ, Nat.reduceAdd, Nat.reduceSub, Nat.reduceMul, Nat.reduceLT, Nat.reduceLeDiff, Nat.reduceEqDiff, Int.cast_ofNat_Int, Int.reduceLT, Int.reduceLE, Int.reduceToNat, Int.reduceAdd, Int.reduceNeg, Int.reduceEq, reduceCtorEq, wrap_i, wrap_u, false_or, true_and, and_true, or_true, cond_true, cond_false, or_false, true_or, sets, hu]
 refine gd_i (fun h2 => ?_) fun h2 => ?_
 ·have hil : i < s.size := by omega
  have h3 : (i : Int).toNat = i := by omega
  have h4 : s.data.toList.getD i 0 = s[i] := by
   have : i < s.data.toList.length := by simpa using hil
   rw [List.getD_eq_getElem?_getD, List.getElem?_eq_getElem this]; rfl
  simp only [ha, zaf, gx, ft, ↓zae, ↓zab, zak hβ, zaj hβ, Nat.reduceAdd, Nat.reduceSub, Nat.reduceMul, Nat.reduceLT, Nat.reduceLeDiff, Nat.reduceEqDiff, Int.cast_ofNat_Int, Int.reduceLT, Int.reduceLE, Int.reduceToNat, Int.reduceAdd, Int.reduceNeg, Int.reduceEq, reduceCtorEq, wrap_i, wrap_u, false_or, true_and, and_true, or_true, cond_true, cond_false, or_false, true_or, h3, h4]
  have hnext : okLetter s[i] = true → ∀ j (h : j < s.size), j < i + 1 → okLetter s[j] = true := fun ho j hj hlt => by
   rcases Nat.lt_or_ge j i with h | h
   ·exact hall j hj h
   ·obtain rfl : j = i := by omega
    exact ho
  refine ⟨by omega, gd_n (fun h5 => ⟨by omega, gd_n (fun h6 => ?_) fun h6 => ?_⟩) fun h5 => ?_⟩
  ·exact fun w' hw => by first | (refine ⟨?_, hw.same rfl⟩; rw [goodS, bad_at s i hil (by rw [okLetter_n]; omega)]; rfl) | exact hw.same rfl
  ·rw [wrap_i _ (by omega)]
   exact ih _ β' _ _ (by omega) hβ ⟨i + 1, by omega, rfl, by simp, rfl, hnext ((okLetter_n _).2 (.inr h6))⟩ rfl
  ·rw [wrap_i _ (by omega)]
   exact ih _ β' _ _ (by omega) hβ ⟨i + 1, by omega, rfl, by simp, rfl, hnext ((okLetter_n _).2 (.inl h5))⟩ rfl
 ·exact fun w' hw => by first | (refine ⟨?_, hw.same rfl⟩; rw [goodS, bad_none s (fun j hj => hall j hj (by omega)), decide_eq_false (show ¬ 8 < s.size by omega)]; rfl) | exact hw.same rfl
theorem c_right3 (L : List ByteArray) (p : Option Addr) (n c : Nat) (w : World) (hs : Shp w p n L) (hL : ∀ s ∈ L, s.size ≤ 1000) (hn : n ≤ 1000) : Gives Tryz.prog 36 [.slice p n c] w (.bool (okShapes L)) := by
 have hl := hs.len
 by_cases hn0 : n = 0
 ·refine zal 100 fu36 rfl _ w _ [] [] (.nil w) fun β hβ _ => ?_
  simp only [gx, ft, ↓zae, ↓zab, zak hβ, zaj hβ, Nat.reduceAdd, Nat.reduceSub, Nat.reduceMul, Nat.reduceLT, Nat.reduceLeDiff, Nat.reduceEqDiff, Int.cast_ofNat_Int, Int.reduceLT, Int.reduceLE, Int.reduceToNat, Int.reduceAdd, Int.reduceNeg, Int.reduceEq, reduceCtorEq, wrap_i, wrap_u, false_or, true_and, and_true, or_true, cond_true, cond_false, or_false, true_or, hn0]
  exact fun w' hw => by first | (refine ⟨?_, hw.same rfl⟩; rw [show okShapes L = false from Bool.eq_false_iff.2 fun h => by have := okShapes_len h; omega]) | exact hw.same rfl
 rcases hs.ats with h0 | ⟨b, off, cs, t, z, rfl, hb, hcs⟩
 ·exact absurd h0 hn0
 refine zal 100 fu36 rfl _ w _ [b] [.r cs t z] (.cons hb (by simp [HE.kind]) (by simp) (.nil w)) fun β hβ hbs => ?_
 obtain rfl : β 0 = b := hbs 0 _ rfl
 clear hb hs
 simp only [gx, ft, ↓zae, ↓zab, zak hβ, zaj hβ, Nat.reduceAdd, Nat.reduceSub, Nat.reduceMul, Nat.reduceLT, Nat.reduceLeDiff, Nat.reduceEqDiff, Int.cast_ofNat_Int, Int.reduceLT, Int.reduceLE, Int.reduceToNat, Int.reduceAdd, Int.reduceNeg, Int.reduceEq, reduceCtorEq, wrap_i, wrap_u, false_or, true_and, and_true, or_true, cond_true, cond_false, or_false, true_or]
 refine gd_i (fun h1 => ?_) fun h1 => gd_i (fun h2 => ?_) fun h2 => ?_
 ·exact fun w' hw => by first | (refine ⟨?_, hw.same rfl⟩; rw [show okShapes L = false from Bool.eq_false_iff.2 fun h => by have := okShapes_len h; omega]) | exact hw.same rfl
 ·exact fun w' hw => by first | (refine ⟨?_, hw.same rfl⟩; rw [show okShapes L = false from Bool.eq_false_iff.2 fun h => by have := okShapes_len h; omega]) | exact hw.same rfl
 revert β
 refine loop_setsR fu36 [3, 12, 13, 14, 15, 16, 17, 18, 19, 20, 21, 22, 23] 100
  (fun m _ u hp => ∃ i : Nat, i ≤ n ∧ m = n - i ∧ u 3 = .int .i64 i ∧ hp = [.r cs t z] ∧ ∀ j (h : j < L.length), j < i → badS L[j] = false) n (fun _ _ => ⟨0, by omega, rfl, rfl, rfl, fun _ _ h => by omega⟩) ?_
 rintro m ih β u hp hβ ⟨i, hi, rfl, hu, rfl, hall⟩ β' hβ ha
 simp only [ha, zaf, gx, ft, ↓zae, ↓zab, zak hβ, zaj hβ, Nat.reduceAdd, Nat.reduceSub, Nat.reduceMul, Nat.reduceLT, Nat.reduceLeDiff, Nat.reduceEqDiff, Int.cast_ofNat_Int, Int.reduceLT, Int.reduceLE, Int.reduceToNat, Int.reduceAdd, Int.reduceNeg, Int.reduceEq, reduceCtorEq, wrap_i, wrap_u, false_or, true_and, and_true, or_true, cond_true, cond_false, or_false, true_or, sets, hu]
 refine gd_i (fun h3 => ?_) fun h3 => ?_
 ·have hil : i < L.length := by omega
  have h4 : (i : Int).toNat = i := by omega
  have h5 := hcs i hil
  simp only [ha, zaf, gx, ft, ↓zae, ↓zab, zak hβ, zaj hβ, Nat.reduceAdd, Nat.reduceSub, Nat.reduceMul, Nat.reduceLT, Nat.reduceLeDiff, Nat.reduceEqDiff, Int.cast_ofNat_Int, Int.reduceLT, Int.reduceLE, Int.reduceToNat, Int.reduceAdd, Int.reduceNeg, Int.reduceEq, reduceCtorEq, wrap_i, wrap_u, false_or, true_and, and_true, or_true, cond_true, cond_false, or_false, true_or, h4, h5]
  refine ⟨by omega, ?_⟩
  refine zah hβ (fun w hw => c_one L[i] (hL _ (List.getElem_mem hil)) w) fun β hβ ha => ?_
  try simp only [ha, zaf, gx, ft, ↓zae, ↓zab, zak hβ, zaj hβ, Nat.reduceAdd, Nat.reduceSub, Nat.reduceMul, Nat.reduceLT, Nat.reduceLeDiff, Nat.reduceEqDiff, Int.cast_ofNat_Int, Int.reduceLT, Int.reduceLE, Int.reduceToNat, Int.reduceAdd, Int.reduceNeg, Int.reduceEq, reduceCtorEq, wrap_i, wrap_u, false_or, true_and, and_true, or_true, cond_true, cond_false, or_false, true_or, nms_0, nms_s]
  cases h6 : badS L[i] with
  | true =>
    simp only [goodS, h6, Bool.not_true, Bool.not_false, ha, zaf, gx, ft, ↓zae, ↓zab, zak hβ, zaj hβ, Nat.reduceAdd, Nat.reduceSub, Nat.reduceMul, Nat.reduceLT, Nat.reduceLeDiff, Nat.reduceEqDiff, Int.cast_ofNat_Int, Int.reduceLT, Int.reduceLE, Int.reduceToNat, Int.reduceAdd, Int.reduceNeg, Int.reduceEq, reduceCtorEq, wrap_i, wrap_u, false_or, true_and, and_true, or_true, cond_true, cond_false, or_false, true_or]
    exact fun w' hw => by first | (refine ⟨?_, hw.same rfl⟩; rw [okShapes_any (by omega), List.any_eq_true.2 ⟨_, List.getElem_mem hil, h6⟩]; rfl) | exact hw.same rfl
  | false =>
    simp only [goodS, h6, Bool.not_true, Bool.not_false, ha, zaf, gx, ft, ↓zae, ↓zab, zak hβ, zaj hβ, Nat.reduceAdd, Nat.reduceSub, Nat.reduceMul, Nat.reduceLT, Nat.reduceLeDiff, Nat.reduceEqDiff, Int.cast_ofNat_Int, Int.reduceLT, Int.reduceLE, Int.reduceToNat, Int.reduceAdd, Int.reduceNeg, Int.reduceEq, reduceCtorEq, wrap_i, wrap_u, false_or, true_and, and_true, or_true, cond_true, cond_false, or_false, true_or]
    rw [wrap_i _ (by omega)]
    refine ih _ β _ _ (by omega) hβ ⟨i + 1, by omega, rfl, by simp, rfl, fun j hj hlt => ?_⟩ rfl
    rcases Nat.lt_or_ge j i with h | h
    ·exact hall j hj h
    ·obtain rfl : j = i := by omega
     exact h6
 ·have hany : L.any badS = false := by
    rw [List.any_eq_false]
    intro x hx
    obtain ⟨j, hj, rfl⟩ := List.getElem_of_mem hx
    rw [hall j hj (by omega)]; exact Bool.false_ne_true
  exact fun w' hw => by first | (refine ⟨?_, hw.same rfl⟩; rw [okShapes_any (by omega), hany]; rfl) | exact hw.same rfl
end Go.Proofs.YteglommbdpaokaaGreat
namespace Go.Proofs.YteglommbdpaokaaGreat
open Go.Gx Go.RowKit
set_option maxRecDepth 100000
set_option maxHeartbeats 2000000
theorem c_rbase (T S n : Int) (x : Value) (hT : 1 ≤ T ∧ T ≤ 8) (hS : 32 ≤ S ∧ S ≤ 4096) (hn : 0 ≤ n ∧ n ≤ 2) (p : Option Addr) (k c : Nat) (w : World) : Gives Tryz.prog 25 [.agg #[.int .i64 T, .int .i64 S, .slice p k c], .int .i64 n] w (.int .i64 (3 + 2 * T + n * S)) := by
 refine zal 100 fu25 rfl _ w _ [] [] (.nil w) fun β hβ _ => ?_
 simp only [gx, ft, ↓zae, ↓zab, zak hβ, zaj hβ, Nat.reduceAdd, Nat.reduceSub, Nat.reduceMul, Nat.reduceLT, Nat.reduceLeDiff, Nat.reduceEqDiff, Int.cast_ofNat_Int, Int.reduceLT, Int.reduceLE, Int.reduceToNat, Int.reduceAdd, Int.reduceNeg, Int.reduceEq, reduceCtorEq, wrap_i, wrap_u, false_or, true_and, and_true, or_true, cond_true, cond_false, or_false, true_or]
 have h1 : 0 ≤ n * S ∧ n * S ≤ 8192 := by
  have : n = 0 ∨ n = 1 ∨ n = 2 := by omega
  rcases this with rfl | rfl | rfl <;> omega
 exact fun w' hw => by first | (refine ⟨?_, hw.same rfl⟩; rw [wrap_i (2 * T) (by omega), wrap_i (3 + 2 * T) (by omega), wrap_i (n * S) (by omega), wrap_i _ (by omega)]) | exact hw.same rfl
theorem c_right6 (T S : Int) (L : List ByteArray) (p : Option Addr) (n c : Nat) (w : World) (hs : Shp w p n L) (hL : ∀ s ∈ L, s.size ≤ 1000) (hn : n ≤ 1000) : Gives Tryz.prog 15 [.agg #[.int .i64 T, .int .i64 S, .slice p n c]] w (.bool (okPlan T S L)) := by
 refine zal 100 fu15 rfl _ w _ [] [] (.nil w) fun β hβ _ => ?_
 simp only [gx, ft, ↓zae, ↓zab, zak hβ, zaj hβ, Nat.reduceAdd, Nat.reduceSub, Nat.reduceMul, Nat.reduceLT, Nat.reduceLeDiff, Nat.reduceEqDiff, Int.cast_ofNat_Int, Int.reduceLT, Int.reduceLE, Int.reduceToNat, Int.reduceAdd, Int.reduceNeg, Int.reduceEq, reduceCtorEq, wrap_i, wrap_u, false_or, true_and, and_true, or_true, cond_true, cond_false, or_false, true_or]
 refine gd_i (fun h1 => ?_) fun h1 => ?_
 ·refine gd_i (fun h2 => ?_) fun h2 => ?_
  ·refine gd_i (fun h3 => ?_) fun h3 => ?_
   ·refine gd_i (fun h4 => ?_) fun h4 => ?_
    ·refine zah hβ (fun w hw => c_right3 L p n c w (hs.keep (hw.same rfl)) hL hn) fun β hβ ha => ?_
     try simp only [ha, zaf, gx, ft, ↓zae, ↓zab, zak hβ, zaj hβ, Nat.reduceAdd, Nat.reduceSub, Nat.reduceMul, Nat.reduceLT, Nat.reduceLeDiff, Nat.reduceEqDiff, Int.cast_ofNat_Int, Int.reduceLT, Int.reduceLE, Int.reduceToNat, Int.reduceAdd, Int.reduceNeg, Int.reduceEq, reduceCtorEq, wrap_i, wrap_u, false_or, true_and, and_true, or_true, cond_true, cond_false, or_false, true_or, nms_0, nms_s]
     exact fun w' hw => by first | (refine ⟨?_, hw.same rfl⟩; rw [okPlan_s (by omega)]) | exact hw.same rfl
    ·exact fun w' hw => by first | (refine ⟨?_, hw.same rfl⟩; rw [Bool.eq_false_iff.2 (okPlan_n (L := L) (T := T) (S := S) (by omega))]) | exact hw.same rfl
   ·exact fun w' hw => by first | (refine ⟨?_, hw.same rfl⟩; rw [Bool.eq_false_iff.2 (okPlan_n (L := L) (T := T) (S := S) (by omega))]) | exact hw.same rfl
  ·exact fun w' hw => by first | (refine ⟨?_, hw.same rfl⟩; rw [Bool.eq_false_iff.2 (okPlan_n (L := L) (T := T) (S := S) (by omega))]) | exact hw.same rfl
 ·exact fun w' hw => by first | (refine ⟨?_, hw.same rfl⟩; rw [Bool.eq_false_iff.2 (okPlan_n (L := L) (T := T) (S := S) (by omega))]) | exact hw.same rfl
theorem c_rsize (T S : Int) (hT : 1 ≤ T ∧ T ≤ 8) (hS : 32 ≤ S ∧ S ≤ 4096) (p : Option Addr) (k c : Nat) (w : World) : Gives Tryz.prog 22 [.agg #[.int .i64 T, .int .i64 S, .slice p k c]] w (.int .i64 (3 + 2 * T + 2 * S)) := by
 refine zal 100 fu22 rfl _ w _ [] [] (.nil w) fun β hβ _ => ?_
 simp only [gx, ft, ↓zae, ↓zab, zak hβ, zaj hβ, Nat.reduceAdd, Nat.reduceSub, Nat.reduceMul, Nat.reduceLT, Nat.reduceLeDiff, Nat.reduceEqDiff, Int.cast_ofNat_Int, Int.reduceLT, Int.reduceLE, Int.reduceToNat, Int.reduceAdd, Int.reduceNeg, Int.reduceEq, reduceCtorEq, wrap_i, wrap_u, false_or, true_and, and_true, or_true, cond_true, cond_false, or_false, true_or]
 exact fun w' hw => by first | (refine ⟨?_, hw.same rfl⟩; rw [wrap_i (2 * T) (by omega), wrap_i (3 + 2 * T) (by omega), wrap_i (2 * S) (by omega), wrap_i _ (by omega)]) | exact hw.same rfl
def spaceI (T S a : Int) : Int := if a < 3 + 2 * T ∨ 3 + 2 * T + 2 * S ≤ a then -1 else (a - (3 + 2 * T)) / S
theorem c_rspace (T S a : Int) (x : Value) (hT : 1 ≤ T ∧ T ≤ 8) (hS : 32 ≤ S ∧ S ≤ 4096) (p : Option Addr) (k c : Nat) (w : World) : Gives Tryz.prog 51 [.agg #[.int .i64 T, .int .i64 S, .slice p k c], .int .i64 a] w (.int .i64 (spaceI T S a)) := by
 refine zal 100 fu51 rfl _ w _ [] [] (.nil w) fun β hβ _ => ?_
 simp only [gx, ft, ↓zae, ↓zab, zak hβ, zaj hβ, Nat.reduceAdd, Nat.reduceSub, Nat.reduceMul, Nat.reduceLT, Nat.reduceLeDiff, Nat.reduceEqDiff, Int.cast_ofNat_Int, Int.reduceLT, Int.reduceLE, Int.reduceToNat, Int.reduceAdd, Int.reduceNeg, Int.reduceEq, reduceCtorEq, wrap_i, wrap_u, false_or, true_and, and_true, or_true, cond_true, cond_false, or_false, true_or]
 refine zah hβ (fun w hw => c_rbase T S 0 x hT hS (by omega) p k c w) fun β hβ ha => ?_
 try simp only [ha, zaf, gx, ft, ↓zae, ↓zab, zak hβ, zaj hβ, Nat.reduceAdd, Nat.reduceSub, Nat.reduceMul, Nat.reduceLT, Nat.reduceLeDiff, Nat.reduceEqDiff, Int.cast_ofNat_Int, Int.reduceLT, Int.reduceLE, Int.reduceToNat, Int.reduceAdd, Int.reduceNeg, Int.reduceEq, reduceCtorEq, wrap_i, wrap_u, false_or, true_and, and_true, or_true, cond_true, cond_false, or_false, true_or, nms_0, nms_s]
 refine gd_i (fun h1 => ?_) fun h1 => ?_
 ·exact fun w' hw => by first | (refine ⟨?_, hw.same rfl⟩; rw [spaceI, if_pos (by omega)]) | exact hw.same rfl
 ·refine zah hβ (fun w hw => c_rsize T S hT hS p k c w) fun β hβ ha => ?_
  try simp only [ha, zaf, gx, ft, ↓zae, ↓zab, zak hβ, zaj hβ, Nat.reduceAdd, Nat.reduceSub, Nat.reduceMul, Nat.reduceLT, Nat.reduceLeDiff, Nat.reduceEqDiff, Int.cast_ofNat_Int, Int.reduceLT, Int.reduceLE, Int.reduceToNat, Int.reduceAdd, Int.reduceNeg, Int.reduceEq, reduceCtorEq, wrap_i, wrap_u, false_or, true_and, and_true, or_true, cond_true, cond_false, or_false, true_or, nms_0, nms_s]
  refine gd_i (fun h2 => ?_) fun h2 => ?_
  ·exact fun w' hw => by first | (refine ⟨?_, hw.same rfl⟩; rw [spaceI, if_pos (by omega)]) | exact hw.same rfl
  ·have h8 : 0 ≤ (a - (3 + 2 * T)) / S := Int.ediv_nonneg (by omega) (by omega)
   have h9 : (a - (3 + 2 * T)) / S ≤ a - (3 + 2 * T) := Int.ediv_le_self _ (by omega)
   rw [wrap_i (a - (3 + 2 * T + 0 * S)) (by omega)]
   refine ⟨by omega, ?_⟩
   exact fun w' hw => by first | (refine ⟨?_, hw.same rfl⟩; rw [Int.tdiv_eq_ediv_of_nonneg (by omega), Int.zero_mul, Int.add_zero, wrap_i _ (by omega), spaceI, if_neg (by omega)]) | exact hw.same rfl
theorem c_rinside (T S a : Int) (L : List ByteArray) (ho : okPlan T S L = true) (p : Option Addr) (k c : Nat) (w : World) : Gives Tryz.prog 39 [.agg #[.int .i64 T, .int .i64 S, .slice p k c], .int .i64 a] w (.bool (insideB T S L a)) := by
 have hb := okPlan_b ho
 refine zal 100 fu39 rfl _ w _ [] [] (.nil w) fun β hβ _ => ?_
 simp only [gx, ft, ↓zae, ↓zab, zak hβ, zaj hβ, Nat.reduceAdd, Nat.reduceSub, Nat.reduceMul, Nat.reduceLT, Nat.reduceLeDiff, Nat.reduceEqDiff, Int.cast_ofNat_Int, Int.reduceLT, Int.reduceLE, Int.reduceToNat, Int.reduceAdd, Int.reduceNeg, Int.reduceEq, reduceCtorEq, wrap_i, wrap_u, false_or, true_and, and_true, or_true, cond_true, cond_false, or_false, true_or]
 refine zah hβ (fun w hw => c_rspace T S a (.int .i64 0) ⟨hb.1, hb.2.1⟩ hb.2.2 p k c w) fun β hβ ha => ?_
 try simp only [ha, zaf, gx, ft, ↓zae, ↓zab, zak hβ, zaj hβ, Nat.reduceAdd, Nat.reduceSub, Nat.reduceMul, Nat.reduceLT, Nat.reduceLeDiff, Nat.reduceEqDiff, Int.cast_ofNat_Int, Int.reduceLT, Int.reduceLE, Int.reduceToNat, Int.reduceAdd, Int.reduceNeg, Int.reduceEq, reduceCtorEq, wrap_i, wrap_u, false_or, true_and, and_true, or_true, cond_true, cond_false, or_false, true_or, nms_0, nms_s]
 refine draw_run fu39 mixed hβ 100 [] (by decide +kernel) fun β hβ ha => ?_
 try simp only [ha, zaf, gx, ft, ↓zae, ↓zab, zak hβ, zaj hβ, Nat.reduceAdd, Nat.reduceSub, Nat.reduceMul, Nat.reduceLT, Nat.reduceLeDiff, Nat.reduceEqDiff, Int.cast_ofNat_Int, Int.reduceLT, Int.reduceLE, Int.reduceToNat, Int.reduceAdd, Int.reduceNeg, Int.reduceEq, reduceCtorEq, wrap_i, wrap_u, false_or, true_and, and_true, or_true, cond_true, cond_false, or_false, true_or, nms_0, nms_s]
 refine gd_i (fun h1 => ?_) fun h1 => ?_
 ·have hr : ¬ (a < 3 + 2 * T ∨ 3 + 2 * T + 2 * S ≤ a) := fun h => by rw [spaceI, if_pos h] at h1; omega
  have hq0 : 0 ≤ (a - (3 + 2 * T)) / S := Int.ediv_nonneg (by omega) (by omega)
  have hq1 : (a - (3 + 2 * T)) / S < 2 := Int.ediv_lt_of_lt_mul (by omega) (by omega)
  have hsp : spaceI T S a = (a - (3 + 2 * T)) / S := by rw [spaceI, if_neg hr]
  have hm := Int.emod_add_mul_ediv (a - (3 + 2 * T)) S
  have hm0 := Int.emod_nonneg (a - (3 + 2 * T)) (show S ≠ 0 by omega)
  have hm1 := Int.emod_lt_of_pos (a - (3 + 2 * T)) (show 0 < S by omega)
  refine ⟨_, fun w hw => c_rbase T S (spaceI T S a) (.int .i64 0) ⟨hb.1, hb.2.1⟩ hb.2.2 (by omega) p k c w, fun β hβ ha => ?_⟩
  try simp only [ha, zaf, gx, ft, ↓zae, ↓zab, zak hβ, zaj hβ, Nat.reduceAdd, Nat.reduceSub, Nat.reduceMul, Nat.reduceLT, Nat.reduceLeDiff, Nat.reduceEqDiff, Int.cast_ofNat_Int, Int.reduceLT, Int.reduceLE, Int.reduceToNat, Int.reduceAdd, Int.reduceNeg, Int.reduceEq, reduceCtorEq, wrap_i, wrap_u, false_or, true_and, and_true, or_true, cond_true, cond_false, or_false, true_or, nms_0, nms_s]
  have hin : insideB T S L a = decide ((a - (3 + 2 * T)) % S < S - 1) := by
   rw [insideB, ho, Bool.true_and]
   exact decide_eq_decide.2 ⟨fun h => h.2.2, fun h => ⟨by omega, by omega, h⟩⟩
  have hcase : (a - (3 + 2 * T)) / S = 0 ∨ (a - (3 + 2 * T)) / S = 1 := by omega
  rw [hsp]
  rcases hcase with hq | hq
  ·rw [hq] at hm ⊢
   rw [Int.mul_zero] at hm
   rw [Int.zero_mul, wrap_i (3 + 2 * T + 0 + S) (by omega), wrap_i _ (by omega)]
   exact fun w' hw => by first | (refine ⟨?_, hw.same rfl⟩; rw [hin]; exact ret_n (by omega)) | exact hw.same rfl
  ·rw [hq] at hm ⊢
   rw [Int.mul_one] at hm
   rw [Int.one_mul, wrap_i (3 + 2 * T + S + S) (by omega), wrap_i _ (by omega)]
   exact fun w' hw => by first | (refine ⟨?_, hw.same rfl⟩; rw [hin]; exact ret_n (by omega)) | exact hw.same rfl
 ·have hr : a < 3 + 2 * T ∨ 3 + 2 * T + 2 * S ≤ a := by
    rcases Decidable.em (a < 3 + 2 * T ∨ 3 + 2 * T + 2 * S ≤ a) with h | h
    ·exact h
    ·exfalso; apply h1
     rw [spaceI, if_neg h]
     exact Int.ediv_nonneg (by omega) (by omega)
  exact fun w' hw => by first | (refine ⟨?_, hw.same rfl⟩; rw [insideB, ho, Bool.true_and]; exact ret_f (by omega)) | exact hw.same rfl
end Go.Proofs.YteglommbdpaokaaGreat
namespace Go.Proofs.YteglommbdpaokaaGreat
open Go.Gx Go.RowKit
set_option maxRecDepth 100000
set_option maxHeartbeats 2000000
theorem c_rof (x : Int) (hx : 0 ≤ x ∧ x ≤ 18446744073709551615) (w : World) : Gives Tryz.prog 38 [.int .u64 x] w (.agg #[.int .i64 (kindW x), .bool (sealedW x), .int .i64 (valW x (kindW x))]) := by
 refine zal 100 fu38 rfl _ w _ [] [] (.nil w) fun β hβ _ => ?_
 simp only [gx, ft, ↓zae, ↓zab, zak hβ, zaj hβ, Nat.reduceAdd, Nat.reduceSub, Nat.reduceMul, Nat.reduceLT, Nat.reduceLeDiff, Nat.reduceEqDiff, Int.cast_ofNat_Int, Int.reduceLT, Int.reduceLE, Int.reduceToNat, Int.reduceAdd, Int.reduceNeg, Int.reduceEq, reduceCtorEq, wrap_i, wrap_u, false_or, true_and, and_true, or_true, cond_true, cond_false, or_false, true_or]
 refine gd_i (fun h1 => ?_) fun h1 => ?_
 ·subst h1
  exact fun w' hw => by first | (refine ⟨?_, hw.same rfl⟩; rfl) | exact hw.same rfl
 have e1 : IntKind.u64.wrap (x - x % 2) = plainW x := by
  rw [wrap_u _ (by omega)]; rfl
 have hpl : plainW x = x - x % 2 := rfl
 have e2 : (plainW x).tmod 8 = plainW x % 8 := Int.tmod_eq_emod_of_nonneg (by omega)
 have e3 : IntKind.u64.wrap ((plainW x).tdiv 8) = x / 8 := by
  rw [Int.tdiv_eq_ediv_of_nonneg (by omega), wrap_u _ (by omega)]; omega
 have e4 : x.tmod 2 = x % 2 := Int.tmod_eq_emod_of_nonneg hx.1
 have e5 : IntKind.i64.wrap (x / 8) = x / 8 := wrap_i _ (by omega)
 have e6 : IntKind.i64.wrap (x / 8 - 576460752303423488) = x / 8 - 576460752303423488 := wrap_i _ (by omega)
 have e7 : ∀ k, k ≠ 0 ∧ k ≠ 4 → kindW x = k → sealedW x = decide (x % 2 = 1) := fun k hk h => by
  rw [sealedW, h, decide_eq_true hk, Bool.true_and]
  exact decide_eq_decide.2 (by omega)
 simp only [e4]
 simp only [e1, e2, e3, e5, e6]
 refine gd_i (fun h2 => ?_) fun h2 => ?_
 ·have hk : kindW x = 1 := by unfold kindW; rw [if_pos h2]
  exact fun w' hw => by first | (refine ⟨?_, hw.same rfl⟩; rw [e7 1 (by decide) hk, hk]; rfl) | exact hw.same rfl
 have hk3 : plainW x % 8 = 4 → x / 8 < 1152921504606846976 → kindW x = 3 := fun h h' => by unfold kindW; rw [if_neg h2, if_neg (by omega), if_pos ⟨h, h'⟩]
 have hk0 : ¬ (plainW x % 8 = 0 ∧ x / 8 ≤ 16777215) → ¬ (plainW x % 8 = 4 ∧ x / 8 < 1152921504606846976) → kindW x = 0 := fun h h' => by unfold kindW; rw [if_neg h2, if_neg (by omega), if_neg h', if_neg h1]
 have hs0 : kindW x = 0 → sealedW x = false := fun h => by rw [sealedW, h]; rfl
 refine gd_i (fun h3 => gd_i (fun h4 => ?_) fun h4 => gd_i (fun h5 => by omega) fun h5 => ?_) fun h3 => gd_i (fun h5 => gd_i (fun h6 => ?_) fun h6 => ?_) fun h5 => ?_
 ·have hk : kindW x = 2 := by unfold kindW; rw [if_neg h2, if_pos (by omega)]
  exact fun w' hw => by first | (refine ⟨?_, hw.same rfl⟩; rw [e7 2 (by decide) hk, hk]; rfl) | exact hw.same rfl
 ·exact fun w' hw => by first | (refine ⟨?_, hw.same rfl⟩; rw [hs0 (hk0 (by omega) (by omega)), hk0 (by omega) (by omega)]; rfl) | exact hw.same rfl
 ·exact fun w' hw => by first | (refine ⟨?_, hw.same rfl⟩; rw [e7 3 (by decide) (hk3 h5 h6), hk3 h5 h6]; rfl) | exact hw.same rfl
 ·exact fun w' hw => by first | (refine ⟨?_, hw.same rfl⟩; rw [hs0 (hk0 (by omega) (by omega)), hk0 (by omega) (by omega)]; rfl) | exact hw.same rfl
 ·exact fun w' hw => by first | (refine ⟨?_, hw.same rfl⟩; rw [hs0 (hk0 (by omega) (by omega)), hk0 (by omega) (by omega)]; rfl) | exact hw.same rfl
theorem c_rfit (T S x : Int) (hx : 0 ≤ x ∧ x ≤ 18446744073709551615) (L : List ByteArray) (ho : okPlan T S L = true) (p : Option Addr) (k c : Nat) (w : World) : Gives Tryz.prog 17 [.agg #[.int .i64 T, .int .i64 S, .slice p k c], .int .u64 x] w (.bool (fitB T S L x)) := by
 refine zal 100 fu17 rfl _ w _ [] [] (.nil w) fun β hβ _ => ?_
 simp only [gx, ft, ↓zae, ↓zab, zak hβ, zaj hβ, Nat.reduceAdd, Nat.reduceSub, Nat.reduceMul, Nat.reduceLT, Nat.reduceLeDiff, Nat.reduceEqDiff, Int.cast_ofNat_Int, Int.reduceLT, Int.reduceLE, Int.reduceToNat, Int.reduceAdd, Int.reduceNeg, Int.reduceEq, reduceCtorEq, wrap_i, wrap_u, false_or, true_and, and_true, or_true, cond_true, cond_false, or_false, true_or]
 refine gd_i (fun h1 => ?_) fun h1 => ?_
 ·exact fun w' hw => by first | (refine ⟨?_, hw.same rfl⟩; rw [fitB, ho, decide_eq_true h1]; rfl) | exact hw.same rfl
 refine zah hβ (fun w hw => c_rof x hx w) fun β hβ ha => ?_
 try simp only [ha, zaf, gx, ft, ↓zae, ↓zab, zak hβ, zaj hβ, Nat.reduceAdd, Nat.reduceSub, Nat.reduceMul, Nat.reduceLT, Nat.reduceLeDiff, Nat.reduceEqDiff, Int.cast_ofNat_Int, Int.reduceLT, Int.reduceLE, Int.reduceToNat, Int.reduceAdd, Int.reduceNeg, Int.reduceEq, reduceCtorEq, wrap_i, wrap_u, false_or, true_and, and_true, or_true, cond_true, cond_false, or_false, true_or, nms_0, nms_s]
 refine gd_i (fun h2 => ?_) fun h2 => ?_
 ·have hv : valW x (kindW x) = x / 8 := by rw [valW, if_pos h2]
  cases hse : sealedW x with
  | true =>
    simp only [ha, zaf, gx, ft, ↓zae, ↓zab, zak hβ, zaj hβ, Nat.reduceAdd, Nat.reduceSub, Nat.reduceMul, Nat.reduceLT, Nat.reduceLeDiff, Nat.reduceEqDiff, Int.cast_ofNat_Int, Int.reduceLT, Int.reduceLE, Int.reduceToNat, Int.reduceAdd, Int.reduceNeg, Int.reduceEq, reduceCtorEq, wrap_i, wrap_u, false_or, true_and, and_true, or_true, cond_true, cond_false, or_false, true_or, hse, Bool.not_true]
    exact fun w' hw => by first | (refine ⟨?_, hw.same rfl⟩; rw [fitB, ho, decide_eq_false h1, decide_eq_true h2, hse]; rfl) | exact hw.same rfl
  | false =>
    simp only [ha, zaf, gx, ft, ↓zae, ↓zab, zak hβ, zaj hβ, Nat.reduceAdd, Nat.reduceSub, Nat.reduceMul, Nat.reduceLT, Nat.reduceLeDiff, Nat.reduceEqDiff, Int.cast_ofNat_Int, Int.reduceLT, Int.reduceLE, Int.reduceToNat, Int.reduceAdd, Int.reduceNeg, Int.reduceEq, reduceCtorEq, wrap_i, wrap_u, false_or, true_and, and_true, or_true, cond_true, cond_false, or_false, true_or, hse, Bool.not_false, hv]
    refine zah hβ (fun w hw => c_rinside T S (x / 8) L ho p k c w) fun β hβ ha => ?_
    try simp only [ha, zaf, gx, ft, ↓zae, ↓zab, zak hβ, zaj hβ, Nat.reduceAdd, Nat.reduceSub, Nat.reduceMul, Nat.reduceLT, Nat.reduceLeDiff, Nat.reduceEqDiff, Int.cast_ofNat_Int, Int.reduceLT, Int.reduceLE, Int.reduceToNat, Int.reduceAdd, Int.reduceNeg, Int.reduceEq, reduceCtorEq, wrap_i, wrap_u, false_or, true_and, and_true, or_true, cond_true, cond_false, or_false, true_or, nms_0, nms_s]
    exact fun w' hw => by first | (refine ⟨?_, hw.same rfl⟩; rw [fitB, ho, decide_eq_false h1, decide_eq_true h2, hse]; rfl) | exact hw.same rfl
 ·exact fun w' hw => by first | (refine ⟨?_, hw.same rfl⟩; rw [fitB, ho, decide_eq_false h1, decide_eq_false h2]; rfl) | exact hw.same rfl
end Go.Proofs.YteglommbdpaokaaGreat
namespace Go.Proofs.YteglommbdpaokaaGreat
open Go.Gx Go.RowKit
set_option maxRecDepth 100000
set_option maxHeartbeats 2000000
def fewB (L : List ByteArray) : Bool := decide (L.length ≤ 20) && L.all fun s => decide (s.size ≤ 20)
theorem c_few (T S : Int) (L : List ByteArray) (p : Option Addr) (n c : Nat) (w : World) (hs : Shp w p n L) : Gives Tryz.prog 4 [.agg #[.int .i64 T, .int .i64 S, .slice p n c]] w (.bool (fewB L)) := by
 have hl := hs.len
 rcases hs.ats with rfl | ⟨b, off, cs, t, z, rfl, hb, hcs⟩
 ·obtain rfl := List.length_eq_zero_iff.1 hl
  refine zal 100 fu4 rfl _ w _ [] [] (.nil w) fun β hβ _ => ?_
  simp only [gx, ft, ↓zae, ↓zab, zak hβ, zaj hβ, Nat.reduceAdd, Nat.reduceSub, Nat.reduceMul, Nat.reduceLT, Nat.reduceLeDiff, Nat.reduceEqDiff, Int.cast_ofNat_Int, Int.reduceLT, Int.reduceLE, Int.reduceToNat, Int.reduceAdd, Int.reduceNeg, Int.reduceEq, reduceCtorEq, wrap_i, wrap_u, false_or, true_and, and_true, or_true, cond_true, cond_false, or_false, true_or]
  refine loop_run fu4 hβ 100 fun β hβ ha => ?_
  try simp only [ha, zaf, gx, ft, ↓zae, ↓zab, zak hβ, zaj hβ, Nat.reduceAdd, Nat.reduceSub, Nat.reduceMul, Nat.reduceLT, Nat.reduceLeDiff, Nat.reduceEqDiff, Int.cast_ofNat_Int, Int.reduceLT, Int.reduceLE, Int.reduceToNat, Int.reduceAdd, Int.reduceNeg, Int.reduceEq, reduceCtorEq, wrap_i, wrap_u, false_or, true_and, and_true, or_true, cond_true, cond_false, or_false, true_or, nms_0, nms_s]
  exact fun w' hw => by first | (refine ⟨?_, hw.same rfl⟩; rfl) | exact hw.same rfl
 refine zal 100 fu4 rfl _ w _ [b] [.r cs t z] (.cons hb (by simp [HE.kind]) (by simp) (.nil w)) fun β hβ hbs => ?_
 obtain rfl : β 0 = b := hbs 0 _ rfl
 clear hb hs
 simp only [gx, ft, ↓zae, ↓zab, zak hβ, zaj hβ, Nat.reduceAdd, Nat.reduceSub, Nat.reduceMul, Nat.reduceLT, Nat.reduceLeDiff, Nat.reduceEqDiff, Int.cast_ofNat_Int, Int.reduceLT, Int.reduceLE, Int.reduceToNat, Int.reduceAdd, Int.reduceNeg, Int.reduceEq, reduceCtorEq, wrap_i, wrap_u, false_or, true_and, and_true, or_true, cond_true, cond_false, or_false, true_or]
 refine gd_i (fun h1 => ?_) fun h1 => ?_
 ·exact fun w' hw => by first | (refine ⟨?_, hw.same rfl⟩; rw [fewB, decide_eq_false (show ¬ L.length ≤ 20 by omega)]; rfl) | exact hw.same rfl
 revert β
 refine loop_setsR fu4 [3, 8, 9, 10, 11, 12, 13, 14, 15, 16, 17, 18, 19, 20, 21] 100
  (fun m β u hp => ∃ i : Nat, i ≤ n ∧ m = n - i ∧ u 3 = .int .i64 i ∧ hp = [.r cs t z, .c 2 [.int .i64 T, .int .i64 S, .slice (some ⟨β 0, off, none⟩) n c] 24] ∧ ∀ j (h : j < L.length), j < i → L[j].size ≤ 20) n (fun _ _ => ⟨0, by omega, rfl, rfl, rfl, fun _ _ h => by omega⟩) ?_
 rintro m ih β u hp hβ ⟨i, hi, rfl, hu, rfl, hall⟩ β' hβ ha
 simp only [ha, zaf, gx, ft, ↓zae, ↓zab, zak hβ, zaj hβ, Nat.reduceAdd, Nat.reduceSub, Nat.reduceMul, Nat.reduceLT, Nat.reduceLeDiff, Nat.reduceEqDiff, Int.cast_ofNat_Int, Int.reduceLT, Int.reduceLE, Int.reduceToNat, Int.reduceAdd, Int.reduceNeg, Int.reduceEq, reduceCtorEq, wrap_i, wrap_u, false_or, true_and, and_true, or_true, cond_true, cond_false, or_false, true_or, sets, hu]
 refine gd_i (fun h3 => ?_) fun h3 => ?_
 ·have hil : i < L.length := by omega
  have h4 : (i : Int).toNat = i := by omega
  have h5 := hcs i hil
  simp only [ha, zaf, gx, ft, ↓zae, ↓zab, zak hβ, zaj hβ, Nat.reduceAdd, Nat.reduceSub, Nat.reduceMul, Nat.reduceLT, Nat.reduceLeDiff, Nat.reduceEqDiff, Int.cast_ofNat_Int, Int.reduceLT, Int.reduceLE, Int.reduceToNat, Int.reduceAdd, Int.reduceNeg, Int.reduceEq, reduceCtorEq, wrap_i, wrap_u, false_or, true_and, and_true, or_true, cond_true, cond_false, or_false, true_or, h4, h5]
  refine ⟨by omega, gd_i (fun h6 => ?_) fun h6 => ?_⟩
  ·have hany : (L.all fun s => decide (s.size ≤ 20)) = false := by
     rw [Bool.eq_false_iff]
     exact fun h => by have := List.all_eq_true.1 h _ (List.getElem_mem hil); simp at this; omega
   exact fun w' hw => by first | (refine ⟨?_, hw.same rfl⟩; rw [fewB, hany, Bool.and_false]) | exact hw.same rfl
  ·rw [wrap_i _ (by omega)]
   refine ih _ β' _ _ (by omega) hβ ⟨i + 1, by omega, rfl, by simp, rfl, fun j hj hlt => ?_⟩ rfl
   rcases Nat.lt_or_ge j i with h | h
   ·exact hall j hj h
   ·obtain rfl : j = i := by omega
    omega
 ·have hany : (L.all fun s => decide (s.size ≤ 20)) = true := by
    rw [List.all_eq_true]
    intro x hx
    obtain ⟨j, hj, rfl⟩ := List.getElem_of_mem hx
    exact decide_eq_true (hall j hj (by omega))
  exact fun w' hw => by first | (refine ⟨?_, hw.same rfl⟩; rw [fewB, hany, decide_eq_true (show L.length ≤ 20 by omega)]; rfl) | exact hw.same rfl
end Go.Proofs.YteglommbdpaokaaGreat
namespace Go.Proofs.YteglommbdpaokaaGreat
open Go.Gx Go.RowKit
set_option maxRecDepth 100000
set_option maxHeartbeats 2000000
def isHdr (x : Int) : Bool := decide (0 ≤ x ∧ x % 8 = 6 ∧ x / 8 < 64 ∧ x / 8 % 4 < 3)
def hShape (x : Int) : Int := if isHdr x = true then x / 8 / 4 else 0
def hMark (x : Int) : Int := if isHdr x = true then x / 8 % 4 else 0
theorem isHdr_b {x : Int} (h : isHdr x = true) : 0 ≤ x / 8 / 4 ∧ x / 8 / 4 < 16 ∧ 0 ≤ x / 8 % 4 ∧ x / 8 % 4 < 3 := by
 have := of_decide_eq_true h; omega
theorem hShape_b (x : Int) : 0 ≤ hShape x ∧ hShape x ≤ 15 := by
 unfold hShape; split
 ·have := isHdr_b (x := x) (by assumption); omega
 ·omega
theorem hMark_b (x : Int) : 0 ≤ hMark x ∧ hMark x ≤ 2 := by
 unfold hMark; split
 ·have := isHdr_b (x := x) (by assumption); omega
 ·omega
def sizeL (L : List ByteArray) (s : Int) : Int := 2 + ((L[s.toNat]?.map ByteArray.size).getD 0 : Nat)
theorem okShapes_size {L : List ByteArray} (h : okShapes L = true) {i : Nat} (hi : i < L.length) : L[i].size ≤ 8 := by
 simp only [okShapes, Bool.and_eq_true, Bool.not_eq_true'] at h
 have := List.any_eq_false.1 h.2 _ (List.getElem_mem hi)
 unfold badS at this
 simp only [Bool.or_eq_true, not_or, decide_eq_true_eq] at this
 omega
theorem sizeL_b {L : List ByteArray} (h : okShapes L = true) (s : Int) : 2 ≤ sizeL L s ∧ sizeL L s ≤ 10 := by
 unfold sizeL
 rcases Nat.lt_or_ge s.toNat L.length with hi | hi
 ·rw [List.getElem?_eq_getElem hi]
  have := okShapes_size h hi
  simp only [Option.map_some, Option.getD_some]; omega
 ·rw [List.getElem?_eq_none hi]; simp
def fieldN (k : Int) : Int := if 5 ≤ k ∧ k ≤ 7 then 1 else 0
def isF (k : Int) : Bool := decide (2 ≤ k ∧ k ≤ 7)
theorem fieldN_b (k : Int) : 0 ≤ fieldN k ∧ fieldN k ≤ 1 := by unfold fieldN; split <;> omega
end Go.Proofs.YteglommbdpaokaaGreat
