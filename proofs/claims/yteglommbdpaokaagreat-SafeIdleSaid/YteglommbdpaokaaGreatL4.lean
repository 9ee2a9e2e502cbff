/- Contracts: words, shapes, layout, parts. -/
import Derived.Test.YteglommbdpaokaaGreatF
import Derived.Test.YteglommbdpaokaaGreatGxO
set_option linter.unusedSimpArgs false
set_option linter.unusedVariables false
namespace Go.Proofs.YteglommbdpaokaaGreat
open Go.Gx Go.RowKit
set_option maxRecDepth 100000
theorem c_within (least most x : Int) (b : Nat) (w : World) (hb : w.heap[b]? = some (.cells #[.int .i64 x] 3)) :
  Gives Tryz.prog 94 [.int .i64 least, .int .i64 most, .slice (some ⟨b, 0, none⟩) 1 1] w (.bool (decide (least ≤ x ∧ x ≤ most))) := by
 refine zal 100 fu94 rfl _ w _ [b] [.c 0 [.int .i64 x] 3] (.cons hb (by simp [HE.kind]) (by simp) (.nil w)) fun β hβ hbs => ?_
 obtain rfl : β 0 = b := hbs 0 _ rfl
 simp only [gx, ft, ↓zae, ↓zab, zak hβ, zaj hβ, Nat.reduceAdd, Nat.reduceSub, Nat.reduceMul, Nat.reduceLT, Nat.reduceLeDiff, Nat.reduceEqDiff, Int.cast_ofNat_Int, Int.reduceLT, Int.reduceLE, Int.reduceToNat, Int.reduceAdd, Int.reduceNeg, Int.reduceEq, reduceCtorEq, wrap_i, wrap_u, false_or, true_and, and_true, or_true, cond_true, cond_false, or_false, true_or]
 refine loop_run fu94 hβ 100 fun β hβ ha => ?_
 simp only [ha, zaf, gx, ft, ↓zae, ↓zab, zak hβ, zaj hβ, Nat.reduceAdd, Nat.reduceSub, Nat.reduceMul, Nat.reduceLT, Nat.reduceLeDiff, Nat.reduceEqDiff, Int.cast_ofNat_Int, Int.reduceLT, Int.reduceLE, Int.reduceToNat, Int.reduceAdd, Int.reduceNeg, Int.reduceEq, reduceCtorEq, wrap_i, wrap_u, false_or, true_and, and_true, or_true, cond_true, cond_false, or_false, true_or]
 refine gd_i (fun h1 => ?_) fun h1 => gd_i (fun h2 => ?_) fun h2 => ?_
 ·exact fun w' hw => ⟨by simp; omega, hw.same rfl⟩
 ·exact fun w' hw => ⟨by simp; omega, hw.same rfl⟩
 ·refine back_run fu94 hβ 100 fun β hβ ha => ?_
  simp only [ha, zaf, gx, ft, ↓zae, ↓zab, zak hβ, zaj hβ, Nat.reduceAdd, Nat.reduceSub, Nat.reduceMul, Nat.reduceLT, Nat.reduceLeDiff, Nat.reduceEqDiff, Int.cast_ofNat_Int, Int.reduceLT, Int.reduceLE, Int.reduceToNat, Int.reduceAdd, Int.reduceNeg, Int.reduceEq, reduceCtorEq, wrap_i, wrap_u, false_or, true_and, and_true, or_true, cond_true, cond_false, or_false, true_or]
  exact fun w' hw => ⟨by simp; omega, hw.same rfl⟩
theorem nat_plain (n : Nat) (h : n < 2^64) : n &&& (2^64 - 1 - 1) = n - n % 2 := by
 have h1 : (n &&& (2^64-1-1)) / 2 = n / 2 &&& (2^63 - 1) := by
  rw [show (2:Nat) = 2^1 from rfl, Nat.and_div_two_pow]
 have h2 : (n &&& (2^64-1-1)) % 2 = 0 := by
  rw [show (2:Nat) = 2^1 from rfl, Nat.and_mod_two_pow]; simp
 rw [Nat.and_two_pow_sub_one_eq_mod, Nat.mod_eq_of_lt (by omega)] at h1
 omega
theorem bits_plain (x : Int) (h : 0 ≤ x ∧ x ≤ 18446744073709551615) : IntKind.u64.wrap (bitsN .andNot .u64 x 1) = x - x % 2 := by
 obtain ⟨n, rfl⟩ := Int.eq_ofNat_of_zero_le h.1
 have hn : n < 2^64 := by omega
 have : bitsN .andNot .u64 (n : Int) 1 = n - n % 2 := by
  simp only [bitsN]
  rw [BitVec.toNat_and, BitVec.toNat_not]
  have h1 : (BitVec.ofInt IntKind.u64.bits (n : Int)).toNat = n := by
   simp only [BitVec.ofInt_natCast, BitVec.toNat_ofNat]; exact Nat.mod_eq_of_lt hn
  have h2 : (BitVec.ofInt IntKind.u64.bits 1).toNat = 1 := by decide
  rw [h1, h2]
  exact nat_plain n hn
 rw [this]
 have : IntKind.u64.wrap ((n - n % 2 : Nat) : Int) = ((n - n % 2 : Nat) : Int) := by
  rw [wrap_u] <;> omega
 rw [this]; omega
def plainW (x : Int) : Int := x - x % 2
theorem c_plain (x : Int) (hx : 0 ≤ x ∧ x ≤ 18446744073709551615) (w : World) : Gives Tryz.prog 98 [.int .u64 x] w (.int .u64 (plainW x)) := by
 refine zal 100 fu98 rfl _ w _ [] [] (.nil w) fun β hβ _ => ?_
 simp only [gx, ft, ↓zae, ↓zab, zak hβ, zaj hβ, Nat.reduceAdd, Nat.reduceSub, Nat.reduceMul, Nat.reduceLT, Nat.reduceLeDiff, Nat.reduceEqDiff, Int.cast_ofNat_Int, Int.reduceLT, Int.reduceLE, Int.reduceToNat, Int.reduceAdd, Int.reduceNeg, Int.reduceEq, reduceCtorEq, wrap_i, wrap_u, false_or, true_and, and_true, or_true, cond_true, cond_false, or_false, true_or]
 exact fun w' hw => by first | (refine ⟨?_, hw.same rfl⟩; rw [bits_plain x hx]; rfl) | exact hw.same rfl
theorem c_held (x : Int) (hx : 0 ≤ x ∧ x ≤ 18446744073709551615) (w : World) : Gives Tryz.prog 110 [.int .u64 x] w (.int .u64 (x / 8)) := by
 refine zal 100 fu110 rfl _ w _ [] [] (.nil w) fun β hβ _ => ?_
 simp only [gx, ft, ↓zae, ↓zab, zak hβ, zaj hβ, Nat.reduceAdd, Nat.reduceSub, Nat.reduceMul, Nat.reduceLT, Nat.reduceLeDiff, Nat.reduceEqDiff, Int.cast_ofNat_Int, Int.reduceLT, Int.reduceLE, Int.reduceToNat, Int.reduceAdd, Int.reduceNeg, Int.reduceEq, reduceCtorEq, wrap_i, wrap_u, false_or, true_and, and_true, or_true, cond_true, cond_false, or_false, true_or]
 exact fun w' hw => by first | (refine ⟨?_, hw.same rfl⟩; rw [Int.tdiv_eq_ediv_of_nonneg hx.1, wrap_u _ (by omega)]) | exact hw.same rfl
theorem c_rows1 (x : Int) (w : World) : Gives Tryz.prog 121 [.int .u64 x] w (.bool false) := by
 refine zal 100 fu121 rfl _ w _ [] [] (.nil w) fun β hβ _ => ?_
 simp only [gx, ft, ↓zae, ↓zab, zak hβ, zaj hβ, Nat.reduceAdd, Nat.reduceSub, Nat.reduceMul, Nat.reduceLT, Nat.reduceLeDiff, Nat.reduceEqDiff, Int.cast_ofNat_Int, Int.reduceLT, Int.reduceLE, Int.reduceToNat, Int.reduceAdd, Int.reduceNeg, Int.reduceEq, reduceCtorEq, wrap_i, wrap_u, false_or, true_and, and_true, or_true, cond_true, cond_false, or_false, true_or]
 exact fun w' hw => by first | exact hw.same rfl | exact ⟨rfl, hw.same rfl⟩ | exact ⟨ret_dec (by omega), hw.same rfl⟩ | exact ⟨ret_t (by omega), hw.same rfl⟩ | exact ⟨ret_f (by omega), hw.same rfl⟩ | exact ⟨ret_n (by omega), hw.same rfl⟩ | exact ⟨ret_i (by omega), hw.same rfl⟩
theorem c_rows2 (x : Int) (hx : 0 ≤ x ∧ x ≤ 18446744073709551615) (w : World) : Gives Tryz.prog 122 [.int .u64 x] w (.bool (decide (plainW x = 0))) := by
 refine zal 100 fu122 rfl _ w _ [] [] (.nil w) fun β hβ _ => ?_
 simp only [gx, ft, ↓zae, ↓zab, zak hβ, zaj hβ, Nat.reduceAdd, Nat.reduceSub, Nat.reduceMul, Nat.reduceLT, Nat.reduceLeDiff, Nat.reduceEqDiff, Int.cast_ofNat_Int, Int.reduceLT, Int.reduceLE, Int.reduceToNat, Int.reduceAdd, Int.reduceNeg, Int.reduceEq, reduceCtorEq, wrap_i, wrap_u, false_or, true_and, and_true, or_true, cond_true, cond_false, or_false, true_or]
 refine zah hβ (fun w hw => c_plain x hx w) fun β hβ ha => ?_
 simp only [ha, zaf, gx, ft, ↓zae, ↓zab, zak hβ, zaj hβ, Nat.reduceAdd, Nat.reduceSub, Nat.reduceMul, Nat.reduceLT, Nat.reduceLeDiff, Nat.reduceEqDiff, Int.cast_ofNat_Int, Int.reduceLT, Int.reduceLE, Int.reduceToNat, Int.reduceAdd, Int.reduceNeg, Int.reduceEq, reduceCtorEq, wrap_i, wrap_u, false_or, true_and, and_true, or_true, cond_true, cond_false, or_false, true_or]
 exact fun w' hw => by first | exact hw.same rfl | exact ⟨rfl, hw.same rfl⟩ | exact ⟨ret_dec (by omega), hw.same rfl⟩ | exact ⟨ret_t (by omega), hw.same rfl⟩ | exact ⟨ret_f (by omega), hw.same rfl⟩ | exact ⟨ret_n (by omega), hw.same rfl⟩ | exact ⟨ret_i (by omega), hw.same rfl⟩
theorem c_rows4 (x : Int) (hx : 0 ≤ x ∧ x ≤ 18446744073709551615) (w : World) : Gives Tryz.prog 124 [.int .u64 x] w (.bool (decide (plainW x % 8 = 0 ∧ 0 < x / 8 ∧ x / 8 ≤ 16777215))) := by
 have hp : (plainW x).tmod 8 = plainW x % 8 := Int.tmod_eq_emod_of_nonneg (by unfold plainW; omega)
 refine zal 100 fu124 rfl _ w _ [] [] (.nil w) fun β hβ _ => ?_
 simp only [gx, ft, ↓zae, ↓zab, zak hβ, zaj hβ, Nat.reduceAdd, Nat.reduceSub, Nat.reduceMul, Nat.reduceLT, Nat.reduceLeDiff, Nat.reduceEqDiff, Int.cast_ofNat_Int, Int.reduceLT, Int.reduceLE, Int.reduceToNat, Int.reduceAdd, Int.reduceNeg, Int.reduceEq, reduceCtorEq, wrap_i, wrap_u, false_or, true_and, and_true, or_true, cond_true, cond_false, or_false, true_or]
 refine zah hβ (fun w hw => c_plain x hx w) fun β hβ ha => ?_
 simp only [ha, zaf, gx, ft, ↓zae, ↓zab, zak hβ, zaj hβ, Nat.reduceAdd, Nat.reduceSub, Nat.reduceMul, Nat.reduceLT, Nat.reduceLeDiff, Nat.reduceEqDiff, Int.cast_ofNat_Int, Int.reduceLT, Int.reduceLE, Int.reduceToNat, Int.reduceAdd, Int.reduceNeg, Int.reduceEq, reduceCtorEq, wrap_i, wrap_u, false_or, true_and, and_true, or_true, cond_true, cond_false, or_false, true_or, hp]
 refine gd_i (fun h1 => ?_) fun h1 => ?_
 ·refine zah hβ (fun w hw => c_held x hx w) fun β hβ ha => ?_
  simp only [ha, zaf, gx, ft, ↓zae, ↓zab, zak hβ, zaj hβ, Nat.reduceAdd, Nat.reduceSub, Nat.reduceMul, Nat.reduceLT, Nat.reduceLeDiff, Nat.reduceEqDiff, Int.cast_ofNat_Int, Int.reduceLT, Int.reduceLE, Int.reduceToNat, Int.reduceAdd, Int.reduceNeg, Int.reduceEq, reduceCtorEq, wrap_i, wrap_u, false_or, true_and, and_true, or_true, cond_true, cond_false, or_false, true_or]
  refine gd_i (fun h2 => ?_) fun h2 => ?_
  ·refine zah hβ (fun w hw => c_held x hx w) fun β hβ ha => ?_
   simp only [ha, zaf, gx, ft, ↓zae, ↓zab, zak hβ, zaj hβ, Nat.reduceAdd, Nat.reduceSub, Nat.reduceMul, Nat.reduceLT, Nat.reduceLeDiff, Nat.reduceEqDiff, Int.cast_ofNat_Int, Int.reduceLT, Int.reduceLE, Int.reduceToNat, Int.reduceAdd, Int.reduceNeg, Int.reduceEq, reduceCtorEq, wrap_i, wrap_u, false_or, true_and, and_true, or_true, cond_true, cond_false, or_false, true_or]
   exact fun w' hw => by first | exact hw.same rfl | exact ⟨rfl, hw.same rfl⟩ | exact ⟨ret_dec (by omega), hw.same rfl⟩ | exact ⟨ret_t (by omega), hw.same rfl⟩ | exact ⟨ret_f (by omega), hw.same rfl⟩ | exact ⟨ret_n (by omega), hw.same rfl⟩ | exact ⟨ret_i (by omega), hw.same rfl⟩
  ·exact fun w' hw => by first | exact hw.same rfl | exact ⟨rfl, hw.same rfl⟩ | exact ⟨ret_dec (by omega), hw.same rfl⟩ | exact ⟨ret_t (by omega), hw.same rfl⟩ | exact ⟨ret_f (by omega), hw.same rfl⟩ | exact ⟨ret_n (by omega), hw.same rfl⟩ | exact ⟨ret_i (by omega), hw.same rfl⟩
 ·exact fun w' hw => by first | exact hw.same rfl | exact ⟨rfl, hw.same rfl⟩ | exact ⟨ret_dec (by omega), hw.same rfl⟩ | exact ⟨ret_t (by omega), hw.same rfl⟩ | exact ⟨ret_f (by omega), hw.same rfl⟩ | exact ⟨ret_n (by omega), hw.same rfl⟩ | exact ⟨ret_i (by omega), hw.same rfl⟩
theorem c_rows6 (x : Int) (hx : 0 ≤ x ∧ x ≤ 18446744073709551615) (w : World) : Gives Tryz.prog 126 [.int .u64 x] w (.bool (decide (plainW x % 8 = 4 ∧ x / 8 < 1152921504606846976))) := by
 have hp : (plainW x).tmod 8 = plainW x % 8 := Int.tmod_eq_emod_of_nonneg (by unfold plainW; omega)
 refine zal 100 fu126 rfl _ w _ [] [] (.nil w) fun β hβ _ => ?_
 simp only [gx, ft, ↓zae, ↓zab, zak hβ, zaj hβ, Nat.reduceAdd, Nat.reduceSub, Nat.reduceMul, Nat.reduceLT, Nat.reduceLeDiff, Nat.reduceEqDiff, Int.cast_ofNat_Int, Int.reduceLT, Int.reduceLE, Int.reduceToNat, Int.reduceAdd, Int.reduceNeg, Int.reduceEq, reduceCtorEq, wrap_i, wrap_u, false_or, true_and, and_true, or_true, cond_true, cond_false, or_false, true_or]
 refine zah hβ (fun w hw => c_plain x hx w) fun β hβ ha => ?_
 simp only [ha, zaf, gx, ft, ↓zae, ↓zab, zak hβ, zaj hβ, Nat.reduceAdd, Nat.reduceSub, Nat.reduceMul, Nat.reduceLT, Nat.reduceLeDiff, Nat.reduceEqDiff, Int.cast_ofNat_Int, Int.reduceLT, Int.reduceLE, Int.reduceToNat, Int.reduceAdd, Int.reduceNeg, Int.reduceEq, reduceCtorEq, wrap_i, wrap_u, false_or, true_and, and_true, or_true, cond_true, cond_false, or_false, true_or, hp]
 refine gd_i (fun h1 => ?_) fun h1 => ?_
 ·refine zah hβ (fun w hw => c_held x hx w) fun β hβ ha => ?_
  simp only [ha, zaf, gx, ft, ↓zae, ↓zab, zak hβ, zaj hβ, Nat.reduceAdd, Nat.reduceSub, Nat.reduceMul, Nat.reduceLT, Nat.reduceLeDiff, Nat.reduceEqDiff, Int.cast_ofNat_Int, Int.reduceLT, Int.reduceLE, Int.reduceToNat, Int.reduceAdd, Int.reduceNeg, Int.reduceEq, reduceCtorEq, wrap_i, wrap_u, false_or, true_and, and_true, or_true, cond_true, cond_false, or_false, true_or]
  exact fun w' hw => by first | exact hw.same rfl | exact ⟨rfl, hw.same rfl⟩ | exact ⟨ret_dec (by omega), hw.same rfl⟩ | exact ⟨ret_t (by omega), hw.same rfl⟩ | exact ⟨ret_f (by omega), hw.same rfl⟩ | exact ⟨ret_n (by omega), hw.same rfl⟩ | exact ⟨ret_i (by omega), hw.same rfl⟩
 ·exact fun w' hw => by first | exact hw.same rfl | exact ⟨rfl, hw.same rfl⟩ | exact ⟨ret_dec (by omega), hw.same rfl⟩ | exact ⟨ret_t (by omega), hw.same rfl⟩ | exact ⟨ret_f (by omega), hw.same rfl⟩ | exact ⟨ret_n (by omega), hw.same rfl⟩ | exact ⟨ret_i (by omega), hw.same rfl⟩
theorem c_rows8 (x : Int) (w : World) : Gives Tryz.prog 128 [.int .u64 x] w (.bool (decide (x = 2))) := by
 refine zal 100 fu128 rfl _ w _ [] [] (.nil w) fun β hβ _ => ?_
 simp only [gx, ft, ↓zae, ↓zab, zak hβ, zaj hβ, Nat.reduceAdd, Nat.reduceSub, Nat.reduceMul, Nat.reduceLT, Nat.reduceLeDiff, Nat.reduceEqDiff, Int.cast_ofNat_Int, Int.reduceLT, Int.reduceLE, Int.reduceToNat, Int.reduceAdd, Int.reduceNeg, Int.reduceEq, reduceCtorEq, wrap_i, wrap_u, false_or, true_and, and_true, or_true, cond_true, cond_false, or_false, true_or]
 exact fun w' hw => by first | exact hw.same rfl | exact ⟨rfl, hw.same rfl⟩ | exact ⟨ret_dec (by omega), hw.same rfl⟩ | exact ⟨ret_t (by omega), hw.same rfl⟩ | exact ⟨ret_f (by omega), hw.same rfl⟩ | exact ⟨ret_n (by omega), hw.same rfl⟩ | exact ⟨ret_i (by omega), hw.same rfl⟩
def rowsV : Value := .agg #[.string ⟨#[98, 97, 100]⟩, .func (.func 121) #[] #[], .int .i64 0, .int .i64 0, .nilFunc,
 .string ⟨#[110, 117, 108, 108]⟩, .func (.func 122) #[] #[], .int .i64 0, .int .i64 0, .func (.func 123) #[] #[],
 .string ⟨#[]⟩, .func (.func 124) #[] #[], .int .i64 1, .int .i64 16777215, .func (.func 125) #[] #[],
 .string ⟨#[]⟩, .func (.func 126) #[] #[], .int .i64 (-576460752303423488), .int .i64 576460752303423487, .func (.func 127) #[] #[],
 .string ⟨#[101, 109, 112, 116, 121]⟩, .func (.func 128) #[] #[], .int .i64 0, .int .i64 0, .func (.func 129) #[] #[]]
theorem c_rows (w : World) : Gives Tryz.prog 109 [] w rowsV := by
 refine zal 100 fu109 rfl _ w _ [] [] (.nil w) fun β hβ _ => ?_
 simp only [gx, ft, ↓zae, ↓zab, zak hβ, zaj hβ, Nat.reduceAdd, Nat.reduceSub, Nat.reduceMul, Nat.reduceLT, Nat.reduceLeDiff, Nat.reduceEqDiff, Int.cast_ofNat_Int, Int.reduceLT, Int.reduceLE, Int.reduceToNat, Int.reduceAdd, Int.reduceNeg, Int.reduceEq, reduceCtorEq, wrap_i, wrap_u, false_or, true_and, and_true, or_true, cond_true, cond_false, or_false, true_or]
 exact fun w' hw => by first | exact hw.same rfl | exact ⟨rfl, hw.same rfl⟩ | exact ⟨ret_dec (by omega), hw.same rfl⟩ | exact ⟨ret_t (by omega), hw.same rfl⟩ | exact ⟨ret_f (by omega), hw.same rfl⟩ | exact ⟨ret_n (by omega), hw.same rfl⟩ | exact ⟨ret_i (by omega), hw.same rfl⟩
def kindW (x : Int) : Int :=
 if plainW x = 0 then 1 else if plainW x % 8 = 0 ∧ 0 < x / 8 ∧ x / 8 ≤ 16777215 then 2 else
 if plainW x % 8 = 4 ∧ x / 8 < 1152921504606846976 then 3 else if x = 2 then 4 else 0
theorem c_of (x : Int) (hx : 0 ≤ x ∧ x ≤ 18446744073709551615) (w : World) : Gives Tryz.prog 96 [.int .u64 x] w (.agg #[.int .u64 (if kindW x = 0 then 0 else x), .int .i64 (kindW x)]) := by
 refine zal 100 fu96 rfl _ w _ [] [] (.nil w) fun β hβ _ => ?_
 simp only [gx, ft, ↓zae, ↓zab, zak hβ, zaj hβ, Nat.reduceAdd, Nat.reduceSub, Nat.reduceMul, Nat.reduceLT, Nat.reduceLeDiff, Nat.reduceEqDiff, Int.cast_ofNat_Int, Int.reduceLT, Int.reduceLE, Int.reduceToNat, Int.reduceAdd, Int.reduceNeg, Int.reduceEq, reduceCtorEq, wrap_i, wrap_u, false_or, true_and, and_true, or_true, cond_true, cond_false, or_false, true_or]
 refine zah hβ (fun w hw => c_rows w) fun β hβ ha => ?_
 simp only [ha, zaf, gx, ft, ↓zae, ↓zab, zak hβ, zaj hβ, Nat.reduceAdd, Nat.reduceSub, Nat.reduceMul, Nat.reduceLT, Nat.reduceLeDiff, Nat.reduceEqDiff, Int.cast_ofNat_Int, Int.reduceLT, Int.reduceLE, Int.reduceToNat, Int.reduceAdd, Int.reduceNeg, Int.reduceEq, reduceCtorEq, wrap_i, wrap_u, false_or, true_and, and_true, or_true, cond_true, cond_false, or_false, true_or]
 refine loop_run fu96 hβ 100 fun β hβ ha => ?_
 simp only [ha, zaf, gx, ft, ↓zae, ↓zab, zak hβ, zaj hβ, Nat.reduceAdd, Nat.reduceSub, Nat.reduceMul, Nat.reduceLT, Nat.reduceLeDiff, Nat.reduceEqDiff, Int.cast_ofNat_Int, Int.reduceLT, Int.reduceLE, Int.reduceToNat, Int.reduceAdd, Int.reduceNeg, Int.reduceEq, reduceCtorEq, wrap_i, wrap_u, false_or, true_and, and_true, or_true, cond_true, cond_false, or_false, true_or, rowsV]
 refine zah hβ (fun w hw => c_rows1 x w) fun β hβ ha => ?_
 simp only [ha, zaf, gx, ft, ↓zae, ↓zab, zak hβ, zaj hβ, Nat.reduceAdd, Nat.reduceSub, Nat.reduceMul, Nat.reduceLT, Nat.reduceLeDiff, Nat.reduceEqDiff, Int.cast_ofNat_Int, Int.reduceLT, Int.reduceLE, Int.reduceToNat, Int.reduceAdd, Int.reduceNeg, Int.reduceEq, reduceCtorEq, wrap_i, wrap_u, false_or, true_and, and_true, or_true, cond_true, cond_false, or_false, true_or]
 refine back_run fu96 hβ 100 fun β hβ ha => ?_
 simp only [ha, zaf, gx, ft, ↓zae, ↓zab, zak hβ, zaj hβ, Nat.reduceAdd, Nat.reduceSub, Nat.reduceMul, Nat.reduceLT, Nat.reduceLeDiff, Nat.reduceEqDiff, Int.cast_ofNat_Int, Int.reduceLT, Int.reduceLE, Int.reduceToNat, Int.reduceAdd, Int.reduceNeg, Int.reduceEq, reduceCtorEq, wrap_i, wrap_u, false_or, true_and, and_true, or_true, cond_true, cond_false, or_false, true_or]
 refine zah hβ (fun w hw => c_rows2 x hx w) fun β hβ ha => ?_
 simp only [ha, zaf, gx, ft, ↓zae, ↓zab, zak hβ, zaj hβ, Nat.reduceAdd, Nat.reduceSub, Nat.reduceMul, Nat.reduceLT, Nat.reduceLeDiff, Nat.reduceEqDiff, Int.cast_ofNat_Int, Int.reduceLT, Int.reduceLE, Int.reduceToNat, Int.reduceAdd, Int.reduceNeg, Int.reduceEq, reduceCtorEq, wrap_i, wrap_u, false_or, true_and, and_true, or_true, cond_true, cond_false, or_false, true_or]
 refine gd_i (fun h1 => ?_) fun h1 => ?_
 ·exact fun w' hw => by first | (refine ⟨?_, hw.same rfl⟩; simp [kindW, h1]) | exact hw.same rfl
 refine back_run fu96 hβ 100 fun β hβ ha => ?_
 simp only [ha, zaf, gx, ft, ↓zae, ↓zab, zak hβ, zaj hβ, Nat.reduceAdd, Nat.reduceSub, Nat.reduceMul, Nat.reduceLT, Nat.reduceLeDiff, Nat.reduceEqDiff, Int.cast_ofNat_Int, Int.reduceLT, Int.reduceLE, Int.reduceToNat, Int.reduceAdd, Int.reduceNeg, Int.reduceEq, reduceCtorEq, wrap_i, wrap_u, false_or, true_and, and_true, or_true, cond_true, cond_false, or_false, true_or]
 refine zah hβ (fun w hw => c_rows4 x hx w) fun β hβ ha => ?_
 simp only [ha, zaf, gx, ft, ↓zae, ↓zab, zak hβ, zaj hβ, Nat.reduceAdd, Nat.reduceSub, Nat.reduceMul, Nat.reduceLT, Nat.reduceLeDiff, Nat.reduceEqDiff, Int.cast_ofNat_Int, Int.reduceLT, Int.reduceLE, Int.reduceToNat, Int.reduceAdd, Int.reduceNeg, Int.reduceEq, reduceCtorEq, wrap_i, wrap_u, false_or, true_and, and_true, or_true, cond_true, cond_false, or_false, true_or]
 refine gd_i (fun h2 => ?_) fun h2 => ?_
 ·exact fun w' hw => by first | (refine ⟨?_, hw.same rfl⟩; simp [kindW, h1, h2]) | exact hw.same rfl
 refine back_run fu96 hβ 100 fun β hβ ha => ?_
 simp only [ha, zaf, gx, ft, ↓zae, ↓zab, zak hβ, zaj hβ, Nat.reduceAdd, Nat.reduceSub, Nat.reduceMul, Nat.reduceLT, Nat.reduceLeDiff, Nat.reduceEqDiff, Int.cast_ofNat_Int, Int.reduceLT, Int.reduceLE, Int.reduceToNat, Int.reduceAdd, Int.reduceNeg, Int.reduceEq, reduceCtorEq, wrap_i, wrap_u, false_or, true_and, and_true, or_true, cond_true, cond_false, or_false, true_or]
 refine zah hβ (fun w hw => c_rows6 x hx w) fun β hβ ha => ?_
 simp only [ha, zaf, gx, ft, ↓zae, ↓zab, zak hβ, zaj hβ, Nat.reduceAdd, Nat.reduceSub, Nat.reduceMul, Nat.reduceLT, Nat.reduceLeDiff, Nat.reduceEqDiff, Int.cast_ofNat_Int, Int.reduceLT, Int.reduceLE, Int.reduceToNat, Int.reduceAdd, Int.reduceNeg, Int.reduceEq, reduceCtorEq, wrap_i, wrap_u, false_or, true_and, and_true, or_true, cond_true, cond_false, or_false, true_or]
 refine gd_i (fun h3 => ?_) fun h3 => ?_
 ·exact fun w' hw => by first | (refine ⟨?_, hw.same rfl⟩; simp only [kindW, h1, h2, h3, if_false, if_true]; simp) | exact hw.same rfl
 refine back_run fu96 hβ 100 fun β hβ ha => ?_
 simp only [ha, zaf, gx, ft, ↓zae, ↓zab, zak hβ, zaj hβ, Nat.reduceAdd, Nat.reduceSub, Nat.reduceMul, Nat.reduceLT, Nat.reduceLeDiff, Nat.reduceEqDiff, Int.cast_ofNat_Int, Int.reduceLT, Int.reduceLE, Int.reduceToNat, Int.reduceAdd, Int.reduceNeg, Int.reduceEq, reduceCtorEq, wrap_i, wrap_u, false_or, true_and, and_true, or_true, cond_true, cond_false, or_false, true_or]
 refine zah hβ (fun w hw => c_rows8 x w) fun β hβ ha => ?_
 simp only [ha, zaf, gx, ft, ↓zae, ↓zab, zak hβ, zaj hβ, Nat.reduceAdd, Nat.reduceSub, Nat.reduceMul, Nat.reduceLT, Nat.reduceLeDiff, Nat.reduceEqDiff, Int.cast_ofNat_Int, Int.reduceLT, Int.reduceLE, Int.reduceToNat, Int.reduceAdd, Int.reduceNeg, Int.reduceEq, reduceCtorEq, wrap_i, wrap_u, false_or, true_and, and_true, or_true, cond_true, cond_false, or_false, true_or]
 refine gd_i (fun h4 => ?_) fun h4 => ?_
 ·exact fun w' hw => by first | (refine ⟨?_, hw.same rfl⟩; rw [show kindW x = 4 by unfold kindW; rw [if_neg h1, if_neg h2, if_neg h3, if_pos h4]]; rfl) | exact hw.same rfl
 refine back_run fu96 hβ 100 fun β hβ ha => ?_
 simp only [ha, zaf, gx, ft, ↓zae, ↓zab, zak hβ, zaj hβ, Nat.reduceAdd, Nat.reduceSub, Nat.reduceMul, Nat.reduceLT, Nat.reduceLeDiff, Nat.reduceEqDiff, Int.cast_ofNat_Int, Int.reduceLT, Int.reduceLE, Int.reduceToNat, Int.reduceAdd, Int.reduceNeg, Int.reduceEq, reduceCtorEq, wrap_i, wrap_u, false_or, true_and, and_true, or_true, cond_true, cond_false, or_false, true_or]
 exact fun w' hw => by first | (refine ⟨?_, hw.same rfl⟩; simp only [kindW, h1, h2, h3, h4, if_false, if_true]) | exact hw.same rfl
theorem c_full (x k : Int) (w : World) : Gives Tryz.prog 97 [.agg #[.int .u64 x, .int .i64 k]] w (.bool (decide (k ≠ 0 ∧ k ≠ 4))) := by
 refine zal 100 fu97 rfl _ w _ [] [] (.nil w) fun β hβ _ => ?_
 simp only [gx, ft, ↓zae, ↓zab, zak hβ, zaj hβ, Nat.reduceAdd, Nat.reduceSub, Nat.reduceMul, Nat.reduceLT, Nat.reduceLeDiff, Nat.reduceEqDiff, Int.cast_ofNat_Int, Int.reduceLT, Int.reduceLE, Int.reduceToNat, Int.reduceAdd, Int.reduceNeg, Int.reduceEq, reduceCtorEq, wrap_i, wrap_u, false_or, true_and, and_true, or_true, cond_true, cond_false, or_false, true_or]
 refine gd_n (fun h1 => ?_) fun h1 => ?_
 ·exact fun w' hw => by first | exact hw.same rfl | exact ⟨rfl, hw.same rfl⟩ | exact ⟨ret_dec (by omega), hw.same rfl⟩ | exact ⟨ret_t (by omega), hw.same rfl⟩ | exact ⟨ret_f (by omega), hw.same rfl⟩ | exact ⟨ret_n (by omega), hw.same rfl⟩ | exact ⟨ret_i (by omega), hw.same rfl⟩
 ·exact fun w' hw => by first | exact hw.same rfl | exact ⟨rfl, hw.same rfl⟩ | exact ⟨ret_dec (by omega), hw.same rfl⟩ | exact ⟨ret_t (by omega), hw.same rfl⟩ | exact ⟨ret_f (by omega), hw.same rfl⟩ | exact ⟨ret_n (by omega), hw.same rfl⟩ | exact ⟨ret_i (by omega), hw.same rfl⟩
def valW (x k : Int) : Int := if k = 2 then x / 8 else if k = 3 then x / 8 - 576460752303423488 else 0
theorem c_value (x k : Int) (hx : 0 ≤ x ∧ x ≤ 18446744073709551615) (w : World) : Gives Tryz.prog 99 [.agg #[.int .u64 x, .int .i64 k]] w (.int .i64 (valW x k)) := by
 refine zal 100 fu99 rfl _ w _ [] [] (.nil w) fun β hβ _ => ?_
 simp only [gx, ft, ↓zae, ↓zab, zak hβ, zaj hβ, Nat.reduceAdd, Nat.reduceSub, Nat.reduceMul, Nat.reduceLT, Nat.reduceLeDiff, Nat.reduceEqDiff, Int.cast_ofNat_Int, Int.reduceLT, Int.reduceLE, Int.reduceToNat, Int.reduceAdd, Int.reduceNeg, Int.reduceEq, reduceCtorEq, wrap_i, wrap_u, false_or, true_and, and_true, or_true, cond_true, cond_false, or_false, true_or]
 refine gd_i (fun h1 => ?_) fun h1 => ?_
 ·refine zah hβ (fun w hw => c_held x hx w) fun β hβ ha => ?_
  simp only [ha, zaf, gx, ft, ↓zae, ↓zab, zak hβ, zaj hβ, Nat.reduceAdd, Nat.reduceSub, Nat.reduceMul, Nat.reduceLT, Nat.reduceLeDiff, Nat.reduceEqDiff, Int.cast_ofNat_Int, Int.reduceLT, Int.reduceLE, Int.reduceToNat, Int.reduceAdd, Int.reduceNeg, Int.reduceEq, reduceCtorEq, wrap_i, wrap_u, false_or, true_and, and_true, or_true, cond_true, cond_false, or_false, true_or]
  exact fun w' hw => by first | (refine ⟨?_, hw.same rfl⟩; rw [valW, if_pos h1, wrap_i _ (by omega)]) | exact hw.same rfl
 refine gd_i (fun h2 => ?_) fun h2 => ?_
 ·refine zah hβ (fun w hw => c_held x hx w) fun β hβ ha => ?_
  simp only [ha, zaf, gx, ft, ↓zae, ↓zab, zak hβ, zaj hβ, Nat.reduceAdd, Nat.reduceSub, Nat.reduceMul, Nat.reduceLT, Nat.reduceLeDiff, Nat.reduceEqDiff, Int.cast_ofNat_Int, Int.reduceLT, Int.reduceLE, Int.reduceToNat, Int.reduceAdd, Int.reduceNeg, Int.reduceEq, reduceCtorEq, wrap_i, wrap_u, false_or, true_and, and_true, or_true, cond_true, cond_false, or_false, true_or]
  exact fun w' hw => by first | (refine ⟨?_, hw.same rfl⟩; rw [valW, if_neg h1, if_pos h2, wrap_i (x / 8) (by omega), wrap_i _ (by omega)]) | exact hw.same rfl
 ·exact fun w' hw => by first | (refine ⟨?_, hw.same rfl⟩; rw [valW, if_neg h1, if_neg h2]) | exact hw.same rfl
def sealedW (x : Int) : Bool := decide (kindW x ≠ 0 ∧ kindW x ≠ 4) && decide (plainW x ≠ x)
theorem kind_0 (x : Int) : kindW x = 0 ∨ kindW x = 1 ∨ kindW x = 2 ∨ kindW x = 3 ∨ kindW x = 4 := by
 unfold kindW; split <;> try omega
theorem kind_val (x : Int) : valW (if kindW x = 0 then 0 else x) (kindW x) = valW x (kindW x) := by
 by_cases h : kindW x = 0
 ·rw [if_pos h, h]; rfl
 ·rw [if_neg h]
theorem kind_le (x : Int) (hx : 0 ≤ x ∧ x ≤ 18446744073709551615) : 0 ≤ (if kindW x = 0 then 0 else x) ∧ (if kindW x = 0 then 0 else x) ≤ 18446744073709551615 := by
 split <;> omega
theorem c_Of (x : Int) (hx : 0 ≤ x ∧ x ≤ 18446744073709551615) (w : World) : Gives Tryz.prog 80 [.int .u64 x] w (.agg #[.int .i64 (kindW x), .bool (sealedW x), .int .i64 (valW x (kindW x))]) := by
 refine zal 100 fu80 rfl _ w _ [] [] (.nil w) fun β hβ _ => ?_
 simp only [gx, ft, ↓zae, ↓zab, zak hβ, zaj hβ, Nat.reduceAdd, Nat.reduceSub, Nat.reduceMul, Nat.reduceLT, Nat.reduceLeDiff, Nat.reduceEqDiff, Int.cast_ofNat_Int, Int.reduceLT, Int.reduceLE, Int.reduceToNat, Int.reduceAdd, Int.reduceNeg, Int.reduceEq, reduceCtorEq, wrap_i, wrap_u, false_or, true_and, and_true, or_true, cond_true, cond_false, or_false, true_or]
 refine zah hβ (fun w hw => c_of x hx w) fun β hβ ha => ?_
 try simp only [ha, zaf, gx, ft, ↓zae, ↓zab, zak hβ, zaj hβ, Nat.reduceAdd, Nat.reduceSub, Nat.reduceMul, Nat.reduceLT, Nat.reduceLeDiff, Nat.reduceEqDiff, Int.cast_ofNat_Int, Int.reduceLT, Int.reduceLE, Int.reduceToNat, Int.reduceAdd, Int.reduceNeg, Int.reduceEq, reduceCtorEq, wrap_i, wrap_u, false_or, true_and, and_true, or_true, cond_true, cond_false, or_false, true_or, nms_0, nms_s]
 refine draw_run fu80 mixed hβ 100 [15] (by decide +kernel) fun β hβ ha => ?_
 try simp only [ha, zaf, gx, ft, ↓zae, ↓zab, zak hβ, zaj hβ, Nat.reduceAdd, Nat.reduceSub, Nat.reduceMul, Nat.reduceLT, Nat.reduceLeDiff, Nat.reduceEqDiff, Int.cast_ofNat_Int, Int.reduceLT, Int.reduceLE, Int.reduceToNat, Int.reduceAdd, Int.reduceNeg, Int.reduceEq, reduceCtorEq, wrap_i, wrap_u, false_or, true_and, and_true, or_true, cond_true, cond_false, or_false, true_or, nms_0, nms_s]
 refine ⟨_, fun w hw => c_full _ _ w, fun β hβ ha => ?_⟩
 try simp only [ha, zaf, gx, ft, ↓zae, ↓zab, zak hβ, zaj hβ, Nat.reduceAdd, Nat.reduceSub, Nat.reduceMul, Nat.reduceLT, Nat.reduceLeDiff, Nat.reduceEqDiff, Int.cast_ofNat_Int, Int.reduceLT, Int.reduceLE, Int.reduceToNat, Int.reduceAdd, Int.reduceNeg, Int.reduceEq, reduceCtorEq, wrap_i, wrap_u, false_or, true_and, and_true, or_true, cond_true, cond_false, or_false, true_or, nms_0, nms_s]
 refine gd_i (fun h1 => ?_) fun h1 => ?_
 ·refine ⟨_, fun w hw => c_plain _ (kind_le x hx) w, fun β hβ ha => ?_⟩
  try simp only [ha, zaf, gx, ft, ↓zae, ↓zab, zak hβ, zaj hβ, Nat.reduceAdd, Nat.reduceSub, Nat.reduceMul, Nat.reduceLT, Nat.reduceLeDiff, Nat.reduceEqDiff, Int.cast_ofNat_Int, Int.reduceLT, Int.reduceLE, Int.reduceToNat, Int.reduceAdd, Int.reduceNeg, Int.reduceEq, reduceCtorEq, wrap_i, wrap_u, false_or, true_and, and_true, or_true, cond_true, cond_false, or_false, true_or, nms_0, nms_s]
  refine ⟨_, fun w hw => c_value _ _ (kind_le x hx) w, fun β hβ ha => ?_⟩
  try simp only [ha, zaf, gx, ft, ↓zae, ↓zab, zak hβ, zaj hβ, Nat.reduceAdd, Nat.reduceSub, Nat.reduceMul, Nat.reduceLT, Nat.reduceLeDiff, Nat.reduceEqDiff, Int.cast_ofNat_Int, Int.reduceLT, Int.reduceLE, Int.reduceToNat, Int.reduceAdd, Int.reduceNeg, Int.reduceEq, reduceCtorEq, wrap_i, wrap_u, false_or, true_and, and_true, or_true, cond_true, cond_false, or_false, true_or, nms_0, nms_s]
  exact fun w' hw => by first | (refine ⟨?_, hw.same rfl⟩; rw [kind_val, sealedW, if_neg h1.1, decide_eq_true h1, Bool.true_and]; simp) | exact hw.same rfl
 ·refine ⟨_, fun w hw => c_value _ _ (kind_le x hx) w, fun β hβ ha => ?_⟩
  try simp only [ha, zaf, gx, ft, ↓zae, ↓zab, zak hβ, zaj hβ, Nat.reduceAdd, Nat.reduceSub, Nat.reduceMul, Nat.reduceLT, Nat.reduceLeDiff, Nat.reduceEqDiff, Int.cast_ofNat_Int, Int.reduceLT, Int.reduceLE, Int.reduceToNat, Int.reduceAdd, Int.reduceNeg, Int.reduceEq, reduceCtorEq, wrap_i, wrap_u, false_or, true_and, and_true, or_true, cond_true, cond_false, or_false, true_or, nms_0, nms_s]
  exact fun w' hw => by first | (refine ⟨?_, hw.same rfl⟩; rw [kind_val, sealedW, decide_eq_false h1]; rfl) | exact hw.same rfl
end Go.Proofs.YteglommbdpaokaaGreat
namespace Go.Proofs.YteglommbdpaokaaGreat
open Go.Gx Go.RowKit
set_option maxRecDepth 100000
def lettersO : Obj := .map #[{ key := .int .i32 112, val := .int .i64 0, born := 0 }, { key := .int .i32 115, val := .int .i64 1, born := 1 }] 2
theorem tmap : Tryz.prog.underlying 191 = some (.map 21 193) := by kernel_rfl
theorem trune : Tryz.prog.underlying 21 = some (.int .i32) := by kernel_rfl
theorem tfield (w : World) : (zeroValue 193).run Tryz.prog w = .ok (.int .i64 0) w := by kernel_rfl
theorem tstring : Tryz.prog.underlying 9 = some .string := by kernel_rfl
theorem c_letters (w : World) : Makes Tryz.prog 120 [] w (fun _ => .o 2 lettersO) (fun b => .map (some b)) := by
 refine zal 100 fu120 rfl _ w _ [] [] (.nil w) fun β hβ _ => ?_
 simp only [gx, ft, ↓zae, ↓zab, zak hβ, zaj hβ, Nat.reduceAdd, Nat.reduceSub, Nat.reduceMul, Nat.reduceLT, Nat.reduceLeDiff, Nat.reduceEqDiff, Int.cast_ofNat_Int, Int.reduceLT, Int.reduceLE, Int.reduceToNat, Int.reduceAdd, Int.reduceNeg, Int.reduceEq, reduceCtorEq, wrap_i, wrap_u, false_or, true_and, and_true, or_true, cond_true, cond_false, or_false, true_or]
 refine opX_new hβ (fun b => .map (some b)) (.o 2 (.map #[] 0)) rfl (fun w hw => ex_makeMap rfl) fun β hβ ha => ?_
 try simp only [ha, zaf, gx, ft, ↓zae, ↓zab, zak hβ, zaj hβ, Nat.reduceAdd, Nat.reduceSub, Nat.reduceMul, Nat.reduceLT, Nat.reduceLeDiff, Nat.reduceEqDiff, Int.cast_ofNat_Int, Int.reduceLT, Int.reduceLE, Int.reduceToNat, Int.reduceAdd, Int.reduceNeg, Int.reduceEq, reduceCtorEq, wrap_i, wrap_u, false_or, true_and, and_true, or_true, cond_true, cond_false, or_false, true_or, nms_0, nms_s]
 refine opX_set hβ undef (i := 0) (.o 2 (.map #[{ key := .int .i32 112, val := .int .i64 0, born := 0 }] 1)) rfl (.inr rfl) rfl (fun w hw => .inr ⟨ex_insert rfl tmap trune rfl rfl (hw.obj 0 _ rfl) rfl rfl, rfl⟩) fun β hβ ha => ?_
 try simp only [ha, zaf, gx, ft, ↓zae, ↓zab, zak hβ, zaj hβ, Nat.reduceAdd, Nat.reduceSub, Nat.reduceMul, Nat.reduceLT, Nat.reduceLeDiff, Nat.reduceEqDiff, Int.cast_ofNat_Int, Int.reduceLT, Int.reduceLE, Int.reduceToNat, Int.reduceAdd, Int.reduceNeg, Int.reduceEq, reduceCtorEq, wrap_i, wrap_u, false_or, true_and, and_true, or_true, cond_true, cond_false, or_false, true_or, nms_0, nms_s]
 refine opX_set hβ undef (i := 0) (.o 2 lettersO) rfl (.inr rfl) rfl (fun w hw => .inr ⟨ex_insert rfl tmap trune rfl rfl (hw.obj 0 _ rfl) rfl rfl, rfl⟩) fun β hβ ha => ?_
 try simp only [ha, zaf, gx, ft, ↓zae, ↓zab, zak hβ, zaj hβ, Nat.reduceAdd, Nat.reduceSub, Nat.reduceMul, Nat.reduceLT, Nat.reduceLeDiff, Nat.reduceEqDiff, Int.cast_ofNat_Int, Int.reduceLT, Int.reduceLE, Int.reduceToNat, Int.reduceAdd, Int.reduceNeg, Int.reduceEq, reduceCtorEq, wrap_i, wrap_u, false_or, true_and, and_true, or_true, cond_true, cond_false, or_false, true_or, nms_0, nms_s]
 exact fun w' hw => ⟨β 0, hw.fresh 0 _ rfl rfl, rfl, hw.same rfl, hw.obj 0 _ rfl⟩
def okLetter (b : UInt8) : Bool := b == 112 || b == 115
def badS (s : ByteArray) : Bool := !(s.data.toList.all okLetter) || decide (8 < s.size)
theorem letter_mem (s : ByteArray) (i : Nat) (h : i < s.size) : s[i] ∈ s.data.toList := by
 have h' : i < s.data.toList.length := by simpa using h
 have : s[i] = s.data.toList[i]'h' := rfl
 rw [this]; exact List.getElem_mem h'
theorem bad_at (s : ByteArray) (pos : Nat) (h : pos < s.size) (hb : ¬ okLetter s[pos] = true) : badS s = true := by
 have : s.data.toList.all okLetter = false := by
  rw [Bool.eq_false_iff]
  exact fun ha => hb (List.all_eq_true.1 ha _ (letter_mem s pos h))
 simp [badS, this]
theorem bad_none (s : ByteArray) (h : ∀ i (h : i < s.size), okLetter s[i] = true) : badS s = decide (8 < s.size) := by
 have : s.data.toList.all okLetter = true := by
  rw [List.all_eq_true]
  intro x hx
  obtain ⟨i, hi, rfl⟩ := List.getElem_of_mem hx
  exact h i (by simpa using hi)
 simp [badS, this]
theorem c_bad (s : ByteArray) (w : World) : Gives Tryz.prog 108 [.string s] w (.bool (badS s)) := by
 refine zal 100 fu108 rfl _ w _ [] [] (.nil w) fun β hβ _ => ?_
 simp only [gx, ft, ↓zae, ↓zab, zak hβ, zaj hβ, Nat.reduceAdd, Nat.reduceSub, Nat.reduceMul, Nat.reduceLT, Nat.reduceLeDiff, Nat.reduceEqDiff, Int.cast_ofNat_Int, Int.reduceLT, Int.reduceLE, Int.reduceToNat, Int.reduceAdd, Int.reduceNeg, Int.reduceEq, reduceCtorEq, wrap_i, wrap_u, false_or, true_and, and_true, or_true, cond_true, cond_false, or_false, true_or]
 refine call_makes hβ (fun _ => rfl) (fun w hw => c_letters w) fun β hβ ha => ?_
 try simp only [ha, zaf, gx, ft, ↓zae, ↓zab, zak hβ, zaj hβ, Nat.reduceAdd, Nat.reduceSub, Nat.reduceMul, Nat.reduceLT, Nat.reduceLeDiff, Nat.reduceEqDiff, Int.cast_ofNat_Int, Int.reduceLT, Int.reduceLE, Int.reduceToNat, Int.reduceAdd, Int.reduceNeg, Int.reduceEq, reduceCtorEq, wrap_i, wrap_u, false_or, true_and, and_true, or_true, cond_true, cond_false, or_false, true_or, nms_0, nms_s]
 refine opX_range hβ rfl tstring s rfl fun β hβ ha => ?_
 try simp only [ha, zaf, gx, ft, ↓zae, ↓zab, zak hβ, zaj hβ, Nat.reduceAdd, Nat.reduceSub, Nat.reduceMul, Nat.reduceLT, Nat.reduceLeDiff, Nat.reduceEqDiff, Int.cast_ofNat_Int, Int.reduceLT, Int.reduceLE, Int.reduceToNat, Int.reduceAdd, Int.reduceNeg, Int.reduceEq, reduceCtorEq, wrap_i, wrap_u, false_or, true_and, and_true, or_true, cond_true, cond_false, or_false, true_or, nms_0, nms_s]
 revert β
 refine loop_setsR fu108 [11, 12, 13, 5, 15, 16, 17, 14, 18, 19, 6, 7, 20, 21] 100
  (fun m _ _ hp => ∃ pos, pos ≤ s.size ∧ m = s.size - pos ∧ hp = [.o 2 lettersO, .o 2 (.stringIter s pos)] ∧ ∀ i (h : i < s.size), i < pos → okLetter s[i] = true) s.size (fun _ _ => ⟨0, by omega, rfl, rfl, fun _ _ h => by omega⟩) ?_
 rintro m ih β u hp hβ ⟨pos, hpos, rfl, rfl, hall⟩ β' hβ ha
 simp only [ha, zaf, gx, ft, ↓zae, ↓zab, zak hβ, zaj hβ, Nat.reduceAdd, Nat.reduceSub, Nat.reduceMul, Nat.reduceLT, Nat.reduceLeDiff, Nat.reduceEqDiff, Int.cast_ofNat_Int, Int.reduceLT, Int.reduceLE, Int.reduceToNat, Int.reduceAdd, Int.reduceNeg, Int.reduceEq, reduceCtorEq, wrap_i, wrap_u, false_or, true_and, and_true, or_true, cond_true, cond_false, or_false, true_or, sets]
 by_cases hlt : pos < s.size
 ·by_cases hok : okLetter s[pos] = true
  ·have hdec : Utf8.decode s pos = ((s[pos]).toNat, 1) := decode_ascii s pos hlt (by
     simp only [okLetter, Bool.or_eq_true, beq_iff_eq] at hok
     rcases hok with h | h <;> rw [h] <;> decide)
   have hq : (s[pos]).toNat = 112 ∨ (s[pos]).toNat = 115 := by
    simp only [okLetter, Bool.or_eq_true, beq_iff_eq] at hok
    rcases hok with h | h <;> rw [h] <;> decide
   refine opX_next hβ rfl 1 rfl rfl _ _ hdec hlt fun β hβ ha => ?_
   try simp only [ha, zaf, gx, ft, ↓zae, ↓zab, zak hβ, zaj hβ, Nat.reduceAdd, Nat.reduceSub, Nat.reduceMul, Nat.reduceLT, Nat.reduceLeDiff, Nat.reduceEqDiff, Int.cast_ofNat_Int, Int.reduceLT, Int.reduceLE, Int.reduceToNat, Int.reduceAdd, Int.reduceNeg, Int.reduceEq, reduceCtorEq, wrap_i, wrap_u, false_or, true_and, and_true, or_true, cond_true, cond_false, or_false, true_or, nms_0, nms_s]
   refine opX_lookup hβ rfl tmap trune 0 rfl _ rfl rfl (some (if (s[pos]).toNat = 112 then (0, .int .i64 0) else (1, .int .i64 1))) (by rcases hq with h | h <;> rw [h] <;> rfl) tfield fun β hβ ha => ?_
   simp only [lookV_some, ha, zaf, gx, ft, ↓zae, ↓zab, zak hβ, zaj hβ, Nat.reduceAdd, Nat.reduceSub, Nat.reduceMul, Nat.reduceLT, Nat.reduceLeDiff, Nat.reduceEqDiff, Int.cast_ofNat_Int, Int.reduceLT, Int.reduceLE, Int.reduceToNat, Int.reduceAdd, Int.reduceNeg, Int.reduceEq, reduceCtorEq, wrap_i, wrap_u, false_or, true_and, and_true, or_true, cond_true, cond_false, or_false, true_or]
   refine ih _ β _ _ (by omega) hβ ⟨pos + 1, by omega, rfl, rfl, fun i hi hlt => ?_⟩ rfl
   rcases Nat.lt_or_ge i pos with h | h
   ·exact hall i hi h
   ·obtain rfl : i = pos := by omega
    exact hok
  ·obtain ⟨c, n, hdec⟩ : ∃ c n, Utf8.decode s pos = (c, n) := ⟨_, _, rfl⟩
   have hc : c ≠ 112 ∧ c ≠ 115 := by
    refine ⟨fun h => ?_, fun h => ?_⟩ <;> subst h <;> have h1 := decode_low s pos hlt (by rw [hdec]; show (_ : Nat) < 128; omega) <;> have h2 := decode_ascii s pos hlt h1 <;> rw [hdec] at h2 <;>
     simp only [Prod.mk.injEq] at h2 <;> apply hok <;> simp only [okLetter, Bool.or_eq_true, beq_iff_eq]
    ·exact .inl (UInt8.toNat_inj.1 (by rw [← h2.1]; rfl))
    ·exact .inr (UInt8.toNat_inj.1 (by rw [← h2.1]; rfl))
   refine opX_next hβ rfl 1 rfl rfl _ _ hdec hlt fun β hβ ha => ?_
   try simp only [ha, zaf, gx, ft, ↓zae, ↓zab, zak hβ, zaj hβ, Nat.reduceAdd, Nat.reduceSub, Nat.reduceMul, Nat.reduceLT, Nat.reduceLeDiff, Nat.reduceEqDiff, Int.cast_ofNat_Int, Int.reduceLT, Int.reduceLE, Int.reduceToNat, Int.reduceAdd, Int.reduceNeg, Int.reduceEq, reduceCtorEq, wrap_i, wrap_u, false_or, true_and, and_true, or_true, cond_true, cond_false, or_false, true_or, nms_0, nms_s]
   refine opX_lookup hβ rfl tmap trune 0 rfl _ rfl rfl none (by
    have h1 : ((c : Int) == 112) = false := beq_eq_false_iff_ne.2 (by omega)
    have h2 : ((c : Int) == 115) = false := beq_eq_false_iff_ne.2 (by omega)
    simp [lettersO, Instr.findNow, Instr.sameNow, h1, h2]) tfield fun β hβ ha => ?_
   simp only [lookV_none, ha, zaf, gx, ft, ↓zae, ↓zab, zak hβ, zaj hβ, Nat.reduceAdd, Nat.reduceSub, Nat.reduceMul, Nat.reduceLT, Nat.reduceLeDiff, Nat.reduceEqDiff, Int.cast_ofNat_Int, Int.reduceLT, Int.reduceLE, Int.reduceToNat, Int.reduceAdd, Int.reduceNeg, Int.reduceEq, reduceCtorEq, wrap_i, wrap_u, false_or, true_and, and_true, or_true, cond_true, cond_false, or_false, true_or]
   exact fun w' hw => by first | (refine ⟨?_, hw.same rfl⟩; rw [bad_at s pos hlt hok]) | exact hw.same rfl
 ·refine opX_nextEnd hβ rfl 1 rfl rfl hlt fun β hβ ha => ?_
  try simp only [ha, zaf, gx, ft, ↓zae, ↓zab, zak hβ, zaj hβ, Nat.reduceAdd, Nat.reduceSub, Nat.reduceMul, Nat.reduceLT, Nat.reduceLeDiff, Nat.reduceEqDiff, Int.cast_ofNat_Int, Int.reduceLT, Int.reduceLE, Int.reduceToNat, Int.reduceAdd, Int.reduceNeg, Int.reduceEq, reduceCtorEq, wrap_i, wrap_u, false_or, true_and, and_true, or_true, cond_true, cond_false, or_false, true_or, nms_0, nms_s]
  exact fun w' hw => by first | (refine ⟨?_, hw.same rfl⟩; rw [bad_none s fun i hi => hall i hi (by omega)]; exact ret_dec (by omega)) | exact hw.same rfl
end Go.Proofs.YteglommbdpaokaaGreat
namespace Go.Proofs.YteglommbdpaokaaGreat
open Go.Gx Go.RowKit
set_option maxRecDepth 100000
structure Shp (w : World) (p : Option Addr) (n : Nat) (L : List ByteArray) : Prop where
 len : L.length = n
 ats : n = 0 ∨ ∃ b off cs t z, p = some ⟨b, off, none⟩ ∧ w.heap[b]? = some (.cells (List.toArray cs) t z) ∧ ∀ i (h : i < L.length), cs[off + i]? = some (.string L[i])
theorem Shp.keep {w w' : World} {p : Option Addr} {n : Nat} {L : List ByteArray} (h : Shp w p n L) (hb : Below w.heap.size w w') : Shp w' p n L := by
 refine ⟨h.len, ?_⟩
 rcases h.ats with h0 | ⟨b, off, cs, t, z, h1, h2, h3⟩
 ·exact .inl h0
 ·refine .inr ⟨b, off, cs, t, z, h1, ?_, h3⟩
  rw [← h2]; exact hb.block b (Array.getElem?_eq_some_iff.1 h2).1
def firstBad (L : List ByteArray) : Int := match L.findIdx? badS with
 | some i => i
 | none => -1
theorem firstBad_at {L : List ByteArray} {i : Nat} (h : i < L.length) (hb : badS L[i] = true) (hn : ∀ j (h : j < L.length), j < i → badS L[j] = false) : firstBad L = i := by
 have : L.findIdx? badS = some i := by
  rw [List.findIdx?_eq_some_iff_getElem]
  exact ⟨h, hb, fun j hj => by rw [hn j (by omega) hj]; simp⟩
 simp [firstBad, this]
theorem firstBad_none {L : List ByteArray} (hn : ∀ j (h : j < L.length), badS L[j] = false) : firstBad L = -1 := by
 have : L.findIdx? badS = none := by
  rw [List.findIdx?_eq_none_iff]
  intro x hx
  obtain ⟨i, hi, rfl⟩ := List.getElem_of_mem hx
  exact hn i hi
 simp [firstBad, this]
theorem c_index (L : List ByteArray) (p : Option Addr) (n c : Nat) (w : World) (hs : Shp w p n L) (hn : n ≤ 1000) : Gives Tryz.prog 119 [.slice p n c, .func (.func 108) #[] #[]] w (.int .i64 (firstBad L)) := by
 obtain ⟨hlen, hat⟩ := hs
 rcases hat with rfl | ⟨b, off, cs, t, z, rfl, hb, hcs⟩
 ·refine zal 100 fu119 rfl _ w _ [] [] (.nil w) fun β hβ _ => ?_
  simp only [gx, ft, ↓zae, ↓zab, zak hβ, zaj hβ, Nat.reduceAdd, Nat.reduceSub, Nat.reduceMul, Nat.reduceLT, Nat.reduceLeDiff, Nat.reduceEqDiff, Int.cast_ofNat_Int, Int.reduceLT, Int.reduceLE, Int.reduceToNat, Int.reduceAdd, Int.reduceNeg, Int.reduceEq, reduceCtorEq, wrap_i, wrap_u, false_or, true_and, and_true, or_true, cond_true, cond_false, or_false, true_or]
  refine loop_run fu119 hβ 100 fun β hβ ha => ?_
  try simp only [ha, zaf, gx, ft, ↓zae, ↓zab, zak hβ, zaj hβ, Nat.reduceAdd, Nat.reduceSub, Nat.reduceMul, Nat.reduceLT, Nat.reduceLeDiff, Nat.reduceEqDiff, Int.cast_ofNat_Int, Int.reduceLT, Int.reduceLE, Int.reduceToNat, Int.reduceAdd, Int.reduceNeg, Int.reduceEq, reduceCtorEq, wrap_i, wrap_u, false_or, true_and, and_true, or_true, cond_true, cond_false, or_false, true_or, nms_0, nms_s]
  exact fun w' hw => by first | (refine ⟨?_, hw.same rfl⟩; rw [List.length_eq_zero_iff.1 hlen]; rfl) | exact hw.same rfl
 ·refine zal 100 fu119 rfl _ w _ [b] [.r cs t z] (.cons hb (by simp [HE.kind]) (by simp) (.nil w)) fun β hβ hbs => ?_
  obtain rfl : β 0 = b := hbs 0 _ rfl
  simp only [gx, ft, ↓zae, ↓zab, zak hβ, zaj hβ, Nat.reduceAdd, Nat.reduceSub, Nat.reduceMul, Nat.reduceLT, Nat.reduceLeDiff, Nat.reduceEqDiff, Int.cast_ofNat_Int, Int.reduceLT, Int.reduceLE, Int.reduceToNat, Int.reduceAdd, Int.reduceNeg, Int.reduceEq, reduceCtorEq, wrap_i, wrap_u, false_or, true_and, and_true, or_true, cond_true, cond_false, or_false, true_or]
  clear hb
  revert β
  refine loop_setsR fu119 [8, 9, 10, 5, 11, 12, 13, 14, 15, 16, 17, 18] 100
   (fun m _ u hp => ∃ i : Nat, i ≤ n ∧ m = n - i ∧ u 8 = .int .i64 i ∧ hp = [.r cs t z] ∧ ∀ j (h : j < L.length), j < i → badS L[j] = false) n (fun _ _ => ⟨0, by omega, rfl, rfl, rfl, fun _ _ h => by omega⟩) ?_
  rintro m ih β u hp hβ ⟨i, hi, rfl, hu, rfl, hall⟩ β' hβ ha
  simp only [ha, zaf, gx, ft, ↓zae, ↓zab, zak hβ, zaj hβ, Nat.reduceAdd, Nat.reduceSub, Nat.reduceMul, Nat.reduceLT, Nat.reduceLeDiff, Nat.reduceEqDiff, Int.cast_ofNat_Int, Int.reduceLT, Int.reduceLE, Int.reduceToNat, Int.reduceAdd, Int.reduceNeg, Int.reduceEq, reduceCtorEq, wrap_i, wrap_u, false_or, true_and, and_true, or_true, cond_true, cond_false, or_false, true_or, sets, hu]
  refine gd_i (fun h1 => ?_) fun h1 => ?_
  ·have hil : i < L.length := by omega
   have h2 : (i : Int).toNat = i := by omega
   have h3 := hcs i hil
   simp only [ha, zaf, gx, ft, ↓zae, ↓zab, zak hβ, zaj hβ, Nat.reduceAdd, Nat.reduceSub, Nat.reduceMul, Nat.reduceLT, Nat.reduceLeDiff, Nat.reduceEqDiff, Int.cast_ofNat_Int, Int.reduceLT, Int.reduceLE, Int.reduceToNat, Int.reduceAdd, Int.reduceNeg, Int.reduceEq, reduceCtorEq, wrap_i, wrap_u, false_or, true_and, and_true, or_true, cond_true, cond_false, or_false, true_or, h2, h3]
   refine ⟨by omega, ?_⟩
   refine zah hβ (fun w hw => c_bad _ w) fun β hβ ha => ?_
   try simp only [ha, zaf, gx, ft, ↓zae, ↓zab, zak hβ, zaj hβ, Nat.reduceAdd, Nat.reduceSub, Nat.reduceMul, Nat.reduceLT, Nat.reduceLeDiff, Nat.reduceEqDiff, Int.cast_ofNat_Int, Int.reduceLT, Int.reduceLE, Int.reduceToNat, Int.reduceAdd, Int.reduceNeg, Int.reduceEq, reduceCtorEq, wrap_i, wrap_u, false_or, true_and, and_true, or_true, cond_true, cond_false, or_false, true_or, nms_0, nms_s]
   refine gd_b (fun h4 => ?_) fun h4 => ?_
   ·exact fun w' hw => by first | (refine ⟨?_, hw.same rfl⟩; rw [firstBad_at hil h4 hall]) | exact hw.same rfl
   ·rw [wrap_i _ (by omega)]
    refine ih _ β _ _ (by omega) hβ ⟨i + 1, by omega, rfl, by simp, rfl, fun j hj hlt => ?_⟩ rfl
    rcases Nat.lt_or_ge j i with h | h
    ·exact hall j hj h
    ·obtain rfl : j = i := by omega
     exact h4
  ·exact fun w' hw => by first | (refine ⟨?_, hw.same rfl⟩; rw [firstBad_none fun j hj => hall j hj (by omega)]) | exact hw.same rfl
theorem firstBad_any (L : List ByteArray) : decide (firstBad L ≥ 0) = L.any badS := by
 cases h : L.findIdx? badS with
 | none =>
   have : L.any badS = false := by
    rw [List.any_eq_false]
    rw [List.findIdx?_eq_none_iff] at h
    exact fun x hx => by simp [h x hx]
   simp [firstBad, h, this]
 | some i =>
   have : L.any badS = true := by
    rw [List.findIdx?_eq_some_iff_getElem] at h
    obtain ⟨h1, h2, _⟩ := h
    exact List.any_eq_true.2 ⟨_, List.getElem_mem h1, h2⟩
   simp [firstBad, h, this]
theorem c_contains (L : List ByteArray) (p : Option Addr) (n c : Nat) (w : World) (hs : Shp w p n L) (hn : n ≤ 1000) : Gives Tryz.prog 107 [.slice p n c, .func (.func 108) #[] #[]] w (.bool (L.any badS)) := by
 refine zal 100 fu107 rfl _ w _ [] [] (.nil w) fun β hβ _ => ?_
 simp only [gx, ft, ↓zae, ↓zab, zak hβ, zaj hβ, Nat.reduceAdd, Nat.reduceSub, Nat.reduceMul, Nat.reduceLT, Nat.reduceLeDiff, Nat.reduceEqDiff, Int.cast_ofNat_Int, Int.reduceLT, Int.reduceLE, Int.reduceToNat, Int.reduceAdd, Int.reduceNeg, Int.reduceEq, reduceCtorEq, wrap_i, wrap_u, false_or, true_and, and_true, or_true, cond_true, cond_false, or_false, true_or]
 refine zah hβ (fun w hw => c_index L p n c w (hs.keep (hw.same rfl)) hn) fun β hβ ha => ?_
 try simp only [ha, zaf, gx, ft, ↓zae, ↓zab, zak hβ, zaj hβ, Nat.reduceAdd, Nat.reduceSub, Nat.reduceMul, Nat.reduceLT, Nat.reduceLeDiff, Nat.reduceEqDiff, Int.cast_ofNat_Int, Int.reduceLT, Int.reduceLE, Int.reduceToNat, Int.reduceAdd, Int.reduceNeg, Int.reduceEq, reduceCtorEq, wrap_i, wrap_u, false_or, true_and, and_true, or_true, cond_true, cond_false, or_false, true_or, nms_0, nms_s]
 exact fun w' hw => by first | (refine ⟨?_, hw.same rfl⟩; rw [firstBad_any]) | exact hw.same rfl
def okShapes (L : List ByteArray) : Bool := decide (1 ≤ L.length ∧ L.length ≤ 16) && !L.any badS
theorem okShapes_len {L : List ByteArray} (h : okShapes L = true) : 1 ≤ L.length ∧ L.length ≤ 16 := by
 simp only [okShapes, Bool.and_eq_true, decide_eq_true_eq] at h; exact h.1
theorem okShapes_any {L : List ByteArray} (h : 1 ≤ L.length ∧ L.length ≤ 16) : okShapes L = !L.any badS := by
 simp only [okShapes, decide_eq_true h, Bool.true_and]
theorem c_shapes (L : List ByteArray) (p : Option Addr) (n c : Nat) (w : World) (hs : Shp w p n L) : Gives Tryz.prog 95 [.slice p n c] w (.int .i64 (if okShapes L = true then 0 else 2)) := by
 have hl := hs.len
 refine zal 100 fu95 rfl _ w _ [] [] (.nil w) fun β hβ _ => ?_
 simp only [gx, ft, ↓zae, ↓zab, zak hβ, zaj hβ, Nat.reduceAdd, Nat.reduceSub, Nat.reduceMul, Nat.reduceLT, Nat.reduceLeDiff, Nat.reduceEqDiff, Int.cast_ofNat_Int, Int.reduceLT, Int.reduceLE, Int.reduceToNat, Int.reduceAdd, Int.reduceNeg, Int.reduceEq, reduceCtorEq, wrap_i, wrap_u, false_or, true_and, and_true, or_true, cond_true, cond_false, or_false, true_or]
 refine gd_i (fun h1 => ?_) fun h1 => gd_i (fun h2 => ?_) fun h2 => ?_
 ·exact fun w' hw => by first | (refine ⟨?_, hw.same rfl⟩; rw [if_neg fun h => by have := okShapes_len h; omega]) | exact hw.same rfl
 ·exact fun w' hw => by first | (refine ⟨?_, hw.same rfl⟩; rw [if_neg fun h => by have := okShapes_len h; omega]) | exact hw.same rfl
 ·refine zah hβ (fun w hw => c_contains L p n c w (hs.keep (hw.same rfl)) (by omega)) fun β hβ ha => ?_
  try simp only [ha, zaf, gx, ft, ↓zae, ↓zab, zak hβ, zaj hβ, Nat.reduceAdd, Nat.reduceSub, Nat.reduceMul, Nat.reduceLT, Nat.reduceLeDiff, Nat.reduceEqDiff, Int.cast_ofNat_Int, Int.reduceLT, Int.reduceLE, Int.reduceToNat, Int.reduceAdd, Int.reduceNeg, Int.reduceEq, reduceCtorEq, wrap_i, wrap_u, false_or, true_and, and_true, or_true, cond_true, cond_false, or_false, true_or, nms_0, nms_s]
  rw [okShapes_any (by omega)]
  refine gd_b (fun h3 => ?_) fun h3 => ?_
  ·exact fun w' hw => by first | (refine ⟨?_, hw.same rfl⟩; rw [h3]; rfl) | exact hw.same rfl
  ·exact fun w' hw => by first | (refine ⟨?_, hw.same rfl⟩; rw [h3]; rfl) | exact hw.same rfl
def okPlan (T S : Int) (L : List ByteArray) : Bool := decide (1 ≤ T ∧ T ≤ 8 ∧ 32 ≤ S ∧ S ≤ 4096) && okShapes L
theorem okPlan_b {T S : Int} {L : List ByteArray} (h : okPlan T S L = true) : 1 ≤ T ∧ T ≤ 8 ∧ 32 ≤ S ∧ S ≤ 4096 := by
 simp only [okPlan, Bool.and_eq_true, decide_eq_true_eq] at h; exact h.1
theorem okPlan_n {T S : Int} {L : List ByteArray} (h : ¬ (1 ≤ T ∧ T ≤ 8 ∧ 32 ≤ S ∧ S ≤ 4096)) : ¬ okPlan T S L = true := fun h' => h (okPlan_b h')
theorem okPlan_s {T S : Int} {L : List ByteArray} (h : 1 ≤ T ∧ T ≤ 8 ∧ 32 ≤ S ∧ S ≤ 4096) : okPlan T S L = okShapes L := by
 simp only [okPlan, decide_eq_true h, Bool.true_and]
theorem c_check (T S : Int) (L : List ByteArray) (p : Option Addr) (n c : Nat) (w : World) (hs : Shp w p n L) : Gives Tryz.prog 79 [.agg #[.int .i64 T, .int .i64 S, .slice p n c]] w (.int .i64 (if okPlan T S L = true then 0 else 2)) := by
 refine zal 100 fu79 rfl _ w _ [] [] (.nil w) fun β hβ _ => ?_
 simp only [gx, ft, ↓zae, ↓zab, zak hβ, zaj hβ, Nat.reduceAdd, Nat.reduceSub, Nat.reduceMul, Nat.reduceLT, Nat.reduceLeDiff, Nat.reduceEqDiff, Int.cast_ofNat_Int, Int.reduceLT, Int.reduceLE, Int.reduceToNat, Int.reduceAdd, Int.reduceNeg, Int.reduceEq, reduceCtorEq, wrap_i, wrap_u, false_or, true_and, and_true, or_true, cond_true, cond_false, or_false, true_or]
 refine zah hβ (fun w hw => c_within 1 8 T (β 1) w (hw.obj 1 _ rfl)) fun β hβ ha => ?_
 try simp only [ha, zaf, gx, ft, ↓zae, ↓zab, zak hβ, zaj hβ, Nat.reduceAdd, Nat.reduceSub, Nat.reduceMul, Nat.reduceLT, Nat.reduceLeDiff, Nat.reduceEqDiff, Int.cast_ofNat_Int, Int.reduceLT, Int.reduceLE, Int.reduceToNat, Int.reduceAdd, Int.reduceNeg, Int.reduceEq, reduceCtorEq, wrap_i, wrap_u, false_or, true_and, and_true, or_true, cond_true, cond_false, or_false, true_or, nms_0, nms_s]
 refine gd_n (fun h1 => ?_) fun h1 => ?_
 ·exact fun w' hw => by first | (refine ⟨?_, hw.same rfl⟩; rw [if_neg (okPlan_n fun h => h1 ⟨h.1, h.2.1⟩)]) | exact hw.same rfl
 ·refine zah hβ (fun w hw => c_within 32 4096 S (β 2) w (hw.obj 2 _ rfl)) fun β hβ ha => ?_
  try simp only [ha, zaf, gx, ft, ↓zae, ↓zab, zak hβ, zaj hβ, Nat.reduceAdd, Nat.reduceSub, Nat.reduceMul, Nat.reduceLT, Nat.reduceLeDiff, Nat.reduceEqDiff, Int.cast_ofNat_Int, Int.reduceLT, Int.reduceLE, Int.reduceToNat, Int.reduceAdd, Int.reduceNeg, Int.reduceEq, reduceCtorEq, wrap_i, wrap_u, false_or, true_and, and_true, or_true, cond_true, cond_false, or_false, true_or, nms_0, nms_s]
  refine gd_n (fun h2 => ?_) fun h2 => ?_
  ·exact fun w' hw => by first | (refine ⟨?_, hw.same rfl⟩; rw [if_neg (okPlan_n fun h => h2 h.2.2)]) | exact hw.same rfl
  ·refine zah hβ (fun w hw => c_shapes L p n c w (hs.keep (hw.same rfl))) fun β hβ ha => ?_
   rw [okPlan_s ⟨h1.1, h1.2, h2.1, h2.2⟩]
   exact fun w' hw => by first | exact hw.same rfl | exact ⟨rfl, hw.same rfl⟩ | exact ⟨ret_dec (by omega), hw.same rfl⟩ | exact ⟨ret_t (by omega), hw.same rfl⟩ | exact ⟨ret_f (by omega), hw.same rfl⟩ | exact ⟨ret_n (by omega), hw.same rfl⟩ | exact ⟨ret_i (by omega), hw.same rfl⟩
def ofE (T S : Int) (L : List ByteArray) (n many : Int) : Int := if okPlan T S L = true then (if 0 ≤ n ∧ n < many then 0 else 4) else 2
theorem c_lof (T S n many : Int) (L : List ByteArray) (p : Option Addr) (k c : Nat) (g : FuncId) (a b : List Value) (r : Int) (w : World) (hs : Shp w p k L) (hf : fnOk Tryz.prog g = true)
  (hg : okPlan T S L = true → 0 ≤ n → n < many → ∀ w', Below w.heap.size w w' → Gives Tryz.prog g (a ++ [.int .i64 n] ++ b) w' (.int .i64 r)) :
  Gives Tryz.prog 74 [.agg #[.int .i64 T, .int .i64 S, .slice p k c], .int .i64 n, .int .i64 many, .func (.func g) a.toArray b.toArray] w (.tuple #[.int .i64 (if ofE T S L n many = 0 then r else 0), .int .i64 (ofE T S L n many)]) := by
 refine zal 100 fu74 rfl _ w _ [] [] (.nil w) fun β hβ _ => ?_
 simp only [gx, ft, ↓zae, ↓zab, zak hβ, zaj hβ, Nat.reduceAdd, Nat.reduceSub, Nat.reduceMul, Nat.reduceLT, Nat.reduceLeDiff, Nat.reduceEqDiff, Int.cast_ofNat_Int, Int.reduceLT, Int.reduceLE, Int.reduceToNat, Int.reduceAdd, Int.reduceNeg, Int.reduceEq, reduceCtorEq, wrap_i, wrap_u, false_or, true_and, and_true, or_true, cond_true, cond_false, or_false, true_or]
 refine zah hβ (fun w hw => c_check T S L p k c w (hs.keep (hw.same rfl))) fun β hβ ha => ?_
 try simp only [ha, zaf, gx, ft, ↓zae, ↓zab, zak hβ, zaj hβ, Nat.reduceAdd, Nat.reduceSub, Nat.reduceMul, Nat.reduceLT, Nat.reduceLeDiff, Nat.reduceEqDiff, Int.cast_ofNat_Int, Int.reduceLT, Int.reduceLE, Int.reduceToNat, Int.reduceAdd, Int.reduceNeg, Int.reduceEq, reduceCtorEq, wrap_i, wrap_u, false_or, true_and, and_true, or_true, cond_true, cond_false, or_false, true_or, nms_0, nms_s]
 refine gd_n (fun h1 => ?_) fun h1 => ?_
 ·have h2 : ¬ okPlan T S L = true := fun h => h1 (by rw [if_pos h])
  exact fun w' hw => by first | (refine ⟨?_, hw.same rfl⟩; rw [ofE, if_neg h2]; rfl) | exact hw.same rfl
 ·have h2 : okPlan T S L = true := by
    cases h : okPlan T S L with
    | true => rfl
    | false => rw [h] at h1; simp at h1
  refine gd_i (fun h3 => ?_) fun h3 => gd_i (fun h4 => ?_) fun h4 => ?_
  ·exact fun w' hw => by first | (refine ⟨?_, hw.same rfl⟩; rw [show ofE T S L n many = 4 by rw [ofE, if_pos h2, if_neg (by omega)]]; rfl) | exact hw.same rfl
  ·exact fun w' hw => by first | (refine ⟨?_, hw.same rfl⟩; rw [show ofE T S L n many = 4 by rw [ofE, if_pos h2, if_neg (by omega)]]; rfl) | exact hw.same rfl
  ·simp only [ha, zaf, gx, ft, ↓zae, ↓zab, zak hβ, zaj hβ, Nat.reduceAdd, Nat.reduceSub, Nat.reduceMul, Nat.reduceLT, Nat.reduceLeDiff, Nat.reduceEqDiff, Int.cast_ofNat_Int, Int.reduceLT, Int.reduceLE, Int.reduceToNat, Int.reduceAdd, Int.reduceNeg, Int.reduceEq, reduceCtorEq, wrap_i, wrap_u, false_or, true_and, and_true, or_true, cond_true, cond_false, or_false, true_or, hf]
   refine zah hβ (fun w hw => hg h2 (by omega) (by omega) w (hw.same rfl)) fun β hβ ha => ?_
   try simp only [ha, zaf, gx, ft, ↓zae, ↓zab, zak hβ, zaj hβ, Nat.reduceAdd, Nat.reduceSub, Nat.reduceMul, Nat.reduceLT, Nat.reduceLeDiff, Nat.reduceEqDiff, Int.cast_ofNat_Int, Int.reduceLT, Int.reduceLE, Int.reduceToNat, Int.reduceAdd, Int.reduceNeg, Int.reduceEq, reduceCtorEq, wrap_i, wrap_u, false_or, true_and, and_true, or_true, cond_true, cond_false, or_false, true_or, nms_0, nms_s]
   exact fun w' hw => by first | (refine ⟨?_, hw.same rfl⟩; rw [show ofE T S L n many = 0 by rw [ofE, if_pos h2, if_pos (by omega)]]; rfl) | exact hw.same rfl
theorem c_base (T S n : Int) (x : Value) (hT : 1 ≤ T ∧ T ≤ 8) (hS : 32 ≤ S ∧ S ≤ 4096) (hn : 0 ≤ n ∧ n ≤ 2) (w : World) : Gives Tryz.prog 76 [.agg #[.int .i64 T, .int .i64 S, x], .int .i64 n] w (.int .i64 (3 + 2 * T + n * S)) := by
 refine zal 100 fu76 rfl _ w _ [] [] (.nil w) fun β hβ _ => ?_
 simp only [gx, ft, ↓zae, ↓zab, zak hβ, zaj hβ, Nat.reduceAdd, Nat.reduceSub, Nat.reduceMul, Nat.reduceLT, Nat.reduceLeDiff, Nat.reduceEqDiff, Int.cast_ofNat_Int, Int.reduceLT, Int.reduceLE, Int.reduceToNat, Int.reduceAdd, Int.reduceNeg, Int.reduceEq, reduceCtorEq, wrap_i, wrap_u, false_or, true_and, and_true, or_true, cond_true, cond_false, or_false, true_or]
 have h1 : 0 ≤ n * S ∧ n * S ≤ 8192 := by
  have : n = 0 ∨ n = 1 ∨ n = 2 := by omega
  rcases this with rfl | rfl | rfl <;> omega
 exact fun w' hw => by first | (refine ⟨?_, hw.same rfl⟩; rw [wrap_i (2 * T) (by omega), wrap_i (3 + 2 * T) (by omega), wrap_i (n * S) (by omega), wrap_i _ (by omega)]) | exact hw.same rfl
theorem c_plist (T S n : Int) (x : Value) (hT : 1 ≤ T ∧ T ≤ 8) (hn : 0 ≤ n ∧ n ≤ 8) (w : World) : Gives Tryz.prog 112 [.agg #[.int .i64 T, .int .i64 S, x], .int .i64 n] w (.int .i64 (3 + T + n)) := by
 refine zal 100 fu112 rfl _ w _ [] [] (.nil w) fun β hβ _ => ?_
 simp only [gx, ft, ↓zae, ↓zab, zak hβ, zaj hβ, Nat.reduceAdd, Nat.reduceSub, Nat.reduceMul, Nat.reduceLT, Nat.reduceLeDiff, Nat.reduceEqDiff, Int.cast_ofNat_Int, Int.reduceLT, Int.reduceLE, Int.reduceToNat, Int.reduceAdd, Int.reduceNeg, Int.reduceEq, reduceCtorEq, wrap_i, wrap_u, false_or, true_and, and_true, or_true, cond_true, cond_false, or_false, true_or]
 exact fun w' hw => by first | (refine ⟨?_, hw.same rfl⟩; rw [wrap_i (3 + T) (by omega), wrap_i _ (by omega)]) | exact hw.same rfl
theorem c_pack (T S n : Int) (x : Value) (hn : 0 ≤ n ∧ n ≤ 8) (w : World) : Gives Tryz.prog 75 [.agg #[.int .i64 T, .int .i64 S, x], .int .i64 n] w (.int .i64 (3 + n)) := by
 refine zal 100 fu75 rfl _ w _ [] [] (.nil w) fun β hβ _ => ?_
 simp only [gx, ft, ↓zae, ↓zab, zak hβ, zaj hβ, Nat.reduceAdd, Nat.reduceSub, Nat.reduceMul, Nat.reduceLT, Nat.reduceLeDiff, Nat.reduceEqDiff, Int.cast_ofNat_Int, Int.reduceLT, Int.reduceLE, Int.reduceToNat, Int.reduceAdd, Int.reduceNeg, Int.reduceEq, reduceCtorEq, wrap_i, wrap_u, false_or, true_and, and_true, or_true, cond_true, cond_false, or_false, true_or]
 exact fun w' hw => by first | (refine ⟨?_, hw.same rfl⟩; rw [wrap_i _ (by omega)]) | exact hw.same rfl
theorem c_size1 (T S n : Int) (x : Value) (b : Nat) (hT : 1 ≤ T ∧ T ≤ 8) (hS : 32 ≤ S ∧ S ≤ 4096) (w : World) (hb : w.heap[b]? = some (.cells #[.int .i64 T, .int .i64 S, x] 24)) :
  Gives Tryz.prog 130 [.int .i64 n, .pointer (some ⟨b, 0, none⟩)] w (.int .i64 (3 + 2 * T + 2 * S)) := by
 refine zal 100 fu130 rfl _ w _ [b] [.c 0 [.int .i64 T, .int .i64 S, x] 24] (.cons hb (by simp [HE.kind]) (by simp) (.nil w)) fun β hβ hbs => ?_
 obtain rfl : β 0 = b := hbs 0 _ rfl
 simp only [gx, ft, ↓zae, ↓zab, zak hβ, zaj hβ, Nat.reduceAdd, Nat.reduceSub, Nat.reduceMul, Nat.reduceLT, Nat.reduceLeDiff, Nat.reduceEqDiff, Int.cast_ofNat_Int, Int.reduceLT, Int.reduceLE, Int.reduceToNat, Int.reduceAdd, Int.reduceNeg, Int.reduceEq, reduceCtorEq, wrap_i, wrap_u, false_or, true_and, and_true, or_true, cond_true, cond_false, or_false, true_or]
 refine zah hβ (fun w hw => c_base T S 2 x hT hS (by omega) w) fun β hβ ha => ?_
 try simp only [ha, zaf, gx, ft, ↓zae, ↓zab, zak hβ, zaj hβ, Nat.reduceAdd, Nat.reduceSub, Nat.reduceMul, Nat.reduceLT, Nat.reduceLeDiff, Nat.reduceEqDiff, Int.cast_ofNat_Int, Int.reduceLT, Int.reduceLE, Int.reduceToNat, Int.reduceAdd, Int.reduceNeg, Int.reduceEq, reduceCtorEq, wrap_i, wrap_u, false_or, true_and, and_true, or_true, cond_true, cond_false, or_false, true_or, nms_0, nms_s]
 exact fun w' hw => by first | exact hw.same rfl | exact ⟨rfl, hw.same rfl⟩ | exact ⟨ret_dec (by omega), hw.same rfl⟩ | exact ⟨ret_t (by omega), hw.same rfl⟩ | exact ⟨ret_f (by omega), hw.same rfl⟩ | exact ⟨ret_n (by omega), hw.same rfl⟩ | exact ⟨ret_i (by omega), hw.same rfl⟩
theorem c_Size (T S : Int) (L : List ByteArray) (p : Option Addr) (k c : Nat) (w : World) (hs : Shp w p k L) : Gives Tryz.prog 111 [.agg #[.int .i64 T, .int .i64 S, .slice p k c]] w
  (.tuple #[.int .i64 (if okPlan T S L = true then 3 + 2 * T + 2 * S else 0), .int .i64 (if okPlan T S L = true then 0 else 2)]) := by
 refine zal 100 fu111 rfl _ w _ [] [] (.nil w) fun β hβ _ => ?_
 simp only [gx, ft, ↓zae, ↓zab, zak hβ, zaj hβ, Nat.reduceAdd, Nat.reduceSub, Nat.reduceMul, Nat.reduceLT, Nat.reduceLeDiff, Nat.reduceEqDiff, Int.cast_ofNat_Int, Int.reduceLT, Int.reduceLE, Int.reduceToNat, Int.reduceAdd, Int.reduceNeg, Int.reduceEq, reduceCtorEq, wrap_i, wrap_u, false_or, true_and, and_true, or_true, cond_true, cond_false, or_false, true_or]
 refine zah hβ (fun w hw => c_lof T S 0 1 L p k c 130 [] [.pointer (some ⟨β 0, 0, none⟩)] (3 + 2 * T + 2 * S) w (hs.keep (hw.same rfl)) (by kernel_rfl) fun ho _ _ w' hb => c_size1 T S 0 _ _ ⟨(okPlan_b ho).1, (okPlan_b ho).2.1⟩ (okPlan_b ho).2.2 w' ((hb.block _ (Array.getElem?_eq_some_iff.1 (hw.obj 0 _ rfl)).1).trans (hw.obj 0 _ rfl))) fun β hβ ha => ?_
 try simp only [ha, zaf, gx, ft, ↓zae, ↓zab, zak hβ, zaj hβ, Nat.reduceAdd, Nat.reduceSub, Nat.reduceMul, Nat.reduceLT, Nat.reduceLeDiff, Nat.reduceEqDiff, Int.cast_ofNat_Int, Int.reduceLT, Int.reduceLE, Int.reduceToNat, Int.reduceAdd, Int.reduceNeg, Int.reduceEq, reduceCtorEq, wrap_i, wrap_u, false_or, true_and, and_true, or_true, cond_true, cond_false, or_false, true_or, nms_0, nms_s]
 have h0 : ofE T S L 0 1 = if okPlan T S L = true then 0 else 2 := rfl
 exact fun w' hw => by first | (refine ⟨?_, hw.same rfl⟩; rw [h0]; cases okPlan T S L <;> rfl) | exact hw.same rfl
end Go.Proofs.YteglommbdpaokaaGreat
namespace Go.Proofs.YteglommbdpaokaaGreat
open Go.Gx Go.RowKit
set_option maxRecDepth 100000
def prt (k n a : Int) (e : Int) : Value := .tuple #[.agg #[.int .i64 k, .int .i64 n, .int .i64 a], .int .i64 e]
def partV (T S : Int) (L : List ByteArray) (at_ : Int) : Value :=
 if okPlan T S L = true then
  if 0 ≤ at_ ∧ at_ < 3 + 2 * T + 2 * S then
   if at_ < 3 then prt (1 + at_) 0 0 0 else if at_ < 3 + T then prt 4 (at_ - 3) 0 0 else if at_ < 3 + 2 * T then prt 5 (at_ - (3 + T)) 0 0 else
    prt 6 ((at_ - (3 + 2 * T)) / S) ((at_ - (3 + 2 * T)) % S) 0
  else prt 0 0 0 4
 else prt 0 0 0 2
theorem c_Part (T S a : Int) (L : List ByteArray) (p : Option Addr) (k c : Nat) (w : World) (hs : Shp w p k L) : Gives Tryz.prog 100 [.agg #[.int .i64 T, .int .i64 S, .slice p k c], .int .i64 a] w (partV T S L a) := by
 refine zal 100 fu100 rfl _ w _ [] [] (.nil w) fun β hβ _ => ?_
 simp only [gx, ft, ↓zae, ↓zab, zak hβ, zaj hβ, Nat.reduceAdd, Nat.reduceSub, Nat.reduceMul, Nat.reduceLT, Nat.reduceLeDiff, Nat.reduceEqDiff, Int.cast_ofNat_Int, Int.reduceLT, Int.reduceLE, Int.reduceToNat, Int.reduceAdd, Int.reduceNeg, Int.reduceEq, reduceCtorEq, wrap_i, wrap_u, false_or, true_and, and_true, or_true, cond_true, cond_false, or_false, true_or]
 refine zah hβ (fun w hw => c_Size T S L p k c w (hs.keep (hw.same rfl))) fun β hβ ha => ?_
 try simp only [ha, zaf, gx, ft, ↓zae, ↓zab, zak hβ, zaj hβ, Nat.reduceAdd, Nat.reduceSub, Nat.reduceMul, Nat.reduceLT, Nat.reduceLeDiff, Nat.reduceEqDiff, Int.cast_ofNat_Int, Int.reduceLT, Int.reduceLE, Int.reduceToNat, Int.reduceAdd, Int.reduceNeg, Int.reduceEq, reduceCtorEq, wrap_i, wrap_u, false_or, true_and, and_true, or_true, cond_true, cond_false, or_false, true_or, nms_0, nms_s]
 by_cases ho : okPlan T S L = true
 ·have hb := okPlan_b ho
  simp only [ha, zaf, gx, ft, ↓zae, ↓zab, zak hβ, zaj hβ, Nat.reduceAdd, Nat.reduceSub, Nat.reduceMul, Nat.reduceLT, Nat.reduceLeDiff, Nat.reduceEqDiff, Int.cast_ofNat_Int, Int.reduceLT, Int.reduceLE, Int.reduceToNat, Int.reduceAdd, Int.reduceNeg, Int.reduceEq, reduceCtorEq, wrap_i, wrap_u, false_or, true_and, and_true, or_true, cond_true, cond_false, or_false, true_or, ho, if_true]
  refine gd_i (fun h1 => ?_) fun h1 => gd_i (fun h2 => ?_) fun h2 => gd_i (fun h3 => ?_) fun h3 => ?_
  ·exact fun w' hw => by first | (refine ⟨?_, hw.same rfl⟩; rw [partV, if_pos ho, if_neg (by omega)]; rfl) | exact hw.same rfl
  ·exact fun w' hw => by first | (refine ⟨?_, hw.same rfl⟩; rw [partV, if_pos ho, if_neg (by omega)]; rfl) | exact hw.same rfl
  ·exact fun w' hw => by first | (refine ⟨?_, hw.same rfl⟩; rw [partV, if_pos ho, if_pos (by omega), if_pos h3, wrap_i _ (by omega)]; rfl) | exact hw.same rfl
  ·refine zah hβ (fun w hw => c_plist T S 0 _ ⟨hb.1, hb.2.1⟩ (by omega) w) fun β hβ ha => ?_
   try simp only [ha, zaf, gx, ft, ↓zae, ↓zab, zak hβ, zaj hβ, Nat.reduceAdd, Nat.reduceSub, Nat.reduceMul, Nat.reduceLT, Nat.reduceLeDiff, Nat.reduceEqDiff, Int.cast_ofNat_Int, Int.reduceLT, Int.reduceLE, Int.reduceToNat, Int.reduceAdd, Int.reduceNeg, Int.reduceEq, reduceCtorEq, wrap_i, wrap_u, false_or, true_and, and_true, or_true, cond_true, cond_false, or_false, true_or, nms_0, nms_s]
   refine gd_i (fun h4 => ?_) fun h4 => ?_
   ·refine zah hβ (fun w hw => c_pack T S 0 _ (by omega) w) fun β hβ ha => ?_
    try simp only [ha, zaf, gx, ft, ↓zae, ↓zab, zak hβ, zaj hβ, Nat.reduceAdd, Nat.reduceSub, Nat.reduceMul, Nat.reduceLT, Nat.reduceLeDiff, Nat.reduceEqDiff, Int.cast_ofNat_Int, Int.reduceLT, Int.reduceLE, Int.reduceToNat, Int.reduceAdd, Int.reduceNeg, Int.reduceEq, reduceCtorEq, wrap_i, wrap_u, false_or, true_and, and_true, or_true, cond_true, cond_false, or_false, true_or, nms_0, nms_s]
    exact fun w' hw => by first | (refine ⟨?_, hw.same rfl⟩; rw [partV, if_pos ho, if_pos (by omega), if_neg h3, if_pos (by omega), wrap_i _ (by omega)]; rfl) | exact hw.same rfl
   ·refine zah hβ (fun w hw => c_base T S 0 _ ⟨hb.1, hb.2.1⟩ hb.2.2 (by omega) w) fun β hβ ha => ?_
    try simp only [ha, zaf, gx, ft, ↓zae, ↓zab, zak hβ, zaj hβ, Nat.reduceAdd, Nat.reduceSub, Nat.reduceMul, Nat.reduceLT, Nat.reduceLeDiff, Nat.reduceEqDiff, Int.cast_ofNat_Int, Int.reduceLT, Int.reduceLE, Int.reduceToNat, Int.reduceAdd, Int.reduceNeg, Int.reduceEq, reduceCtorEq, wrap_i, wrap_u, false_or, true_and, and_true, or_true, cond_true, cond_false, or_false, true_or, nms_0, nms_s]
    refine gd_i (fun h5 => ?_) fun h5 => ?_
    ·refine zah hβ (fun w hw => c_plist T S 0 _ ⟨hb.1, hb.2.1⟩ (by omega) w) fun β hβ ha => ?_
     try simp only [ha, zaf, gx, ft, ↓zae, ↓zab, zak hβ, zaj hβ, Nat.reduceAdd, Nat.reduceSub, Nat.reduceMul, Nat.reduceLT, Nat.reduceLeDiff, Nat.reduceEqDiff, Int.cast_ofNat_Int, Int.reduceLT, Int.reduceLE, Int.reduceToNat, Int.reduceAdd, Int.reduceNeg, Int.reduceEq, reduceCtorEq, wrap_i, wrap_u, false_or, true_and, and_true, or_true, cond_true, cond_false, or_false, true_or, nms_0, nms_s]
     exact fun w' hw => by first | (refine ⟨?_, hw.same rfl⟩; rw [partV, if_pos ho, if_pos (by omega), if_neg h3, if_neg (by omega), if_pos (by omega), Int.add_zero, wrap_i _ (by omega)]; rfl) | exact hw.same rfl
    ·refine zah hβ (fun w hw => c_base T S 0 _ ⟨hb.1, hb.2.1⟩ hb.2.2 (by omega) w) fun β hβ ha => ?_
     try simp only [ha, zaf, gx, ft, ↓zae, ↓zab, zak hβ, zaj hβ, Nat.reduceAdd, Nat.reduceSub, Nat.reduceMul, Nat.reduceLT, Nat.reduceLeDiff, Nat.reduceEqDiff, Int.cast_ofNat_Int, Int.reduceLT, Int.reduceLE, Int.reduceToNat, Int.reduceAdd, Int.reduceNeg, Int.reduceEq, reduceCtorEq, wrap_i, wrap_u, false_or, true_and, and_true, or_true, cond_true, cond_false, or_false, true_or, nms_0, nms_s]
     rw [wrap_i _ (by omega)]
     refine draw_run fu100 mixed hβ 100 [9] (by decide +kernel) fun β hβ ha => ?_
     try simp only [ha, zaf, gx, ft, ↓zae, ↓zab, zak hβ, zaj hβ, Nat.reduceAdd, Nat.reduceSub, Nat.reduceMul, Nat.reduceLT, Nat.reduceLeDiff, Nat.reduceEqDiff, Int.cast_ofNat_Int, Int.reduceLT, Int.reduceLE, Int.reduceToNat, Int.reduceAdd, Int.reduceNeg, Int.reduceEq, reduceCtorEq, wrap_i, wrap_u, false_or, true_and, and_true, or_true, cond_true, cond_false, or_false, true_or, nms_0, nms_s]
     have hS : ¬ S = 0 := by omega
     have hq : 0 ≤ a - (3 + 2 * T + 0 * S) := by omega
     have h6 : (a - (3 + 2 * T + 0 * S)).tdiv S = (a - (3 + 2 * T)) / S := by rw [Int.tdiv_eq_ediv_of_nonneg hq, Int.zero_mul, Int.add_zero]
     have h7 : (a - (3 + 2 * T + 0 * S)).tmod S = (a - (3 + 2 * T)) % S := by rw [Int.tmod_eq_emod_of_nonneg hq, Int.zero_mul, Int.add_zero]
     have h8 : 0 ≤ (a - (3 + 2 * T)) / S := Int.ediv_nonneg (by omega) (by omega)
     have h9 : (a - (3 + 2 * T)) / S ≤ a - (3 + 2 * T) := Int.ediv_le_self _ (by omega)
     refine ⟨hS, hS, ?_⟩
     exact fun w' hw => by first | (refine ⟨?_, hw.same rfl⟩; rw [h6, h7, partV, if_pos ho, if_pos (by omega), if_neg h3, if_neg (by omega), if_neg (by omega), wrap_i _ (by omega)]; rfl) | exact hw.same rfl
 ·simp only [ha, zaf, gx, ft, ↓zae, ↓zab, zak hβ, zaj hβ, Nat.reduceAdd, Nat.reduceSub, Nat.reduceMul, Nat.reduceLT, Nat.reduceLeDiff, Nat.reduceEqDiff, Int.cast_ofNat_Int, Int.reduceLT, Int.reduceLE, Int.reduceToNat, Int.reduceAdd, Int.reduceNeg, Int.reduceEq, reduceCtorEq, wrap_i, wrap_u, false_or, true_and, and_true, or_true, cond_true, cond_false, or_false, true_or, ho, if_false, Bool.false_eq_true]
  exact fun w' hw => by first | (refine ⟨?_, hw.same rfl⟩; rw [partV, if_neg ho]; rfl) | exact hw.same rfl
def insideB (T S : Int) (L : List ByteArray) (a : Int) : Bool := okPlan T S L && decide (3 + 2 * T ≤ a ∧ a < 3 + 2 * T + 2 * S ∧ (a - (3 + 2 * T)) % S < S - 1)
theorem c_inside (T S a : Int) (L : List ByteArray) (p : Option Addr) (k c : Nat) (w : World) (hs : Shp w p k L) : Gives Tryz.prog 81 [.agg #[.int .i64 T, .int .i64 S, .slice p k c], .int .i64 a] w (.bool (insideB T S L a)) := by
 refine zal 100 fu81 rfl _ w _ [] [] (.nil w) fun β hβ _ => ?_
 simp only [gx, ft, ↓zae, ↓zab, zak hβ, zaj hβ, Nat.reduceAdd, Nat.reduceSub, Nat.reduceMul, Nat.reduceLT, Nat.reduceLeDiff, Nat.reduceEqDiff, Int.cast_ofNat_Int, Int.reduceLT, Int.reduceLE, Int.reduceToNat, Int.reduceAdd, Int.reduceNeg, Int.reduceEq, reduceCtorEq, wrap_i, wrap_u, false_or, true_and, and_true, or_true, cond_true, cond_false, or_false, true_or]
 refine zah hβ (fun w hw => c_Part T S a L p k c w (hs.keep (hw.same rfl))) fun β hβ ha => ?_
 unfold partV prt
 by_cases ho : okPlan T S L = true
 ·have hb := okPlan_b ho
  by_cases h1 : 0 ≤ a ∧ a < 3 + 2 * T + 2 * S
  ·by_cases h2 : a < 3
   ·rw [if_pos ho, if_pos h1, if_pos h2]
    try simp only [ha, zaf, gx, ft, ↓zae, ↓zab, zak hβ, zaj hβ, Nat.reduceAdd, Nat.reduceSub, Nat.reduceMul, Nat.reduceLT, Nat.reduceLeDiff, Nat.reduceEqDiff, Int.cast_ofNat_Int, Int.reduceLT, Int.reduceLE, Int.reduceToNat, Int.reduceAdd, Int.reduceNeg, Int.reduceEq, reduceCtorEq, wrap_i, wrap_u, false_or, true_and, and_true, or_true, cond_true, cond_false, or_false, true_or, nms_0, nms_s]
    refine gd_i (fun h => by omega) fun _ => ?_
    exact fun w' hw => by first | (refine ⟨?_, hw.same rfl⟩; rw [insideB, ho, Bool.true_and]; exact ret_f (by omega)) | exact hw.same rfl
   ·by_cases h3 : a < 3 + T
    ·rw [if_pos ho, if_pos h1, if_neg h2, if_pos h3]
     try simp only [ha, zaf, gx, ft, ↓zae, ↓zab, zak hβ, zaj hβ, Nat.reduceAdd, Nat.reduceSub, Nat.reduceMul, Nat.reduceLT, Nat.reduceLeDiff, Nat.reduceEqDiff, Int.cast_ofNat_Int, Int.reduceLT, Int.reduceLE, Int.reduceToNat, Int.reduceAdd, Int.reduceNeg, Int.reduceEq, reduceCtorEq, wrap_i, wrap_u, false_or, true_and, and_true, or_true, cond_true, cond_false, or_false, true_or, nms_0, nms_s]
     exact fun w' hw => by first | (refine ⟨?_, hw.same rfl⟩; rw [insideB, ho, Bool.true_and]; exact ret_f (by omega)) | exact hw.same rfl
    ·by_cases h4 : a < 3 + 2 * T
     ·rw [if_pos ho, if_pos h1, if_neg h2, if_neg h3, if_pos h4]
      try simp only [ha, zaf, gx, ft, ↓zae, ↓zab, zak hβ, zaj hβ, Nat.reduceAdd, Nat.reduceSub, Nat.reduceMul, Nat.reduceLT, Nat.reduceLeDiff, Nat.reduceEqDiff, Int.cast_ofNat_Int, Int.reduceLT, Int.reduceLE, Int.reduceToNat, Int.reduceAdd, Int.reduceNeg, Int.reduceEq, reduceCtorEq, wrap_i, wrap_u, false_or, true_and, and_true, or_true, cond_true, cond_false, or_false, true_or, nms_0, nms_s]
      exact fun w' hw => by first | (refine ⟨?_, hw.same rfl⟩; rw [insideB, ho, Bool.true_and]; exact ret_f (by omega)) | exact hw.same rfl
     ·rw [if_pos ho, if_pos h1, if_neg h2, if_neg h3, if_neg h4]
      try simp only [ha, zaf, gx, ft, ↓zae, ↓zab, zak hβ, zaj hβ, Nat.reduceAdd, Nat.reduceSub, Nat.reduceMul, Nat.reduceLT, Nat.reduceLeDiff, Nat.reduceEqDiff, Int.cast_ofNat_Int, Int.reduceLT, Int.reduceLE, Int.reduceToNat, Int.reduceAdd, Int.reduceNeg, Int.reduceEq, reduceCtorEq, wrap_i, wrap_u, false_or, true_and, and_true, or_true, cond_true, cond_false, or_false, true_or, nms_0, nms_s]
      rw [wrap_i _ (by omega)]
      exact fun w' hw => by first | (refine ⟨?_, hw.same rfl⟩; rw [insideB, ho, Bool.true_and]; exact ret_dec ⟨fun h => ⟨by omega, by omega, h⟩, fun h => h.2.2⟩) | exact hw.same rfl
  ·rw [if_pos ho, if_neg h1]
   try simp only [ha, zaf, gx, ft, ↓zae, ↓zab, zak hβ, zaj hβ, Nat.reduceAdd, Nat.reduceSub, Nat.reduceMul, Nat.reduceLT, Nat.reduceLeDiff, Nat.reduceEqDiff, Int.cast_ofNat_Int, Int.reduceLT, Int.reduceLE, Int.reduceToNat, Int.reduceAdd, Int.reduceNeg, Int.reduceEq, reduceCtorEq, wrap_i, wrap_u, false_or, true_and, and_true, or_true, cond_true, cond_false, or_false, true_or, nms_0, nms_s]
   exact fun w' hw => by first | (refine ⟨?_, hw.same rfl⟩; rw [insideB, ho, Bool.true_and]; exact ret_f (by omega)) | exact hw.same rfl
 ·rw [if_neg ho]
  try simp only [ha, zaf, gx, ft, ↓zae, ↓zab, zak hβ, zaj hβ, Nat.reduceAdd, Nat.reduceSub, Nat.reduceMul, Nat.reduceLT, Nat.reduceLeDiff, Nat.reduceEqDiff, Int.cast_ofNat_Int, Int.reduceLT, Int.reduceLE, Int.reduceToNat, Int.reduceAdd, Int.reduceNeg, Int.reduceEq, reduceCtorEq, wrap_i, wrap_u, false_or, true_and, and_true, or_true, cond_true, cond_false, or_false, true_or, nms_0, nms_s]
  exact fun w' hw => by first | (refine ⟨?_, hw.same rfl⟩; rw [insideB, Bool.eq_false_iff.2 ho]; rfl) | exact hw.same rfl
def fitB (T S : Int) (L : List ByteArray) (x : Int) : Bool := okPlan T S L && (decide (x = 0) || (decide (kindW x = 2) && !sealedW x && insideB T S L (x / 8)))
theorem c_Fit (T S x : Int) (hx : 0 ≤ x ∧ x ≤ 18446744073709551615) (L : List ByteArray) (p : Option Addr) (k c : Nat) (w : World) (hs : Shp w p k L) : Gives Tryz.prog 65 [.agg #[.int .i64 T, .int .i64 S, .slice p k c], .int .u64 x] w (.bool (fitB T S L x)) := by
 refine zal 100 fu65 rfl _ w _ [] [] (.nil w) fun β hβ _ => ?_
 simp only [gx, ft, ↓zae, ↓zab, zak hβ, zaj hβ, Nat.reduceAdd, Nat.reduceSub, Nat.reduceMul, Nat.reduceLT, Nat.reduceLeDiff, Nat.reduceEqDiff, Int.cast_ofNat_Int, Int.reduceLT, Int.reduceLE, Int.reduceToNat, Int.reduceAdd, Int.reduceNeg, Int.reduceEq, reduceCtorEq, wrap_i, wrap_u, false_or, true_and, and_true, or_true, cond_true, cond_false, or_false, true_or]
 refine zah hβ (fun w hw => c_check T S L p k c w (hs.keep (hw.same rfl))) fun β hβ ha => ?_
 by_cases ho : okPlan T S L = true
 ·rw [if_pos ho]
  try simp only [ha, zaf, gx, ft, ↓zae, ↓zab, zak hβ, zaj hβ, Nat.reduceAdd, Nat.reduceSub, Nat.reduceMul, Nat.reduceLT, Nat.reduceLeDiff, Nat.reduceEqDiff, Int.cast_ofNat_Int, Int.reduceLT, Int.reduceLE, Int.reduceToNat, Int.reduceAdd, Int.reduceNeg, Int.reduceEq, reduceCtorEq, wrap_i, wrap_u, false_or, true_and, and_true, or_true, cond_true, cond_false, or_false, true_or, nms_0, nms_s]
  refine zah hβ (fun w hw => c_Of x hx w) fun β hβ ha => ?_
  try simp only [ha, zaf, gx, ft, ↓zae, ↓zab, zak hβ, zaj hβ, Nat.reduceAdd, Nat.reduceSub, Nat.reduceMul, Nat.reduceLT, Nat.reduceLeDiff, Nat.reduceEqDiff, Int.cast_ofNat_Int, Int.reduceLT, Int.reduceLE, Int.reduceToNat, Int.reduceAdd, Int.reduceNeg, Int.reduceEq, reduceCtorEq, wrap_i, wrap_u, false_or, true_and, and_true, or_true, cond_true, cond_false, or_false, true_or, nms_0, nms_s]
  refine gd_i (fun h1 => ?_) fun h1 => ?_
  ·exact fun w' hw => by first | (refine ⟨?_, hw.same rfl⟩; rw [fitB, ho, decide_eq_true h1]; rfl) | exact hw.same rfl
  ·refine gd_i (fun h2 => ?_) fun h2 => ?_
   ·have hv : valW x (kindW x) = x / 8 := by rw [valW, if_pos h2]
    cases hse : sealedW x with
    | true =>
      simp only [ha, zaf, gx, ft, ↓zae, ↓zab, zak hβ, zaj hβ, Nat.reduceAdd, Nat.reduceSub, Nat.reduceMul, Nat.reduceLT, Nat.reduceLeDiff, Nat.reduceEqDiff, Int.cast_ofNat_Int, Int.reduceLT, Int.reduceLE, Int.reduceToNat, Int.reduceAdd, Int.reduceNeg, Int.reduceEq, reduceCtorEq, wrap_i, wrap_u, false_or, true_and, and_true, or_true, cond_true, cond_false, or_false, true_or, hse, Bool.not_true]
      exact fun w' hw => by first | (refine ⟨?_, hw.same rfl⟩; rw [fitB, ho, decide_eq_false h1, decide_eq_true h2, hse]; rfl) | exact hw.same rfl
    | false =>
      simp only [ha, zaf, gx, ft, ↓zae, ↓zab, zak hβ, zaj hβ, Nat.reduceAdd, Nat.reduceSub, Nat.reduceMul, Nat.reduceLT, Nat.reduceLeDiff, Nat.reduceEqDiff, Int.cast_ofNat_Int, Int.reduceLT, Int.reduceLE, Int.reduceToNat, Int.reduceAdd, Int.reduceNeg, Int.reduceEq, reduceCtorEq, wrap_i, wrap_u, false_or, true_and, and_true, or_true, cond_true, cond_false, or_false, true_or, hse, Bool.not_false, hv]
      refine zah hβ (fun w hw => c_inside T S (x / 8) L p k c w (hs.keep (hw.same rfl))) fun β hβ ha => ?_
      try simp only [ha, zaf, gx, ft, ↓zae, ↓zab, zak hβ, zaj hβ, Nat.reduceAdd, Nat.reduceSub, Nat.reduceMul, Nat.reduceLT, Nat.reduceLeDiff, Nat.reduceEqDiff, Int.cast_ofNat_Int, Int.reduceLT, Int.reduceLE, Int.reduceToNat, Int.reduceAdd, Int.reduceNeg, Int.reduceEq, reduceCtorEq, wrap_i, wrap_u, false_or, true_and, and_true, or_true, cond_true, cond_false, or_false, true_or, nms_0, nms_s]
      exact fun w' hw => by first | (refine ⟨?_, hw.same rfl⟩; rw [fitB, ho, decide_eq_false h1, decide_eq_true h2, hse]; rfl) | exact hw.same rfl
   ·try simp only [ha, zaf, gx, ft, ↓zae, ↓zab, zak hβ, zaj hβ, Nat.reduceAdd, Nat.reduceSub, Nat.reduceMul, Nat.reduceLT, Nat.reduceLeDiff, Nat.reduceEqDiff, Int.cast_ofNat_Int, Int.reduceLT, Int.reduceLE, Int.reduceToNat, Int.reduceAdd, Int.reduceNeg, Int.reduceEq, reduceCtorEq, wrap_i, wrap_u, false_or, true_and, and_true, or_true, cond_true, cond_false, or_false, true_or, nms_0, nms_s]
    exact fun w' hw => by first | (refine ⟨?_, hw.same rfl⟩; rw [fitB, ho, decide_eq_false h1, decide_eq_false h2]; rfl) | exact hw.same rfl
 ·rw [if_neg ho]
  try simp only [ha, zaf, gx, ft, ↓zae, ↓zab, zak hβ, zaj hβ, Nat.reduceAdd, Nat.reduceSub, Nat.reduceMul, Nat.reduceLT, Nat.reduceLeDiff, Nat.reduceEqDiff, Int.cast_ofNat_Int, Int.reduceLT, Int.reduceLE, Int.reduceToNat, Int.reduceAdd, Int.reduceNeg, Int.reduceEq, reduceCtorEq, wrap_i, wrap_u, false_or, true_and, and_true, or_true, cond_true, cond_false, or_false, true_or, nms_0, nms_s]
  exact fun w' hw => by first | (refine ⟨?_, hw.same rfl⟩; rw [fitB, Bool.eq_false_iff.2 ho]; rfl) | exact hw.same rfl
end Go.Proofs.YteglommbdpaokaaGreat
