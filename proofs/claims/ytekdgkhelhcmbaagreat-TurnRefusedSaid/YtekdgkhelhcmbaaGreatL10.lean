/- Contracts: the document's answers. -/
import Derived.Test.YtekdgkhelhcmbaaGreatL4
set_option linter.unusedSimpArgs false
set_option linter.unusedVariables false
/- The document's answers: plans, words. -/
namespace Go.Proofs.YtekdgkhelhcmbaaGreat
open Go.Gx Go.RowKit
set_option maxRecDepth 100000
set_option maxHeartbeats 2000000

theorem okLetter_n (b : UInt8) : okLetter b = true ↔ ((b.toNat : Int) = 112 ∨ (b.toNat : Int) = 115) := by
  simp only [okLetter, Bool.or_eq_true, beq_iff_eq]
  constructor
  · rintro (h | h) <;> subst h <;> decide
  · rintro (h | h)
    · exact .inl (UInt8.toNat_inj.1 (by show b.toNat = 112; omega))
    · exact .inr (UInt8.toNat_inj.1 (by show b.toNat = 115; omega))
def goodS (s : ByteArray) : Bool := !badS s
theorem c_one (s : ByteArray) (hs : s.size ≤ 1000) (w : World) : Gives Tryz.prog 39 [.string s] w (.bool (goodS s)) := by
  refine run_calls 100 fu39 rfl _ w _ [] [] (.nil w) fun β hβ _ => ?_
  simp only [gx, ft, ↓gd_true, ↓gd_false, lk_id hβ, ix_id hβ, Nat.reduceAdd, Nat.reduceSub, Nat.reduceMul, Nat.reduceLT, Nat.reduceLeDiff, Nat.reduceEqDiff, Int.cast_ofNat_Int, Int.reduceLT, Int.reduceLE, Int.reduceToNat, Int.reduceAdd, Int.reduceNeg, Int.reduceEq, reduceCtorEq, wrap_i, wrap_u, false_or, true_and, and_true, or_true, cond_true, cond_false, or_false, true_or]
  refine gd_i (fun h1 => ?_) fun h1 => ?_
  · exact fun w' hw => by first | (refine ⟨?_, hw.same rfl⟩; rw [goodS, badS, decide_eq_true (show 8 < s.size by omega), Bool.or_true]; rfl) | exact hw.same rfl
  revert β
  refine loop_setsR fu39 [3, 7, 8, 9, 10, 11, 12, 13, 14, 15, 16, 17, 18, 19, 20, 21, 22] 100
    (fun m _ u hp => ∃ i : Nat, i ≤ s.size ∧ m = s.size - i ∧ u 3 = .int .i64 i ∧ hp = [] ∧ ∀ j (h : j < s.size), j < i → okLetter s[j] = true) s.size (fun _ _ => ⟨0, by omega, rfl, rfl, rfl, fun _ _ h => by omega⟩) ?_
  rintro m ih β u hp hβ ⟨i, hi, rfl, hu, rfl, hall⟩ β' hβ ha
  simp only [ha, hold_eq, gx, ft, ↓gd_true, ↓gd_false, lk_id hβ, ix_id hβ, Nat.reduceAdd, Nat.reduceSub, Nat.reduceMul, Nat.reduceLT, Nat.reduceLeDiff, Nat.reduceEqDiff, Int.cast_ofNat_Int, Int.reduceLT, Int.reduceLE, Int.reduceToNat, Int.reduceAdd, Int.reduceNeg, Int.reduceEq, reduceCtorEq, wrap_i, wrap_u, false_or, true_and, and_true, or_true, cond_true, cond_false, or_false, true_or, sets, hu]
  refine gd_i (fun h2 => ?_) fun h2 => ?_
  · have hil : i < s.size := by omega
    have h3 : (i : Int).toNat = i := by omega
    have h4 : s.data.toList.getD i 0 = s[i] := by
      have : i < s.data.toList.length := by simpa using hil
      rw [List.getD_eq_getElem?_getD, List.getElem?_eq_getElem this]; rfl
    simp only [ha, hold_eq, gx, ft, ↓gd_true, ↓gd_false, lk_id hβ, ix_id hβ, Nat.reduceAdd, Nat.reduceSub, Nat.reduceMul, Nat.reduceLT, Nat.reduceLeDiff, Nat.reduceEqDiff, Int.cast_ofNat_Int, Int.reduceLT, Int.reduceLE, Int.reduceToNat, Int.reduceAdd, Int.reduceNeg, Int.reduceEq, reduceCtorEq, wrap_i, wrap_u, false_or, true_and, and_true, or_true, cond_true, cond_false, or_false, true_or, h3, h4]
    have hnext : okLetter s[i] = true → ∀ j (h : j < s.size), j < i + 1 → okLetter s[j] = true := fun ho j hj hlt => by
      rcases Nat.lt_or_ge j i with h | h
      · exact hall j hj h
      · obtain rfl : j = i := by omega
        exact ho
    refine ⟨by omega, gd_n (fun h5 => ⟨by omega, gd_n (fun h6 => ?_) fun h6 => ?_⟩) fun h5 => ?_⟩
    · exact fun w' hw => by first | (refine ⟨?_, hw.same rfl⟩; rw [goodS, bad_at s i hil (by rw [okLetter_n]; omega)]; rfl) | exact hw.same rfl
    · rw [wrap_i _ (by omega)]
      exact ih _ β' _ _ (by omega) hβ ⟨i + 1, by omega, rfl, by simp, rfl, hnext ((okLetter_n _).2 (.inr h6))⟩ rfl
    · rw [wrap_i _ (by omega)]
      exact ih _ β' _ _ (by omega) hβ ⟨i + 1, by omega, rfl, by simp, rfl, hnext ((okLetter_n _).2 (.inl h5))⟩ rfl
  · exact fun w' hw => by first | (refine ⟨?_, hw.same rfl⟩; rw [goodS, bad_none s (fun j hj => hall j hj (by omega)), decide_eq_false (show ¬ 8 < s.size by omega)]; rfl) | exact hw.same rfl

theorem c_right3 (L : List ByteArray) (p : Option Addr) (n c : Nat) (w : World) (hs : Shp w p n L) (hL : ∀ s ∈ L, s.size ≤ 1000) (hn : n ≤ 1000) : Gives Tryz.prog 19 [.slice p n c] w (.bool (okShapes L)) := by
  have hl := hs.len
  by_cases hn0 : n = 0
  · refine run_calls 100 fu19 rfl _ w _ [] [] (.nil w) fun β hβ _ => ?_
    simp only [gx, ft, ↓gd_true, ↓gd_false, lk_id hβ, ix_id hβ, Nat.reduceAdd, Nat.reduceSub, Nat.reduceMul, Nat.reduceLT, Nat.reduceLeDiff, Nat.reduceEqDiff, Int.cast_ofNat_Int, Int.reduceLT, Int.reduceLE, Int.reduceToNat, Int.reduceAdd, Int.reduceNeg, Int.reduceEq, reduceCtorEq, wrap_i, wrap_u, false_or, true_and, and_true, or_true, cond_true, cond_false, or_false, true_or, hn0]
    exact fun w' hw => by first | (refine ⟨?_, hw.same rfl⟩; rw [show okShapes L = false from Bool.eq_false_iff.2 fun h => by have := okShapes_len h; omega]) | exact hw.same rfl
  rcases hs.ats with h0 | ⟨b, off, cs, t, z, rfl, hb, hcs⟩
  · exact absurd h0 hn0
  refine run_calls 100 fu19 rfl _ w _ [b] [.r cs t z] (.cons hb (by simp [HE.kind]) (by simp) (.nil w)) fun β hβ hbs => ?_
  obtain rfl : β 0 = b := hbs 0 _ rfl
  clear hb hs
  simp only [gx, ft, ↓gd_true, ↓gd_false, lk_id hβ, ix_id hβ, Nat.reduceAdd, Nat.reduceSub, Nat.reduceMul, Nat.reduceLT, Nat.reduceLeDiff, Nat.reduceEqDiff, Int.cast_ofNat_Int, Int.reduceLT, Int.reduceLE, Int.reduceToNat, Int.reduceAdd, Int.reduceNeg, Int.reduceEq, reduceCtorEq, wrap_i, wrap_u, false_or, true_and, and_true, or_true, cond_true, cond_false, or_false, true_or]
  refine gd_i (fun h1 => ?_) fun h1 => gd_i (fun h2 => ?_) fun h2 => ?_
  · exact fun w' hw => by first | (refine ⟨?_, hw.same rfl⟩; rw [show okShapes L = false from Bool.eq_false_iff.2 fun h => by have := okShapes_len h; omega]) | exact hw.same rfl
  · exact fun w' hw => by first | (refine ⟨?_, hw.same rfl⟩; rw [show okShapes L = false from Bool.eq_false_iff.2 fun h => by have := okShapes_len h; omega]) | exact hw.same rfl
  revert β
  refine loop_setsR fu19 [3, 12, 13, 14, 15, 16, 17, 18, 19, 20, 21, 22, 23] 100
    (fun m _ u hp => ∃ i : Nat, i ≤ n ∧ m = n - i ∧ u 3 = .int .i64 i ∧ hp = [.r cs t z] ∧ ∀ j (h : j < L.length), j < i → badS L[j] = false) n (fun _ _ => ⟨0, by omega, rfl, rfl, rfl, fun _ _ h => by omega⟩) ?_
  rintro m ih β u hp hβ ⟨i, hi, rfl, hu, rfl, hall⟩ β' hβ ha
  simp only [ha, hold_eq, gx, ft, ↓gd_true, ↓gd_false, lk_id hβ, ix_id hβ, Nat.reduceAdd, Nat.reduceSub, Nat.reduceMul, Nat.reduceLT, Nat.reduceLeDiff, Nat.reduceEqDiff, Int.cast_ofNat_Int, Int.reduceLT, Int.reduceLE, Int.reduceToNat, Int.reduceAdd, Int.reduceNeg, Int.reduceEq, reduceCtorEq, wrap_i, wrap_u, false_or, true_and, and_true, or_true, cond_true, cond_false, or_false, true_or, sets, hu]
  refine gd_i (fun h3 => ?_) fun h3 => ?_
  · have hil : i < L.length := by omega
    have h4 : (i : Int).toNat = i := by omega
    have h5 := hcs i hil
    simp only [ha, hold_eq, gx, ft, ↓gd_true, ↓gd_false, lk_id hβ, ix_id hβ, Nat.reduceAdd, Nat.reduceSub, Nat.reduceMul, Nat.reduceLT, Nat.reduceLeDiff, Nat.reduceEqDiff, Int.cast_ofNat_Int, Int.reduceLT, Int.reduceLE, Int.reduceToNat, Int.reduceAdd, Int.reduceNeg, Int.reduceEq, reduceCtorEq, wrap_i, wrap_u, false_or, true_and, and_true, or_true, cond_true, cond_false, or_false, true_or, h4, h5]
    refine ⟨by omega, ?_⟩
    refine call_gives hβ (fun w hw => c_one L[i] (hL _ (List.getElem_mem hil)) w) fun β hβ ha => ?_
    try simp only [ha, hold_eq, gx, ft, ↓gd_true, ↓gd_false, lk_id hβ, ix_id hβ, Nat.reduceAdd, Nat.reduceSub, Nat.reduceMul, Nat.reduceLT, Nat.reduceLeDiff, Nat.reduceEqDiff, Int.cast_ofNat_Int, Int.reduceLT, Int.reduceLE, Int.reduceToNat, Int.reduceAdd, Int.reduceNeg, Int.reduceEq, reduceCtorEq, wrap_i, wrap_u, false_or, true_and, and_true, or_true, cond_true, cond_false, or_false, true_or, nms_0, nms_s]
    cases h6 : badS L[i] with
    | true =>
      simp only [goodS, h6, Bool.not_true, Bool.not_false, ha, hold_eq, gx, ft, ↓gd_true, ↓gd_false, lk_id hβ, ix_id hβ, Nat.reduceAdd, Nat.reduceSub, Nat.reduceMul, Nat.reduceLT, Nat.reduceLeDiff, Nat.reduceEqDiff, Int.cast_ofNat_Int, Int.reduceLT, Int.reduceLE, Int.reduceToNat, Int.reduceAdd, Int.reduceNeg, Int.reduceEq, reduceCtorEq, wrap_i, wrap_u, false_or, true_and, and_true, or_true, cond_true, cond_false, or_false, true_or]
      exact fun w' hw => by first | (refine ⟨?_, hw.same rfl⟩; rw [okShapes_any (by omega), List.any_eq_true.2 ⟨_, List.getElem_mem hil, h6⟩]; rfl) | exact hw.same rfl
    | false =>
      simp only [goodS, h6, Bool.not_true, Bool.not_false, ha, hold_eq, gx, ft, ↓gd_true, ↓gd_false, lk_id hβ, ix_id hβ, Nat.reduceAdd, Nat.reduceSub, Nat.reduceMul, Nat.reduceLT, Nat.reduceLeDiff, Nat.reduceEqDiff, Int.cast_ofNat_Int, Int.reduceLT, Int.reduceLE, Int.reduceToNat, Int.reduceAdd, Int.reduceNeg, Int.reduceEq, reduceCtorEq, wrap_i, wrap_u, false_or, true_and, and_true, or_true, cond_true, cond_false, or_false, true_or]
      rw [wrap_i _ (by omega)]
      refine ih _ β _ _ (by omega) hβ ⟨i + 1, by omega, rfl, by simp, rfl, fun j hj hlt => ?_⟩ rfl
      rcases Nat.lt_or_ge j i with h | h
      · exact hall j hj h
      · obtain rfl : j = i := by omega
        exact h6
  · have hany : L.any badS = false := by
      rw [List.any_eq_false]
      intro x hx
      obtain ⟨j, hj, rfl⟩ := List.getElem_of_mem hx
      rw [hall j hj (by omega)]; exact Bool.false_ne_true
    exact fun w' hw => by first | (refine ⟨?_, hw.same rfl⟩; rw [okShapes_any (by omega), hany]; rfl) | exact hw.same rfl
end Go.Proofs.YtekdgkhelhcmbaaGreat

/- The document's answers: layouts and words. -/
namespace Go.Proofs.YtekdgkhelhcmbaaGreat
open Go.Gx Go.RowKit
set_option maxRecDepth 100000
set_option maxHeartbeats 2000000

theorem c_rbase (T S n : Int) (x : Value) (hT : 1 ≤ T ∧ T ≤ 8) (hS : 32 ≤ S ∧ S ≤ 4096) (hn : 0 ≤ n ∧ n ≤ 2) (p : Option Addr) (k c : Nat) (w : World) : Gives Tryz.prog 33 [.agg #[.int .i64 T, .int .i64 S, .slice p k c], .int .i64 n] w (.int .i64 (3 + 2 * T + n * S)) := by
  refine run_calls 100 fu33 rfl _ w _ [] [] (.nil w) fun β hβ _ => ?_
  simp only [gx, ft, ↓gd_true, ↓gd_false, lk_id hβ, ix_id hβ, Nat.reduceAdd, Nat.reduceSub, Nat.reduceMul, Nat.reduceLT, Nat.reduceLeDiff, Nat.reduceEqDiff, Int.cast_ofNat_Int, Int.reduceLT, Int.reduceLE, Int.reduceToNat, Int.reduceAdd, Int.reduceNeg, Int.reduceEq, reduceCtorEq, wrap_i, wrap_u, false_or, true_and, and_true, or_true, cond_true, cond_false, or_false, true_or]
  have h1 : 0 ≤ n * S ∧ n * S ≤ 8192 := by
    have : n = 0 ∨ n = 1 ∨ n = 2 := by omega
    rcases this with rfl | rfl | rfl <;> omega
  exact fun w' hw => by first | (refine ⟨?_, hw.same rfl⟩; rw [wrap_i (2 * T) (by omega), wrap_i (3 + 2 * T) (by omega), wrap_i (n * S) (by omega), wrap_i _ (by omega)]) | exact hw.same rfl
theorem c_rsize (T S : Int) (hT : 1 ≤ T ∧ T ≤ 8) (hS : 32 ≤ S ∧ S ≤ 4096) (p : Option Addr) (k c : Nat) (w : World) : Gives Tryz.prog 30 [.agg #[.int .i64 T, .int .i64 S, .slice p k c]] w (.int .i64 (3 + 2 * T + 2 * S)) := by
  refine run_calls 100 fu30 rfl _ w _ [] [] (.nil w) fun β hβ _ => ?_
  simp only [gx, ft, ↓gd_true, ↓gd_false, lk_id hβ, ix_id hβ, Nat.reduceAdd, Nat.reduceSub, Nat.reduceMul, Nat.reduceLT, Nat.reduceLeDiff, Nat.reduceEqDiff, Int.cast_ofNat_Int, Int.reduceLT, Int.reduceLE, Int.reduceToNat, Int.reduceAdd, Int.reduceNeg, Int.reduceEq, reduceCtorEq, wrap_i, wrap_u, false_or, true_and, and_true, or_true, cond_true, cond_false, or_false, true_or]
  exact fun w' hw => by first | (refine ⟨?_, hw.same rfl⟩; rw [wrap_i (2 * T) (by omega), wrap_i (3 + 2 * T) (by omega), wrap_i (2 * S) (by omega), wrap_i _ (by omega)]) | exact hw.same rfl
/-- The space of an address. -/
def spaceI (T S a : Int) : Int := if a < 3 + 2 * T ∨ 3 + 2 * T + 2 * S ≤ a then -1 else (a - (3 + 2 * T)) / S
end Go.Proofs.YtekdgkhelhcmbaaGreat

/- The document's answers: words, what is fit. -/
namespace Go.Proofs.YtekdgkhelhcmbaaGreat
open Go.Gx Go.RowKit
set_option maxRecDepth 100000
set_option maxHeartbeats 2000000

end Go.Proofs.YtekdgkhelhcmbaaGreat

/- The laws' small functions. -/
namespace Go.Proofs.YtekdgkhelhcmbaaGreat
open Go.Gx Go.RowKit
set_option maxRecDepth 100000
set_option maxHeartbeats 2000000

/-- A take, as the document has it. -/
def refT (T S : Int) (p : Option Addr) (k c : Nat) (t place was err at_ : Int) : Value :=
  .agg #[.int .i64 T, .int .i64 S, .slice p k c, .int .i64 t, .int .i64 place, .int .u64 was, .int .i64 err, .int .i64 at_]
/-- Few shapes, and short ones. -/
def fewB (L : List ByteArray) : Bool := decide (L.length ≤ 20) && L.all fun s => decide (s.size ≤ 20)
theorem c_few (T S : Int) (L : List ByteArray) (p : Option Addr) (n c : Nat) (w : World) (hs : Shp w p n L) : Gives Tryz.prog 5 [.agg #[.int .i64 T, .int .i64 S, .slice p n c]] w (.bool (fewB L)) := by
  have hl := hs.len
  rcases hs.ats with rfl | ⟨b, off, cs, t, z, rfl, hb, hcs⟩
  · obtain rfl := List.length_eq_zero_iff.1 hl
    refine run_calls 100 fu5 rfl _ w _ [] [] (.nil w) fun β hβ _ => ?_
    simp only [gx, ft, ↓gd_true, ↓gd_false, lk_id hβ, ix_id hβ, Nat.reduceAdd, Nat.reduceSub, Nat.reduceMul, Nat.reduceLT, Nat.reduceLeDiff, Nat.reduceEqDiff, Int.cast_ofNat_Int, Int.reduceLT, Int.reduceLE, Int.reduceToNat, Int.reduceAdd, Int.reduceNeg, Int.reduceEq, reduceCtorEq, wrap_i, wrap_u, false_or, true_and, and_true, or_true, cond_true, cond_false, or_false, true_or]
    refine loop_run fu5 hβ 100 fun β hβ ha => ?_
    try simp only [ha, hold_eq, gx, ft, ↓gd_true, ↓gd_false, lk_id hβ, ix_id hβ, Nat.reduceAdd, Nat.reduceSub, Nat.reduceMul, Nat.reduceLT, Nat.reduceLeDiff, Nat.reduceEqDiff, Int.cast_ofNat_Int, Int.reduceLT, Int.reduceLE, Int.reduceToNat, Int.reduceAdd, Int.reduceNeg, Int.reduceEq, reduceCtorEq, wrap_i, wrap_u, false_or, true_and, and_true, or_true, cond_true, cond_false, or_false, true_or, nms_0, nms_s]
    exact fun w' hw => by first | (refine ⟨?_, hw.same rfl⟩; rfl) | exact hw.same rfl
  refine run_calls 100 fu5 rfl _ w _ [b] [.r cs t z] (.cons hb (by simp [HE.kind]) (by simp) (.nil w)) fun β hβ hbs => ?_
  obtain rfl : β 0 = b := hbs 0 _ rfl
  clear hb hs
  simp only [gx, ft, ↓gd_true, ↓gd_false, lk_id hβ, ix_id hβ, Nat.reduceAdd, Nat.reduceSub, Nat.reduceMul, Nat.reduceLT, Nat.reduceLeDiff, Nat.reduceEqDiff, Int.cast_ofNat_Int, Int.reduceLT, Int.reduceLE, Int.reduceToNat, Int.reduceAdd, Int.reduceNeg, Int.reduceEq, reduceCtorEq, wrap_i, wrap_u, false_or, true_and, and_true, or_true, cond_true, cond_false, or_false, true_or]
  refine gd_i (fun h1 => ?_) fun h1 => ?_
  · exact fun w' hw => by first | (refine ⟨?_, hw.same rfl⟩; rw [fewB, decide_eq_false (show ¬ L.length ≤ 20 by omega)]; rfl) | exact hw.same rfl
  revert β
  refine loop_setsR fu5 [3, 8, 9, 10, 11, 12, 13, 14, 15, 16, 17, 18, 19, 20, 21] 100
    (fun m β u hp => ∃ i : Nat, i ≤ n ∧ m = n - i ∧ u 3 = .int .i64 i ∧ hp = [.r cs t z, .c 2 [.int .i64 T, .int .i64 S, .slice (some ⟨β 0, off, none⟩) n c] 24] ∧ ∀ j (h : j < L.length), j < i → L[j].size ≤ 20) n (fun _ _ => ⟨0, by omega, rfl, rfl, rfl, fun _ _ h => by omega⟩) ?_
  rintro m ih β u hp hβ ⟨i, hi, rfl, hu, rfl, hall⟩ β' hβ ha
  simp only [ha, hold_eq, gx, ft, ↓gd_true, ↓gd_false, lk_id hβ, ix_id hβ, Nat.reduceAdd, Nat.reduceSub, Nat.reduceMul, Nat.reduceLT, Nat.reduceLeDiff, Nat.reduceEqDiff, Int.cast_ofNat_Int, Int.reduceLT, Int.reduceLE, Int.reduceToNat, Int.reduceAdd, Int.reduceNeg, Int.reduceEq, reduceCtorEq, wrap_i, wrap_u, false_or, true_and, and_true, or_true, cond_true, cond_false, or_false, true_or, sets, hu]
  refine gd_i (fun h3 => ?_) fun h3 => ?_
  · have hil : i < L.length := by omega
    have h4 : (i : Int).toNat = i := by omega
    have h5 := hcs i hil
    simp only [ha, hold_eq, gx, ft, ↓gd_true, ↓gd_false, lk_id hβ, ix_id hβ, Nat.reduceAdd, Nat.reduceSub, Nat.reduceMul, Nat.reduceLT, Nat.reduceLeDiff, Nat.reduceEqDiff, Int.cast_ofNat_Int, Int.reduceLT, Int.reduceLE, Int.reduceToNat, Int.reduceAdd, Int.reduceNeg, Int.reduceEq, reduceCtorEq, wrap_i, wrap_u, false_or, true_and, and_true, or_true, cond_true, cond_false, or_false, true_or, h4, h5]
    refine ⟨by omega, gd_i (fun h6 => ?_) fun h6 => ?_⟩
    · have hany : (L.all fun s => decide (s.size ≤ 20)) = false := by
        rw [Bool.eq_false_iff]
        exact fun h => by have := List.all_eq_true.1 h _ (List.getElem_mem hil); simp at this; omega
      exact fun w' hw => by first | (refine ⟨?_, hw.same rfl⟩; rw [fewB, hany, Bool.and_false]) | exact hw.same rfl
    · rw [wrap_i _ (by omega)]
      refine ih _ β' _ _ (by omega) hβ ⟨i + 1, by omega, rfl, by simp, rfl, fun j hj hlt => ?_⟩ rfl
      rcases Nat.lt_or_ge j i with h | h
      · exact hall j hj h
      · obtain rfl : j = i := by omega
        omega
  · have hany : (L.all fun s => decide (s.size ≤ 20)) = true := by
      rw [List.all_eq_true]
      intro x hx
      obtain ⟨j, hj, rfl⟩ := List.getElem_of_mem hx
      exact decide_eq_true (hall j hj (by omega))
    exact fun w' hw => by first | (refine ⟨?_, hw.same rfl⟩; rw [fewB, hany, decide_eq_true (show L.length ≤ 20 by omega)]; rfl) | exact hw.same rfl
end Go.Proofs.YtekdgkhelhcmbaaGreat

