/- Contracts: where two lists of words are unlike, of which one is the other but at one place. -/
import Derived.Test.YtflipopanpdcnadGreatA1
import Derived.Test.YtflipopanpdcnadGreatGxO
set_option linter.unusedSimpArgs false
set_option linter.unusedVariables false
namespace Go.Proofs.YtflipopanpdcnadGreat
open Go.Gx Go.RowKit
set_option maxRecDepth 100000
set_option maxHeartbeats 2000000
theorem cell_int : Cell1 Tryz.prog 51 3 (((Tryz.prog).info? 3).getD default) (.int .i64 0) := by
 refine ⟨by kernel_rfl, by kernel_rfl, by kernel_rfl, by kernel_rfl, by decide +kernel, by rfl⟩
def UnlikeR (f g : Nat → Int) (n q : Nat) (w : World) (o : Ending) (w' : World) : Prop :=
 Below w.heap.size w w' ∧ ((¬ (q < n ∧ f q ≠ g q) ∧ o = .returned (.slice none 0 0)) ∨
  ((q < n ∧ f q ≠ g q) ∧ ∃ b cap cur, w.heap.size ≤ b ∧ o = .returned (.slice (some ⟨b, 0, none⟩) 1 cap) ∧ w'.heap[b]? = some (.cells (List.toArray cur) 3 (0, 0)) ∧ cur.length = cap ∧ 1 ≤ cap ∧ cap ≤ maxLen ∧ cur.take 1 = [.int .i64 q]))
theorem c_unlike (cs1 cs2 : List Value) (f g : Nat → Int) (n q k1 k2 b1 b2 : Nat) (t1 t2 : TypeId) (z1 z2 : Nat × Nat) (w : World) (h1 : w.heap[b1]? = some (.cells cs1.toArray t1 z1)) (h2 : w.heap[b2]? = some (.cells cs2.toArray t2 z2)) (hne : b1 ≠ b2) (hn : n < 9223372036854775808)
  (hf : NumAt cs1 f n) (hg : NumAt cs2 g n) (hd : ∀ i, i < n → i ≠ q → f i = g i) : Calls Tryz.prog 25 [.slice (some ⟨b1, 0, none⟩) n k1, .slice (some ⟨b2, 0, none⟩) n k2].toArray w (UnlikeR f g n q w) := by
 refine zai 100 fu25 rfl _ w _ [b1, b2] [.r cs1 t1 z1, .r cs2 t2 z2] (.cons h1 (by simp [HE.kind]) (by simp [hne]) (.cons h2 (by simp [HE.kind]) (by simp) (.nil w))) fun β hβ hbs => ?_
 obtain rfl : β 0 = b1 := hbs 0 _ rfl
 obtain rfl : β 1 = b2 := hbs 1 _ rfl
 clear h1 h2 hne
 simp only [gx, ft, ↓zac, ↓zab, zak hβ, zaj hβ, Nat.reduceAdd, Nat.reduceSub, Nat.reduceMul, Nat.reduceLT, Nat.reduceLeDiff, Nat.reduceEqDiff, Int.cast_ofNat_Int, Int.reduceLT, Int.reduceLE, Int.reduceToNat, Int.reduceAdd, Int.reduceNeg, Int.reduceEq, reduceCtorEq, wrap_i, wrap_u, false_or, true_and, and_true, or_true, cond_true, cond_false, or_false, true_or]
 revert β
 refine loop_setsR fu25 [5, 6, 7, 10, 11, 12, 13, 14, 15, 16, 17, 18, 19, 20, 21, 22, 23, 24, 25] 100
  (fun m β u hp => ∃ i : Nat, i ≤ n ∧ m = n - i ∧ u 10 = .int .i64 i ∧
   ((¬ (q < i ∧ f q ≠ g q) ∧ u 5 = .slice none 0 0 ∧ hp = [.r cs1 t1 z1, .r cs2 t2 z2]) ∨
    ((q < i ∧ f q ≠ g q) ∧ ∃ cap cur, u 5 = .slice (some ⟨β 3, 0, none⟩) 1 cap ∧ List.length cur = cap ∧ 1 ≤ cap ∧ cap ≤ maxLen ∧ cur.take 1 = [.int .i64 q] ∧ hp = [.r cs1 t1 z1, .r cs2 t2 z2, .c 2 [.int .i64 q] 3, .c 2 cur 3])))
  n (fun _ _ => ⟨0, by omega, rfl, rfl, .inl ⟨by omega, rfl, rfl⟩⟩) ?_
 rintro m ih β u hp hβ ⟨i, hi, rfl, hu, ⟨h0, hu5, rfl⟩ | ⟨h0, cap, cur, hu5, hl1, hl2, hl3, hl4, rfl⟩⟩ β' hβ ha
 ·simp only [ha, zaf, gx, ft, ↓zac, ↓zab, zak hβ, zaj hβ, Nat.reduceAdd, Nat.reduceSub, Nat.reduceMul, Nat.reduceLT, Nat.reduceLeDiff, Nat.reduceEqDiff, Int.cast_ofNat_Int, Int.reduceLT, Int.reduceLE, Int.reduceToNat, Int.reduceAdd, Int.reduceNeg, Int.reduceEq, reduceCtorEq, wrap_i, wrap_u, false_or, true_and, and_true, or_true, cond_true, cond_false, or_false, true_or, sets, hu, hu5]
  refine gd_i (fun h3 => ?_) fun h3 => ?_
  ·have hil : i < n := by omega
   have h4 : (i : Int).toNat = i := by omega
   have h5 := hf i hil
   have h6 := hg i hil
   simp only [ha, zaf, gx, ft, ↓zac, ↓zab, zak hβ, zaj hβ, Nat.reduceAdd, Nat.reduceSub, Nat.reduceMul, Nat.reduceLT, Nat.reduceLeDiff, Nat.reduceEqDiff, Int.cast_ofNat_Int, Int.reduceLT, Int.reduceLE, Int.reduceToNat, Int.reduceAdd, Int.reduceNeg, Int.reduceEq, reduceCtorEq, wrap_i, wrap_u, false_or, true_and, and_true, or_true, cond_true, cond_false, or_false, true_or, h4, h5, h6]
   refine ⟨⟨by omega, by omega⟩, ⟨by omega, by omega⟩, gd_n (fun h7 => ?_) fun h7 => ?_⟩
   ·have hq : i = q := Classical.byContradiction fun hq => h7 (hd i hil hq)
    subst hq
    try simp only [ha, zaf, gx, ft, ↓zac, ↓zab, zak hβ, zaj hβ, Nat.reduceAdd, Nat.reduceSub, Nat.reduceMul, Nat.reduceLT, Nat.reduceLeDiff, Nat.reduceEqDiff, Int.cast_ofNat_Int, Int.reduceLT, Int.reduceLE, Int.reduceToNat, Int.reduceAdd, Int.reduceNeg, Int.reduceEq, reduceCtorEq, wrap_i, wrap_u, false_or, true_and, and_true, or_true, cond_true, cond_false, or_false, true_or, nms_0, nms_s]
    refine opX_appendNil hβ rfl cell_int rfl rfl rfl rfl (by simp [Value.oneCell']) (by omega) fun cap cur hc1 hc2 hc3 hc4 β hβ ha => ?_
    try simp only [ha, zaf, gx, ft, ↓zac, ↓zab, zak hβ, zaj hβ, Nat.reduceAdd, Nat.reduceSub, Nat.reduceMul, Nat.reduceLT, Nat.reduceLeDiff, Nat.reduceEqDiff, Int.cast_ofNat_Int, Int.reduceLT, Int.reduceLE, Int.reduceToNat, Int.reduceAdd, Int.reduceNeg, Int.reduceEq, reduceCtorEq, wrap_i, wrap_u, false_or, true_and, and_true, or_true, cond_true, cond_false, or_false, true_or, nms_0, nms_s]
    rw [wrap_i _ (by omega)]
    refine ih _ β _ _ (by omega) hβ ⟨i + 1, by omega, rfl, by simp, .inr ⟨⟨by omega, h7⟩, cap, cur, rfl, hc3, hc1, hc2, hc4, rfl⟩⟩ (by simp [sets])
   ·rw [wrap_i _ (by omega)]
    refine ih _ β' _ _ (by omega) hβ ⟨i + 1, by omega, rfl, by simp, .inl ⟨fun h => ?_, by simp [hu5], rfl⟩⟩ (by simp [sets])
    rcases Nat.lt_or_ge q i with hq | hq
    ·exact h0 ⟨hq, h.2⟩
    ·have : q = i := by omega
     subst this
     exact h.2 h7
  ·have : i = n := by omega
   subst this
   exact fun w' hw => ⟨hw.same rfl, .inl ⟨h0, rfl⟩⟩
 ·simp only [ha, zaf, gx, ft, ↓zac, ↓zab, zak hβ, zaj hβ, Nat.reduceAdd, Nat.reduceSub, Nat.reduceMul, Nat.reduceLT, Nat.reduceLeDiff, Nat.reduceEqDiff, Int.cast_ofNat_Int, Int.reduceLT, Int.reduceLE, Int.reduceToNat, Int.reduceAdd, Int.reduceNeg, Int.reduceEq, reduceCtorEq, wrap_i, wrap_u, false_or, true_and, and_true, or_true, cond_true, cond_false, or_false, true_or, sets, hu, hu5]
  refine gd_i (fun h3 => ?_) fun h3 => ?_
  ·have hil : i < n := by omega
   have h4 : (i : Int).toNat = i := by omega
   have h5 := hf i hil
   have h6 := hg i hil
   have h8 := hd i hil (by omega)
   simp only [ha, zaf, gx, ft, ↓zac, ↓zab, zak hβ, zaj hβ, Nat.reduceAdd, Nat.reduceSub, Nat.reduceMul, Nat.reduceLT, Nat.reduceLeDiff, Nat.reduceEqDiff, Int.cast_ofNat_Int, Int.reduceLT, Int.reduceLE, Int.reduceToNat, Int.reduceAdd, Int.reduceNeg, Int.reduceEq, reduceCtorEq, wrap_i, wrap_u, false_or, true_and, and_true, or_true, cond_true, cond_false, or_false, true_or, h4, h5, h6]
   refine ⟨⟨by omega, by omega⟩, ⟨by omega, by omega⟩, gd_n (fun h7 => absurd h8 h7) fun h7 => ?_⟩
   rw [wrap_i _ (by omega)]
   refine ih _ β' _ _ (by omega) hβ ⟨i + 1, by omega, rfl, by simp, .inr ⟨⟨by omega, h0.2⟩, cap, cur, by simp [hu5], hl1, hl2, hl3, hl4, rfl⟩⟩ (by simp [sets])
  ·have : i = n := by omega
   subst this
   exact fun w' hw => ⟨hw.same rfl, .inr ⟨h0, β' 3, cap, cur, hw.fresh 3 _ rfl rfl, rfl, hw.obj 3 _ rfl, hl1, hl2, hl3, hl4⟩⟩
end Go.Proofs.YtflipopanpdcnadGreat
