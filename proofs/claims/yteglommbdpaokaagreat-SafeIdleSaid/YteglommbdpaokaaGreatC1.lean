/- Contracts: another arena with the same words. -/
import Derived.RangeFuncWrites
import Derived.RangeFuncLeaves
import Derived.Shelf.Abstract
import Derived.WalkKit
import Derived.OwnWalkIn
import Derived.TacticsInMore
import Derived.LoopNIn
import Derived.LoopIn
import Derived.Test.YteglommbdpaokaaGreatProg
import Derived.Test.YteglommbdpaokaaGreatGzSub
set_option linter.unusedSimpArgs false
set_option linter.unusedVariables false
namespace Go.Proofs.YteglommbdpaokaaGreat
open Go Go.RowKit Go.Shelf
attribute [local go_sem] Oper.semAt_some
set_option maxRecDepth 100000
set_option maxHeartbeats 2000000
section
variable {F : Fence} {n : Nat} {P : Program} {Q : Exit → Act → World → Prop} {a : Act} {w : World} {b : Frame} {k : List Item} {cs : List Frame}
theorem stepR_scope {c : Code} : step P (lone (b.atR a (.code (.scope c) :: k)) cs w) = .next (lone (b.atR a (.code c :: .inScope c :: k)) cs w) :=
 step_lone_go (by simp [stepG, stepG.exec, Frame.atR])
theorem stepR_inScope {c : Code} : step P (lone (b.atR a (.inScope c :: k)) cs w) = .next (lone (b.atR a k) cs w) :=
 step_lone_go (by simp [stepG, stepG.exec, Frame.atR])
def noGoto (Q : Exit → Act → World → Prop) : Exit → Act → World → Prop
 | .goto _, _, _ => False
 | e, a, w => Q e a w
theorem wpIn_scope {c : Code} (h : c.wpIn F n P (noGoto Q) a w) : (Code.scope c).wpIn F n P Q a w := by
 intro b k cs hro hb hr
 have h0 : (lone (b.atR a (.code (.scope c) :: k)) cs w).fenced P F := fenced_calm hb hr rfl
 obtain ⟨e, a₁, w₁, hq, harr⟩ := h b (.inScope c :: k) cs hro hb hr
 cases e with
 | normal => exact ⟨.normal, a₁, w₁, hq, .head h0 stepR_scope (StepsIn.trans harr (.one (fenced_calm hb hr rfl) stepR_inScope))⟩
 | exit id =>
   have hx : exitTo id (.inScope c :: k) = exitTo id k := by simp [exitTo]
   exact ⟨.exit id, a₁, w₁, hq, fun k' hk => .head h0 stepR_scope (harr.1 k' (by rw [hx]; exact hk)),
    fun hr' hk => let ⟨k₁, h1, h2⟩ := harr.2 hr' (by rw [hx]; exact hk); ⟨k₁, h1, .head h0 stepR_scope h2⟩⟩
 | goto l => exact hq.elim
 | ret => exact ⟨_, a₁, w₁, hq, .of_steps (.one h0 stepR_scope) harr⟩
 | panic ch => exact ⟨_, a₁, w₁, hq, .of_steps (.one h0 stepR_scope) harr⟩
 | outgrown => exact ⟨_, a₁, w₁, hq, .of_steps (.one h0 stepR_scope) harr⟩
end
theorem none_in (F : Fence) (n : Nat) (h28 : F.fn 28) (hro : F.round = none) (ba : Nat) (p : Option Addr) (N c : Nat) (w : World) (hc : w.cell? ⟨ba, 0, none⟩ = some (.slice p N c)) (hN : 1 ≤ N ∧ N ≤ 16384) :
  CallsIn F n Tryz.prog 28 #[.pointer (some ⟨ba, 0, none⟩)] w fun e w' => e = .returned (.bool false) ∧ w' = w := by
 refine callsIn_of_wp Tryz.func28 rfl h28 ?_ hro
 simp only [Tryz.ntmps28, List.size_toArray, List.length_cons, List.length_nil, Nat.reduceAdd, Nat.reduceSub, Array.replicate_succ, Array.replicate_zero, List.push_toArray, List.append_toArray, List.nil_append, List.cons_append]
 gi_wp2
 refine bodyPost_ret (results_tmp rfl _ _ _) rfl ?_
 have : ((N : Int) == 0) = false := by simp; omega
 exact ⟨by simp [this], rfl⟩
theorem len_in (F : Fence) (n : Nat) (h28 : F.fn 28) (h29 : F.fn 29) (hro : F.round = none) (hn : 1 ≤ n) (ba : Nat) (p : Option Addr) (N c : Nat) (w : World) (hc : w.cell? ⟨ba, 0, none⟩ = some (.slice p N c)) (hN : 1 ≤ N ∧ N ≤ 16384) :
  CallsIn F n Tryz.prog 29 #[.pointer (some ⟨ba, 0, none⟩)] w fun e w' => e = .returned (.int .i64 N) ∧ w' = w := by
 refine callsIn_of_wp Tryz.func29 rfl h29 ?_ hro
 simp only [Tryz.ntmps29, List.size_toArray, List.length_cons, List.length_nil, Nat.reduceAdd, Nat.reduceSub, Array.replicate_succ, Array.replicate_zero, List.push_toArray, List.append_toArray, List.nil_append, List.cons_append]
 gi_wp2_with (gi_at_call 28; refine (none_in F (n - 1) h28 hro ba p N c _ hc hN).mono ?_; rintro e w' ⟨rfl, rfl⟩)
 refine bodyPost_ret (results_tmp rfl _ _ _) rfl ?_
 exact ⟨rfl, rfl⟩
theorem new_in (F : Fence) (n : Nat) (h27 : F.fn 27) (hro : F.round = none) (N : Nat) (w : World) (hN : 1 ≤ N ∧ N ≤ 16384) :
  CallsIn F n Tryz.prog 27 #[.int .i64 N] w fun e w' => e = .returned (.tuple #[.pointer (some ⟨w.heap.size + 1, 0, none⟩), .int .i64 0]) ∧
   w' = (w.alloc (.cells (List.replicate N (.int .u64 0)).toArray 28)).alloc (.cells #[.slice (some ⟨w.heap.size, 0, none⟩) N N] 72) := by
 refine callsIn_of_wp Tryz.func27 rfl h27 ?_ hro
 simp only [Tryz.ntmps27, List.size_toArray, List.length_cons, List.length_nil, Nat.reduceAdd, Nat.reduceSub, Array.replicate_succ, Array.replicate_zero, List.push_toArray, List.append_toArray, List.nil_append, List.cons_append]
 gi_wp2
 have hrun : (Instr.makeSlice 35 (.int .i64 N) (.int .i64 N)).run Tryz.prog w = .ok (.slice (some ⟨w.heap.size, 0, none⟩) N N) (w.alloc (.cells (List.replicate N (.int .u64 0)).toArray 28)) :=
  Gz.make_runB (P := Tryz.prog) (w := w) (t := 35) (et := 28) (z0 := .int .u64 0) (Gz.small_of (by kernel_rfl)) (by kernel_rfl) (q := N) (by omega)
 rw [hrun]
 simp only [Result.andThen_ok]
 gi_wp2
 go_ret2
 exact ⟨rfl, by simp⟩
theorem allf_in (F : Fence) (n : Nat) (h30 : F.fn 30) (hro : F.round = none) (p0 : Option Addr) (w : World) :
  CallsIn F n Tryz.prog 30 #[.pointer p0] w fun e w' => e = .returned (.func (.func 43) #[] #[.pointer (some ⟨w.heap.size, 0, none⟩)]) ∧ w' = w.alloc (.cells #[.pointer p0] 41) := by
 refine callsIn_of_wp Tryz.func30 rfl h30 ?_ hro
 simp only [Tryz.ntmps30, List.size_toArray, List.length_cons, List.length_nil, Nat.reduceAdd, Nat.reduceSub, Array.replicate_succ, Array.replicate_zero, List.push_toArray, List.append_toArray, List.nil_append, List.cons_append]
 gi_wp2
 refine bodyPost_ret (results_tmp rfl _ _ _) rfl ?_
 exact ⟨rfl, rfl⟩
structure AtA (n0 ba bl N c : Nat) (f : Nat → Int) (W : World) : Prop where
 a : ba < n0
 l : bl < n0
 s : W.cell? ⟨ba, 0, none⟩ = some (.slice (some ⟨bl, 0, none⟩) N c)
 g : ∀ i, i < N → W.cell? ⟨bl, i, none⟩ = some (.int .u64 (f i))
theorem AtA.below {n0 ba bl N c : Nat} {f : Nat → Int} {A B : World} (h : AtA n0 ba bl N c f A) (hb : Below n0 A B) : AtA n0 ba bl N c f B :=
 ⟨h.a, h.l, (hb.cell (p := ⟨ba, 0, none⟩) h.a).trans h.s, fun i hi => (hb.cell (p := ⟨bl, i, none⟩) h.l).trans (h.g i hi)⟩
def IsR {N : Nat} (pre : List (Fin N)) : Prop := pre.map Fin.val = List.range pre.length
theorem isR_snoc {N : Nat} {pre : List (Fin N)} (h : IsR pre) (hl : pre.length < N) : IsR (pre ++ [⟨pre.length, hl⟩]) := by
 unfold IsR at *
 rw [List.length_append, List.length_singleton, List.range_succ, List.map_append, h]
 rfl
def KpB (n0 Bn : Nat) (A B : World) : Prop := Below n0 A B ∧ ∀ v, A.cell? ⟨Bn, 0, none⟩ = some v → B.cell? ⟨Bn, 0, none⟩ = some v
theorem all1_in (F : Fence) (n : Nat) (h28 : F.fn 28) (h29 : F.fn 29) (h43 : F.fn 43) (hro : F.round = none) (hn : 2 ≤ n) (l Bn n0 ba bl N c : Nat) (f : Nat → Int) (hN : 1 ≤ N ∧ N ≤ 16384) (J Jx : List (Fin N) → World → Prop)
  (hY : ∀ (pre : List (Fin N)) (x : Fin N) (W : World), J pre W → pre.length < N → YieldAt F (n - 1) Tryz.prog l #[.int .i64 (x.1 : Nat), .int .u64 (f x.1)] W fun e W' =>
   (e = .returned (.bool true) ∧ J (pre ++ [x]) W' ∧ KpB n0 Bn W W') ∨ (e = .returned (.bool false) ∧ Jx (pre ++ [x]) W'))
  (W : World) (hBn : W.cell? ⟨Bn, 0, none⟩ = some (.pointer (some ⟨ba, 0, none⟩))) (hL : AtA n0 ba bl N c f W) (h0 : J [] W) :
  CallsIn F n Tryz.prog 43 #[.func (.yield l) #[] #[], .pointer (some ⟨Bn, 0, none⟩)] W fun e W' => (∃ v, e = .returned v) ∧
   ((∃ ys, (ys.length = N ∧ IsR ys) ∧ J ys W') ∨ (∃ pre, True ∧ Jx pre W')) := by
 refine callsIn_of_wp Tryz.func43 rfl h43 ?_ hro
 simp only [Tryz.ntmps43, List.size_toArray, List.length_cons, List.length_nil, Nat.reduceAdd, Nat.reduceSub, Array.replicate_succ, Array.replicate_zero, List.push_toArray, List.append_toArray, List.nil_append, List.cons_append]
 have hn1 : 1 ≤ n := by omega
 refine wpIn_scope (wpIn_seq (wpIn_label ?_))
 simp only [Exit.then]
 gi_wp2_with (gi_at_call 29; refine (len_in F (n - 1) h28 h29 hro (by omega) ba _ N c _ hL.s hN).mono ?_; rintro e w' ⟨rfl, rfl⟩)
 gi_loopw [6] (fun p6 wr => ∃ pre : List (Fin N), IsR pre ∧ pre.length ≤ N ∧ p6 = .int .i64 (pre.length : Nat) ∧ wr.cell? ⟨Bn, 0, none⟩ = some (.pointer (some ⟨ba, 0, none⟩)) ∧ AtA n0 ba bl N c f wr ∧ J pre wr)
  (fun p6 wr => match p6 with
   | .int _ q => N - q.toNat
   | _ => 0)
 case atStart => exact ⟨[], rfl, by simp, rfl, hBn, hL, h0⟩
 case round =>
  obtain ⟨pre, hpre, hle, rfl, hb, hl, hJ⟩ := hrel
  have hs := hl.s
  by_cases hlt : pre.length < N
  ·have hget := hl.g pre.length hlt
   have hlt2 : ((pre.length : Nat) : Int) < (N : Int) := by omega
   have hge2 : (0 : Int) ≤ ((pre.length : Nat) : Int) := by omega
   obtain ⟨fn, tmps, assign, body, hy, hR⟩ := hY pre ⟨pre.length, hlt⟩ wr hJ hlt
   gi_wp2
   refine hR.mono ?_
   rintro e W3 (⟨rfl, hJ3, hk3⟩ | ⟨rfl, hJx3⟩)
   ·have hb3 := hk3.2 _ hb
    have hl3 := hl.below hk3.1
    gi_wp2
    go_roundw
    case rel => exact ⟨pre ++ [⟨pre.length, hlt⟩], isR_snoc hpre hlt, by simp; omega, by simp, hb3, hl3, hJ3⟩
    case measure => simp; omega
   ·gi_wp2
    simp only [noGoto]
    go_end0
    first
     | exact ⟨⟨_, rfl⟩, .inr ⟨_, hJx3⟩⟩
     | exact ⟨⟨_, rfl⟩, .inr ⟨_, trivial, hJx3⟩⟩
  ·have hlt2 : ¬ ((pre.length : Nat) : Int) < (N : Int) := by omega
   gi_wp2
   simp only [noGoto]
   go_end0
   have : pre.length = N := by omega
   exact ⟨⟨_, rfl⟩, .inl ⟨pre, ⟨this, hpre⟩, hJ⟩⟩
theorem all_stops (F : Fence) (n : Nat) (h28 : F.fn 28) (h29 : F.fn 29) (h43 : F.fn 43) (hro : F.round = none) (hn : 2 ≤ n) (Bn n0 ba bl N c : Nat) (f : Nat → Int) (hN : 1 ≤ N ∧ N ≤ 16384) (w : World) (hB : Bn < w.heap.size) (hn0 : n0 ≤ w.heap.size)
  (hc : w.cell? ⟨Bn, 0, none⟩ = some (.pointer (some ⟨ba, 0, none⟩))) (hL : AtA n0 ba bl N c f w) :
  SeqStopsK F n Tryz.prog 43 #[.pointer (some ⟨Bn, 0, none⟩)] (fun x : Fin N => #[Value.int .i64 (x.1 : Nat), .int .u64 (f x.1)]) (KpB n0 Bn) (fun ys => ys.length = N ∧ IsR ys) (fun _ => True) N w := fun l J Jx W hW _ _ hY h0 =>
 all1_in F n h28 h29 h43 hro hn l Bn n0 ba bl N c f hN J Jx hY W ((hW.cell (p := ⟨Bn, 0, none⟩) hB).trans hc) (hL.below (hW.mono hn0)) h0
def cpy {N : Nat} (f : Nat → Int) (pre : List (Fin N)) : List Value := (List.range N).map fun j => .int .u64 (if j ∈ pre.map Fin.val then f j else 0)
theorem cpy_nil {N : Nat} (f : Nat → Int) : cpy f ([] : List (Fin N)) = List.replicate N (.int .u64 0) := by
 unfold cpy
 apply List.ext_getElem?
 intro q
 by_cases hq : q < N
 ·simp [hq, List.getElem?_replicate]
 ·simp [hq, List.getElem?_replicate]
theorem cpy_length {N : Nat} (f : Nat → Int) (pre : List (Fin N)) : (cpy f pre).length = N := by simp [cpy]
theorem cpy_snoc {N : Nat} (f : Nat → Int) (pre : List (Fin N)) (x : Fin N) : (cpy f pre).set x.1 (.int .u64 (f x.1)) = cpy f (pre ++ [x]) := by
 apply List.ext_getElem?
 intro q
 rw [List.getElem?_set, cpy_length]
 by_cases hq : x.1 = q
 ·subst hq
  simp [cpy]
 ·rw [if_neg hq]
  by_cases hqN : q < N
  ·simp only [cpy, List.getElem?_map, List.getElem?_range hqN, Option.map_some, List.map_append, List.mem_append, List.map_cons, List.map_nil, List.mem_singleton]
   congr 3
   have : (q ∈ List.map Fin.val pre ∨ q = x.1) = (q ∈ List.map Fin.val pre) := by
    apply propext
    constructor
    ·rintro (h | h)
     ·exact h
     ·exact absurd h.symm hq
    ·exact .inl
   simp only [this]
  ·rw [List.getElem?_eq_none (by rw [cpy_length]; omega), List.getElem?_eq_none (by rw [cpy_length]; omega)]
theorem cpy_all {N : Nat} (f : Nat → Int) {pre : List (Fin N)} (hl : pre.length = N) (h : IsR pre) : cpy f pre = (List.range N).map fun j => .int .u64 (f j) := by
 unfold cpy
 apply List.map_congr_left
 intro j hj
 unfold IsR at h
 rw [h, hl, if_pos hj]
theorem heap_kept {A B : World} {row : Option Nat} {b : Nat} {a : Array Value} {t : TypeId} {z : Nat × Nat} (h : A.heap[b]? = some (.cells a t z)) (hg : A.grownBy B row) (hr : ∀ r, row = some r → ∃ o : Obj, A.heap[r]? = some o ∧ o.isCells = false) : B.heap[b]? = some (.cells a t z) := by
 have hlt := (Array.getElem?_eq_some_iff.1 h).1
 rw [hg.block b hlt fun e => ?_]
 ·exact h
 ·obtain ⟨o, h1, h2⟩ := hr b e.symm
  rw [h] at h1
  cases h1
  cases h2
def CopyR (f : Nat → Int) (N : Nat) (w : World) (e : Ending) (w' : World) : Prop :=
 ∃ b1 b2, e = .returned (.pointer (some ⟨b2, 0, none⟩)) ∧ w.heap.size ≤ b1 ∧ w.heap.size ≤ b2 ∧ b1 ≠ b2 ∧ Below w.heap.size w w' ∧ w'.heap[b1]? = some (.cells ((List.range N).map fun j => Value.int .u64 (f j)).toArray 28) ∧ w'.heap[b2]? = some (.cells #[.slice (some ⟨b1, 0, none⟩) N N] 72)
theorem copy_in (F : Fence) (n : Nat) (h10 : F.fn 10) (h27 : F.fn 27) (h28 : F.fn 28) (h29 : F.fn 29) (h30 : F.fn 30) (h43 : F.fn 43) (hro : F.round = none) (hn : 4 ≤ n) (ba bl N c : Nat) (f : Nat → Int) (hN : 1 ≤ N ∧ N ≤ 16384) (w : World) (hL : AtA w.heap.size ba bl N c f w) :
  CallsIn F n Tryz.prog 10 #[.pointer (some ⟨ba, 0, none⟩)] w (CopyR f N w) := by
 refine callsIn_of_wp_marks Tryz.func10 rfl h10 ?_ hro
 have hn1 : 1 ≤ n := by omega
 have hs := hL.s
 simp only [Tryz.ntmps10, List.size_toArray, List.length_cons, List.length_nil, Nat.reduceAdd, Nat.reduceSub, Array.replicate_succ, Array.replicate_zero, List.push_toArray, List.append_toArray, List.nil_append, List.cons_append]
 gi_wp2_with (first
  | (gi_at_call 28; refine (none_in F (n - 1) h28 hro ba _ N c _ hs hN).mono ?_; rintro e w' ⟨rfl, rfl⟩)
  | (gi_at_call 29; refine (len_in F (n - 1) h28 h29 hro (by omega) ba _ N c _ hs hN).mono ?_; rintro e w' ⟨rfl, rfl⟩)
  | (gi_at_call 27; refine (new_in F (n - 1) h27 hro N _ hN).mono ?_; rintro e w' ⟨rfl, rfl⟩)
  | (gi_at_call 30; refine (allf_in F (n - 1) h30 hro _ _).mono ?_; rintro e w' ⟨rfl, rfl⟩))
 generalize hW0 : World.alloc (World.alloc (World.alloc (World.alloc w' _) _) _) _ = W0
 have hsz : W0.heap.size = w'.heap.size + 4 := by rw [← hW0]; simp
 have hbl : Below w'.heap.size w' W0 := by
  rw [← hW0]
  exact ((((Below.refl _ w').alloc (Nat.le_refl _) _).alloc (by simp) _).alloc (by simp; omega) _).alloc (by simp; omega) _
 have g0 : W0.heap[w'.heap.size]? = some (.cells (cpy f ([] : List (Fin N))).toArray 28) := by
  rw [← hW0, cpy_nil, Below.heap_alloc _ _ _ (by simp; omega), Below.heap_alloc _ _ _ (by simp; omega), Below.heap_alloc _ _ _ (by simp), World.alloc_heap_new, List.toArray_replicate]
 have g1 : W0.heap[w'.heap.size + 1]? = some (.cells #[.slice (some ⟨w'.heap.size, 0, none⟩) N N] 72) := by
  have h := World.alloc_heap_new (w'.alloc (.cells (Array.replicate N (.int .u64 0)) 28)) (.cells #[.slice (some ⟨w'.heap.size, 0, none⟩) N N] 72)
  rw [World.size_alloc] at h
  rw [← hW0, Below.heap_alloc _ _ _ (by simp), Below.heap_alloc _ _ _ (by simp)]
  exact h
 have g2 : W0.heap[w'.heap.size + 2]? = some (.cells #[.pointer (some ⟨w'.heap.size + 1, 0, none⟩)] 41) := by
  have h := World.alloc_heap_new ((w'.alloc (.cells (Array.replicate N (.int .u64 0)) 28)).alloc (.cells #[.slice (some ⟨w'.heap.size, 0, none⟩) N N] 72)) (.cells #[.pointer (some ⟨w'.heap.size + 1, 0, none⟩)] 41)
  rw [World.size_alloc, World.size_alloc] at h
  rw [← hW0, Below.heap_alloc _ _ _ (by simp)]
  exact h
 have g3 : W0.heap[w'.heap.size + 3]? = some (.cells #[.pointer (some ⟨ba, 0, none⟩)] 41) := by
  have h := World.alloc_heap_new (((w'.alloc (.cells (Array.replicate N (.int .u64 0)) 28)).alloc (.cells #[.slice (some ⟨w'.heap.size, 0, none⟩) N N] 72)).alloc (.cells #[.pointer (some ⟨w'.heap.size + 1, 0, none⟩)] 41)) (.cells #[.pointer (some ⟨ba, 0, none⟩)] 41)
  rw [World.size_alloc, World.size_alloc, World.size_alloc] at h
  rw [← hW0]
  exact h
 clear hW0
 have c3 : W0.cell? ⟨w'.heap.size + 3, 0, none⟩ = some (.pointer (some ⟨ba, 0, none⟩)) := by simp [World.cell?, g3]
 have hL0 : AtA w'.heap.size ba bl N c f W0 := hL.below hbl
 refine wpIn_rangeFunc_ownG hro hn1 (gf := 43) (lb := #[.pointer (some ⟨w'.heap.size + 3, 0, none⟩)]) rfl h43 (enters_of Tryz.func43 (by kernel_rfl) rfl)
  (all_stops F (n - 1) h28 h29 h43 hro (by omega) (w'.heap.size + 3) w'.heap.size ba bl N c f hN W0 (by omega) (by omega) c3 hL0)
  (fun h1 h2 => ⟨h1.1.trans h2.1, fun v hv => h2.2 v (h1.2 v hv)⟩) ?kb (Below.refl _ _) (fun _ => rfl)
  (fun pre W => Below w'.heap.size w' W ∧ W.heap[w'.heap.size]? = some (.cells (cpy f pre).toArray 28) ∧ W.heap[w'.heap.size + 1]? = some (.cells #[.slice (some ⟨w'.heap.size, 0, none⟩) N N] 72) ∧ W.heap[w'.heap.size + 2]? = some (.cells #[.pointer (some ⟨w'.heap.size + 1, 0, none⟩)] 41))
  (fun _ _ _ => False) ?hi (fun _ _ _ _ _ h _ _ => h) ⟨hbl, g0, g1, g2⟩
  (fun x : Fin N => { tmps := #[.pointer (some ⟨ba, 0, none⟩), undef, .pointer none, .pointer (some ⟨w'.heap.size + 1 + 1, 0, none⟩), .int .i64 0, .int .i64 (x.1 : Nat), .int .u64 (f x.1), .pointer (some ⟨ba, 0, none⟩), .bool false,
   .tuple #[.pointer (some ⟨w'.heap.size + 1, 0, none⟩), .int .i64 0], .pointer (some ⟨ba, 0, none⟩), .int .i64 N, .tuple #[.pointer (some ⟨w'.heap.size + 1, 0, none⟩), .int .i64 0], .pointer (some ⟨w'.heap.size + 1, 0, none⟩), .int .i64 0, .pointer (some ⟨ba, 0, none⟩),
   .func (.func 43) #[] #[.pointer (some ⟨w'.heap.size + 1 + 1 + 1, 0, none⟩)], .int .i64 (x.1 : Nat), .int .u64 (f x.1), undef, undef, undef, undef, undef, undef, undef, undef, undef], defers := [] }) ?assign ?body ?done ?stop
 case kb =>
  intro W l o o' hl ho hc _
  refine ⟨?_, fun v hv => ?_⟩
  ·exact belowK_b (by omega) W l o o' hl ho hc (by assumption)
  ·exact cell_kept hv (grownBy_putObj' W l o') (fun r e => by cases e; exact ⟨o, ho, hc⟩)
 case hi =>
  intro s A B row h hg hr
  have hr' : ∀ r, row = some r → ∃ o : Obj, A.heap[r]? = some o ∧ o.isCells = false := fun r e => (hr r e).2
  refine ⟨?_, heap_kept h.2.1 hg hr', heap_kept h.2.2.1 hg hr', heap_kept h.2.2.2 hg hr'⟩
  refine h.1.trans ⟨hg.os, hg.tape, hg.output, hg.size, fun k hk => hg.block k (Nat.lt_of_lt_of_le hk h.1.size) fun e => ?_⟩
  have := (hr k e.symm).1
  omega
 case assign =>
  intro l x W K hK
  gi_wp2
  exact hK
 case body =>
  rintro l pre x W ⟨hb, i0, i1, i2⟩ hlen
  have x0 := x.2
  have x1 : (0 : Int) ≤ ((x.1 : Nat) : Int) := by omega
  have x2 : ((x.1 : Nat) : Int) < (N : Int) := by omega
  have d2 : W.cell? ⟨w'.heap.size + 1 + 1, 0, none⟩ = some (.pointer (some ⟨w'.heap.size + 1, 0, none⟩)) := by simp [World.cell?, i2]
  have d1 : W.cell? ⟨w'.heap.size + 1, 0, none⟩ = some (.slice (some ⟨w'.heap.size, 0, none⟩) N N) := by simp [World.cell?, i1]
  have d0 : ∃ v, W.cell? ⟨w'.heap.size, x.1, none⟩ = some v := by
   refine ⟨(cpy f pre)[x.1]'(by rw [cpy_length]; exact x0), ?_⟩
   simp [World.cell?, i0, cpy_length, x0]
  obtain ⟨v0, d0⟩ := d0
  have e0 : W.frozen? ⟨w'.heap.size, x.1, none⟩ = false := by simp [World.frozen?, i0]
  gi_wp2
  have hset := heap_setCell_same W w'.heap.size x.1 (cpy f pre).toArray 28 (.int .u64 (f x.1)) i0
  have hother := fun k (hk : k ≠ w'.heap.size) => heap_setCell_other W ⟨w'.heap.size, x.1, none⟩ k (.int .u64 (f x.1)) hk
  refine ⟨(KeepsOthers.setCell _ _ _).from _, ⟨(Below.refl w'.heap.size W).setCell (p := ⟨w'.heap.size, x.1, none⟩) (Nat.le_refl _) _, fun v hv => ?_⟩, hb.trans ((Below.refl w'.heap.size W).setCell (p := ⟨w'.heap.size, x.1, none⟩) (Nat.le_refl _) _), ?_, ?_, ?_⟩
  ·rw [World.cell?_of_block (hother _ (by show w'.heap.size + 3 ≠ _; omega))]; exact hv
  ·rw [hset, ← cpy_snoc]; simp
  ·rw [hother _ (by omega)]; exact i1
  ·rw [hother _ (by omega)]; exact i2
 case done =>
  rintro D ys W hD ⟨hl, hr⟩ ⟨hb, i0, i1, i2⟩ hK
  have d2 : W.cell? ⟨w'.heap.size + 1 + 1, 0, none⟩ = some (.pointer (some ⟨w'.heap.size + 1, 0, none⟩)) := by simp [World.cell?, i2]
  gi_wp2
  refine ⟨by simp, .inl ⟨_, _, rfl, run_takeDeferred hK, ?_⟩⟩
  refine ⟨_, results_tmp rfl _ _ _, ?_⟩
  refine ⟨w'.heap.size, w'.heap.size + 1, rfl, Nat.le_refl _, by omega, by omega, ?_, ?_, ?_⟩
  ·exact hb.trans ⟨rfl, rfl, rfl, by simp, fun k hk => World.putObj_heap_other (by omega)⟩
  ·rw [World.putObj_heap_other (by omega), i0, cpy_all f hl hr]
  ·rw [World.putObj_heap_other (by omega), i1]
 case stop =>
  rintro D c pre W _ _ h _
  exact h.elim
end Go.Proofs.YteglommbdpaokaaGreat
