/- The evaluator that the kernel runs: regions that draw, part 1: the plan of a region: what hangs on what. -/
import Derived.Test.YteglommbdpaokaaGreatGzS
namespace Go.Gz
open Go Go.Gx Go.RowKit
theorem nth_eq {α : Type} : ∀ (l : List α) (k : Nat), nth l k = l[k]?
 | [], k => by cases k <;> rfl
 | a :: l, 0 => rfl
 | a :: l, k + 1 => by
   show nth l k = _
   rw [nth_eq l k]; simp
theorem bindsA_eq (e : Edge) : Region.binds .any e = bindsA e.ground := by
 unfold Region.binds bindsA
 cases e.ground <;> rfl
theorem edgeBits_sub (acc : List Nat) (i : Nat) : ∀ (es : List Edge) (m : Nat) (k : Nat), (edgeBits acc i es m).testBit k = true →
  m.testBit k = true ∨ ∃ e ∈ es, bindsA e.ground = true ∧ ∃ x, nth acc (i - 1 - e.on) = some x ∧ x.testBit k = true
 | [], m, k, h => .inl h
 | ⟨j, g⟩ :: r, m, k, h => by
   unfold edgeBits at h
   rw [zaa] at h
   have tail : ∀ m', (edgeBits acc i r m').testBit k = true → (m'.testBit k = true → m.testBit k = true ∨ ∃ e ∈ (⟨j, g⟩ :: r : List Edge), bindsA e.ground = true ∧ ∃ x, nth acc (i - 1 - e.on) = some x ∧ x.testBit k = true) →
     m.testBit k = true ∨ ∃ e ∈ (⟨j, g⟩ :: r : List Edge), bindsA e.ground = true ∧ ∃ x, nth acc (i - 1 - e.on) = some x ∧ x.testBit k = true := by
    intro m' h' hm
    rcases edgeBits_sub acc i r m' k h' with h1 | ⟨e, he, h1⟩
    ·exact hm h1
    ·exact .inr ⟨e, List.mem_cons_of_mem _ he, h1⟩
   split at h
   ·rename_i hb
    split at h
    ·rename_i x hx
     refine tail _ h fun hm => ?_
     have hm : (m ||| x).testBit k = true := hm
     rw [Nat.testBit_or, Bool.or_eq_true] at hm
     rcases hm with hm | hm
     ·exact .inl hm
     ·exact .inr ⟨⟨j, g⟩, List.mem_cons_self, hb, x, hx, hm⟩
    ·exact tail _ h .inl
   ·exact tail _ h .inl
theorem edgeBits_sup (acc : List Nat) (i : Nat) : ∀ (es : List Edge) (m : Nat) (k : Nat), m.testBit k = true → (edgeBits acc i es m).testBit k = true
 | [], m, k, h => h
 | ⟨j, g⟩ :: r, m, k, h => by
   unfold edgeBits
   rw [zaa]
   split
   ·split
    ·rename_i x hx
     refine edgeBits_sup acc i r _ k ?_
     show (m ||| x).testBit k = true
     rw [Nat.testBit_or, h]; rfl
    ·exact edgeBits_sup acc i r _ k h
   ·exact edgeBits_sup acc i r _ k h
theorem edgeBits_edge (acc : List Nat) (i : Nat) : ∀ (es : List Edge) (m : Nat) (e : Edge), e ∈ es → bindsA e.ground = true → ∀ x, nth acc (i - 1 - e.on) = some x → ∀ k, x.testBit k = true → (edgeBits acc i es m).testBit k = true
 | [], m, e, h, _, _, _, _, _ => by simp at h
 | ⟨j, g⟩ :: r, m, e, h, hb, x, hx, k, hk => by
   unfold edgeBits
   rw [zaa]
   rcases List.mem_cons.1 h with rfl | h
   ·rw [if_pos hb]
    have hx : nth acc (Nat.sub (Nat.sub i 1) j) = some x := hx
    rw [hx]
    refine edgeBits_sup acc i r _ k ?_
    show (m ||| x).testBit k = true
    rw [Nat.testBit_or, hk]; simp
   ·split
    ·split
     ·exact edgeBits_edge acc i r _ e h hb x hx k hk
     ·exact edgeBits_edge acc i r _ e h hb x hx k hk
    ·exact edgeBits_edge acc i r _ e h hb x hx k hk
theorem edgesLt_lt (i : Nat) : ∀ (es : List Edge), edgesLt i es = true → ∀ e ∈ es, bindsA e.ground = true → e.on < i
 | [], _, e, h, _ => by simp at h
 | ⟨j, g⟩ :: r, hl, e, h, hb => by
   unfold edgesLt at hl
   rw [zaa, zaa] at hl
   rcases List.mem_cons.1 h with rfl | h
   ·rw [if_pos hb] at hl
    split at hl
    ·rename_i hj; exact blt_lt hj
    ·cases hl
   ·split at hl
    ·split at hl
     ·exact edgesLt_lt i r hl e h hb
     ·cases hl
    ·exact edgesLt_lt i r hl e h hb
theorem dos_get : ∀ (l : List Oper) (i : Nat) (acc : List Nat) (k : Nat) (x : DO), (dos l i acc)[k]? = some x →
  x.i = i + k ∧ l[k]? = some x.o ∧ x.b = 2 ^ (i + k) ∧ x.m = edgeBits ((((dos l i acc).take k).map (·.m)).reverse ++ acc) (i + k) x.o.after.toList (2 ^ (i + k))
 | [], i, acc, k, x, h => by simp [dos] at h
 | o :: l, i, acc, 0, x, h => by
   simp [dos] at h
   subst h
   exact ⟨rfl, rfl, rfl, by simp⟩
 | o :: l, i, acc, k + 1, x, h => by
   have h : (dos l (i + 1) (edgeBits acc i o.after.toList (2 ^ i) :: acc))[k]? = some x := by simpa [dos] using h
   obtain ⟨h1, h2, h3, h4⟩ := dos_get l (i + 1) _ k x h
   refine ⟨by omega, by simpa using h2, by rw [h3]; congr 1; omega, ?_⟩
   rw [h4]
   have e1 : dos (o :: l) i acc = ⟨i, 2 ^ i, edgeBits acc i o.after.toList (2 ^ i), o⟩ :: dos l (i + 1) (edgeBits acc i o.after.toList (2 ^ i) :: acc) := rfl
   rw [e1]
   simp only [List.take_succ_cons, List.map_cons, List.reverse_cons, List.append_assoc, List.cons_append, List.nil_append]
   rw [show i + 1 + k = i + (k + 1) by omega]
theorem dos_length : ∀ (l : List Oper) (i : Nat) (acc : List Nat), (dos l i acc).length = l.length
 | [], _, _ => rfl
 | o :: l, i, acc => by simp [dos, dos_length l]
structure Plan (ops : Array Oper) (all : List DO) : Prop where
 len : all.length = ops.size
 at_ : ∀ (k : Nat) (x : DO), all[k]? = some x → x.i = k ∧ ops[k]? = some x.o ∧ x.b = 2 ^ k
 own : ∀ (k : Nat) (x : DO), all[k]? = some x → x.m.testBit k = true
 sub : ∀ (k : Nat) (x : DO), all[k]? = some x → edgesLt k x.o.after.toList = true → ∀ j, x.m.testBit j = true → j = k ∨ ∃ e : Edge, e ∈ x.o.after.toList ∧ bindsA e.ground = true ∧ ∃ y : DO, all[e.on]? = some y ∧ y.m.testBit j = true
 sup : ∀ (k : Nat) (x : DO), all[k]? = some x → ∀ e : Edge, e ∈ x.o.after.toList → bindsA e.ground = true → e.on < k → x.m.testBit e.on = true
theorem dos_plan (ops : Array Oper) : Plan ops (dos ops.toList 0 []) := by
 have hget := dos_get ops.toList 0 []
 have hlen := dos_length ops.toList 0 []
 generalize hall : dos ops.toList 0 [] = all at hget hlen
 have hl : all.length = ops.size := by simpa using hlen
 have hnth : ∀ k x, all[k]? = some x → ∀ j, j < k → nth (((all.take k).map (·.m)).reverse) (k - 1 - j) = (all[j]?).map (·.m) := by
  intro k x hx j hj
  have hk : k < all.length := (List.getElem?_eq_some_iff.1 hx).1
  rw [nth_eq, List.getElem?_reverse (by simp; omega)]
  simp only [List.length_map, List.length_take, List.getElem?_map]
  rw [List.getElem?_take_of_lt (by omega)]
  congr 2
  omega
 refine ⟨hl, ?_, ?_, ?_, ?_⟩
 ·intro k x hx
  obtain ⟨h1, h2, h3, _⟩ := hget k x hx
  refine ⟨by omega, by simpa using h2, by simpa using h3⟩
 ·intro k x hx
  obtain ⟨h1, h2, h3, h4⟩ := hget k x hx
  rw [h4]
  refine edgeBits_sup _ _ _ _ _ ?_
  rw [Nat.testBit_two_pow]; simp
 ·intro k x hx hlt j hj
  obtain ⟨h1, h2, h3, h4⟩ := hget k x hx
  rw [h4] at hj
  rcases edgeBits_sub _ _ _ _ _ hj with h | ⟨e, he, hb, y, hy, hyj⟩
  ·rw [Nat.testBit_two_pow] at h
   left
   have := of_decide_eq_true h
   omega
  ·right
   have hon := edgesLt_lt k _ hlt e he hb
   simp only [Nat.zero_add, List.append_nil] at hy
   rw [hnth k x hx _ hon] at hy
   simp only [Option.map_eq_some_iff] at hy
   obtain ⟨z, hz, rfl⟩ := hy
   exact ⟨e, he, hb, z, hz, hyj⟩
 ·intro k x hx e he hb hon
  obtain ⟨h1, h2, h3, h4⟩ := hget k x hx
  rw [h4]
  have hk : k < all.length := (List.getElem?_eq_some_iff.1 hx).1
  have hy : all[e.on]? = some all[e.on] := by simp
  refine edgeBits_edge _ _ _ _ e he hb all[e.on].m ?_ _ ?_
  ·simp only [Nat.zero_add, List.append_nil]
   rw [hnth k x hx _ hon, hy]; rfl
  ·obtain ⟨_, _, _, h5⟩ := hget e.on _ hy
   rw [h5]
   refine edgeBits_sup _ _ _ _ _ ?_
   rw [Nat.testBit_two_pow]; simp
theorem bitsOf_mem {α : Type} : ∀ (l : List α) (m : Nat) (x : α), x ∈ bitsOf l m → x ∈ l
 | [], _, x, h => by simp [bitsOf] at h
 | a :: l, m, x, h => by
   unfold bitsOf at h
   rw [zaa] at h
   split at h
   ·rcases List.mem_cons.1 h with rfl | h
    ·exact List.mem_cons_self
    ·exact List.mem_cons_of_mem _ (bitsOf_mem l _ x h)
   ·exact List.mem_cons_of_mem _ (bitsOf_mem l _ x h)
theorem canonGo_mem (all : List DO) : ∀ (l : List DO) (seen : Nat) (x : DO), x ∈ canonGo all l seen → x ∈ all
 | [], seen, x, h => bitsOf_mem _ _ _ h
 | ⟨i, b, m, o⟩ :: l, seen, x, h => by
   unfold canonGo at h
   rw [zaa] at h
   split at h
   ·rcases List.mem_append.1 h with h | h
    ·exact bitsOf_mem _ _ _ h
    ·exact canonGo_mem all l _ x h
   ·exact canonGo_mem all l _ x h
theorem allB_all {α : Type} {f : α → Bool} : ∀ {l : List α}, allB f l = true → ∀ x ∈ l, f x = true
 | [], _, x, h => by simp at h
 | a :: l, hl, x, h => by
   unfold allB at hl
   rw [zaa] at hl
   split at hl
   ·rename_i ha
    rcases List.mem_cons.1 h with rfl | h
    ·exact ha
    ·exact allB_all hl x h
   ·cases hl
def among (l : List DO) (q k : Nat) : Prop := ∃ q', q' < q ∧ ∃ y : DO, l[q']? = some y ∧ y.i = k
theorem chkGo_spec (full : Nat) : ∀ (l : List DO) (seen : Nat), (∀ x ∈ l, x.b = 2 ^ x.i) → chkGo full l seen = true →
  (∀ (q : Nat) (x : DO), l[q]? = some x → ¬ (seen.testBit x.i = true ∨ among l q x.i) ∧ (heavy x.o.op = true → ∀ k, x.m.testBit k = true ↔ (k = x.i ∨ (seen.testBit k = true ∨ among l q k))) ∧
   (∀ k, x.m.testBit k = true → k = x.i ∨ (seen.testBit k = true ∨ among l q k)) ∧ edgesLt x.i x.o.after.toList = true) ∧
  (∀ k, full.testBit k = true → seen.testBit k = true ∨ ∃ (q : Nat) (y : DO), l[q]? = some y ∧ y.i = k)
 | [], seen, _, h => by
   have h := zad h
   subst h
   exact ⟨fun q x hx => by simp at hx, fun k hk => .inl hk⟩
 | ⟨i, b, m, o⟩ :: r, seen, hb, h => by
   have hb0 : b = 2 ^ i := hb ⟨i, b, m, o⟩ List.mem_cons_self
   subst hb0
   unfold chkGo at h
   rw [zaa] at h
   split at h
   rotate_left
   ·cases h
   rename_i hland
   rw [zaa] at h
   split at h
   rotate_left
   ·cases h
   rename_i hmask
   rw [zaa] at h hmask
   split at h
   rotate_left
   ·cases h
   rename_i hlt
   have hland := zad hland
   have hi : seen.testBit i = false := by
    have := congrArg (·.testBit i) hland
    have : ((seen &&& 2 ^ i).testBit i) = (0 : Nat).testBit i := this
    rw [Nat.testBit_and, Nat.testBit_two_pow, Nat.zero_testBit] at this
    simpa using this
   obtain ⟨ih1, ih2⟩ := chkGo_spec full r (seen ||| 2 ^ i) (fun x hx => hb x (List.mem_cons_of_mem _ hx)) h
   have hs : ∀ k, (seen ||| 2 ^ i).testBit k = true ↔ (seen.testBit k = true ∨ k = i) := by
    intro k
    rw [Nat.testBit_or, Nat.testBit_two_pow, Bool.or_eq_true, decide_eq_true_eq]
    exact or_congr Iff.rfl ⟨Eq.symm, Eq.symm⟩
   have ham : ∀ q k, ((seen ||| 2 ^ i).testBit k = true ∨ among r q k) ↔ (seen.testBit k = true ∨ among (⟨i, 2 ^ i, m, o⟩ :: r) (q + 1) k) := by
    intro q k
    rw [hs]
    constructor
    ·rintro ((h | rfl) | ⟨q', hq', y, hy, hyk⟩)
     ·exact .inl h
     ·exact .inr ⟨0, by omega, ⟨k, 2 ^ k, m, o⟩, rfl, rfl⟩
     ·exact .inr ⟨q' + 1, by omega, y, by simpa using hy, hyk⟩
    ·rintro (h | ⟨q', hq', y, hy, hyk⟩)
     ·exact .inl (.inl h)
     ·cases q' with
      | zero => simp at hy; subst hy; exact .inl (.inr hyk.symm)
      | succ q' => exact .inr ⟨q', by omega, y, by simpa using hy, hyk⟩
   have ham0 : ∀ k, among (⟨i, 2 ^ i, m, o⟩ :: r) 0 k ↔ False := by
    intro k
    constructor
    ·rintro ⟨q', hq', _⟩; omega
    ·exact False.elim
   refine ⟨fun q x hx => ?_, fun k hk => ?_⟩
   ·cases q with
    | zero =>
      simp at hx
      subst hx
      simp only [ham0, or_false]
      refine ⟨by simp [hi], fun hh k => ?_, fun k hk => ?_, hlt⟩
      ·rw [if_pos hh] at hmask
       have := zad hmask
       rw [← this]
       show (seen ||| 2 ^ i).testBit k = true ↔ _
       rw [hs]; exact or_comm
      ·split at hmask
       ·have := zad hmask
        rw [← this] at hk
        exact ((hs k).1 hk).symm
       ·have hm2 : seen ||| m = seen ||| 2 ^ i := zad hmask
        have : (seen ||| m).testBit k = true := by rw [Nat.testBit_or, hk]; simp
        rw [hm2] at this
        exact ((hs k).1 this).symm
    | succ q =>
      have hx : r[q]? = some x := by simpa using hx
      obtain ⟨h1, h2, h3, h4⟩ := ih1 q x hx
      exact ⟨by rw [← ham]; exact h1, fun hh k => by rw [h2 hh k, ham], fun k hk => by rw [← ham]; exact h3 k hk, h4⟩
   ·rcases ih2 k hk with h | ⟨q, y, hy, hyk⟩
    ·rcases (hs k).1 h with h | rfl
     ·exact .inl h
     ·exact .inr ⟨0, _, rfl, rfl⟩
    ·exact .inr ⟨q + 1, y, by simpa using hy, hyk⟩
structure Order (ops : Array Oper) (all l : List DO) : Prop where
 mem : ∀ x ∈ l, x ∈ all
 new : ∀ (q : Nat) (x : DO), l[q]? = some x → ¬ among l q x.i
 hv : ∀ (q : Nat) (x : DO), l[q]? = some x → heavy x.o.op = true → ∀ k, x.m.testBit k = true ↔ (k = x.i ∨ among l q k)
 any : ∀ (q : Nat) (x : DO), l[q]? = some x → ∀ k, x.m.testBit k = true → k = x.i ∨ among l q k
 lt : ∀ (q : Nat) (x : DO), l[q]? = some x → edgesLt x.i x.o.after.toList = true
 full : ∀ i, i < ops.size → ∃ (q : Nat) (y : DO), l[q]? = some y ∧ y.i = i
 pairs : ∀ x ∈ l, ∀ a ∈ l, pairOk ops.toList x a = true
theorem planOf_order {ops : Array Oper} {l : List DO} (h : planOf ops = some l) : ∃ all, Plan ops all ∧ Order ops all l := by
 unfold planOf at h
 rw [zaa] at h
 split at h
 rotate_left
 ·cases h
 rename_i hchk
 rw [zaa] at h
 split at h
 rotate_left
 ·cases h
 rename_i hpair
 cases h
 have hplan := dos_plan ops
 have hmem := canonGo_mem (dos ops.toList 0 []) (dos ops.toList 0 []) 0
 generalize dos ops.toList 0 [] = all at *
 generalize canonGo all all 0 = l at *
 have hb : ∀ x ∈ l, x.b = 2 ^ x.i := by
  intro x hx
  obtain ⟨k, hk⟩ := List.mem_iff_getElem?.1 (hmem x hx)
  obtain ⟨h1, _, h3⟩ := hplan.at_ k x hk
  rw [h1]; exact h3
 obtain ⟨h1, h2⟩ := chkGo_spec _ l 0 hb hchk
 refine ⟨all, hplan, hmem, fun q x hx => ?_, fun q x hx hh k => ?_, fun q x hx k hk => ?_, fun q x hx => (h1 q x hx).2.2.2, fun i hi => ?_, fun x hx a ha => allB_all (allB_all hpair x hx) a ha⟩
 ·have := (h1 q x hx).1
  simpa using this
 ·have := (h1 q x hx).2.1 hh k
  simpa using this
 ·have := (h1 q x hx).2.2.1 k hk
  simpa using this
 ·have := h2 i (by
    show (2 ^ ops.toList.length - 1).testBit i = true
    rw [Nat.testBit_two_pow_sub_one]; simpa using hi)
  simpa using this
end Go.Gz
