/- Slices that are handed in: what is in them. -/
import Derived.Test.YteglommbdpaokaaGreatGzDed
import Derived.SliceStrings
import Derived.ChangeSlices
namespace Go.Gz
open Go Go.Gx Go.RowKit Go.ChangeShapes Go.WideShapes
theorem cells_of {w : World} {a : Addr} {n : Nat} {g : Nat → Value} (h : ∀ i, i < n → w.cell? (a.add i) = some (g i)) (hn : 0 < n) :
  ∃ b off c t f, a = ⟨b, off, none⟩ ∧ w.heap[b]? = some (.cells c t f) ∧ ∀ i, i < n → c.toList[off + i]? = some (g i) := by
 have h0 := h 0 hn
 have e0 : a.add 0 = a := by simp [Addr.add]
 rw [e0] at h0
 have hs := World.cell?_spot h0
 obtain ⟨b, off, sp⟩ := a
 simp only at hs
 subst hs
 have hb : ∃ c t f, w.heap[b]? = some (.cells c t f) := by
  unfold World.cell? at h0
  simp only at h0
  split at h0
  ·rename_i c t f hc; exact ⟨c, t, f, hc⟩
  ·cases h0
 obtain ⟨c, t, f, hc⟩ := hb
 refine ⟨b, off, c, t, f, rfl, hc, fun i hi => ?_⟩
 have hi' := h i hi
 have ea : (Addr.mk b off none).add i = ⟨b, off + i, none⟩ := by
  unfold Addr.add
  split
  ·rename_i h; subst h; rfl
  ·rfl
 rw [ea] at hi'
 unfold World.cell? at hi'
 simp only [hc] at hi'
 simpa using hi'
section
variable {H : Type} {enc : TypeId × Value → H} {P : Program} {w : World} {base : Nat} {held : Bool}
theorem texts_open2 {t e : TypeId} {fuel : Nat} {cs : List Value} {x : DataW H × List MemPlace} (ht : P.underlying t = some (.slice e)) (he : P.underlying e = some .string) (hc : P.cellsOf e = 1)
  (h : DataW.trod enc P w base (fun _ => true) held fuel t cs = some x) :
  ∃ (a : Option Addr) (len cap : Nat) (L : List ByteArray), cs = [.slice a len cap] ∧ L.length = len ∧ (len = 0 ∨ ∃ b off c t f, a = some ⟨b, off, none⟩ ∧ w.heap[b]? = some (.cells c t f) ∧ ∀ i (h : i < L.length), c.toList[off + i]? = some (.string L[i])) ∧ ∀ s ∈ L, s.size < 9223372036854775808 := by
 rcases open_strings ht he hc h with ⟨rfl, _⟩ | ⟨a, len, cap, ss, rfl, _, hl, _, hlen, _, hcell, hsz⟩
 ·exact ⟨none, 0, 0, [], rfl, rfl, .inl rfl, fun s h => by simp at h⟩
 ·have hlen : ss.length = cap := by simpa using hlen
  refine ⟨some a, len, cap, ss.take len, rfl, by rw [List.length_take]; omega, ?_, fun s hs => by
   have := hsz s (List.mem_of_mem_take hs)
   unfold maxLen at this
   omega⟩
  rcases Nat.eq_zero_or_pos len with h0 | h0
  ·exact .inl h0
  ·right
   obtain ⟨b, off, c, t, f, rfl, g1, g2⟩ := cells_of (g := fun i => .string (ss.getD i ByteArray.empty)) (n := len) (fun i hi => hcell i (by omega)) h0
   refine ⟨b, off, c, t, f, rfl, g1, fun i hi => ?_⟩
   have hi' : i < len := by rw [List.length_take] at hi; omega
   rw [g2 i hi', List.getElem_take, List.getD_eq_getElem?_getD, List.getElem?_eq_getElem (by omega)]
   rfl
end
end Go.Gz
