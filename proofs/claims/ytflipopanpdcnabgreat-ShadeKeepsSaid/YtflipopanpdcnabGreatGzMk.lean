/- For contracts: a slice that is made. -/
import Derived.Test.YtflipopanpdcnabGreatGzRow
namespace Go.Gz
open Go Go.Gx Go.RowKit
theorem make_run {P : Program} (hP : Small P) {w : World} {t et : TypeId} {x y : TI} {z0 : Value} {i1 : TypeInfo} (ht : ti P t = some x) (hk : x.kd = .sl 1 et) (hy : ti P et = some y) (hz0 : y.zero = [z0]) (hi1 : infoT P et = some i1) (hb : i1.bytes ≤ 512) {q : Nat} (hq : q ≤ 1048576) :
  (Instr.makeSlice t (.int .i64 q) (.int .i64 q)).run P w = .ok (.slice (some ⟨w.heap.size, 0, none⟩) q q) { w with heap := w.heap.push (.cells (List.replicate q z0).toArray et) } := by
 obtain ⟨sz, ag, z, kd⟩ := x
 simp only at hk
 subst hk
 obtain ⟨i, dd, zz, hi, hd, hz, _, _, _, rfl, hel2, hall⟩ := zal (zam hP ht)
 obtain ⟨z3, i2, hi2, hs2, hz3, hzs, hrep⟩ := zero_run hP (w := w) hy hall hel2.symm (by decide) (by rw [hz0]; rfl)
 have hi1' := infoT_info hP hi1
 rw [hi1'] at hi2
 cases hi2
 have hmul : i1.bytes * q ≤ 512 * 1048576 := Nat.mul_le_mul hb hq
 have hrun := makeSlice_run (P := P) (w := w) (k1 := .i64) (k2 := .i64) (c' := (rep y.zero q).toArray) hd hi1' hz3 hq (Nat.le_refl q) (by omega) (fun _ => by rw [hs2]; exact hrep q) (fun h => by
  rw [hs2] at h
  have : q = 0 := by omega
  subst this; simp [rep])
 rw [hrun, hz0, rep_one]
noncomputable def isOneZ (l : List Value) (z : Value) : Bool :=
 match l with
 | [u] => veq 50 u z
 | _ => false
noncomputable def mkB (P : Program) (t et : TypeId) (z : Value) : Bool :=
 match ti P t with
 | some ⟨_, _, _, kd⟩ => (match kd with
   | .sl e et' => Nat.beq e 1 && (Nat.beq et' et && (match ti P et with
     | some ⟨_, _, zs, _⟩ => isOneZ zs z && (match infoT P et with
       | some i => Nat.ble i.bytes 512
       | none => false)
     | none => false))
   | _ => false)
 | none => false
theorem make_runB {P : Program} (hP : Small P) {w : World} {t et : TypeId} {z0 : Value} (h : mkB P t et z0 = true) {q : Nat} (hq : q ≤ 1048576) :
  (Instr.makeSlice t (.int .i64 q) (.int .i64 q)).run P w = .ok (.slice (some ⟨w.heap.size, 0, none⟩) q q) { w with heap := w.heap.push (.cells (List.replicate q z0).toArray et) } := by
 unfold mkB at h
 split at h
 ·rename_i a b c kd hti
  split at h
  ·rename_i e et'
   obtain ⟨h1, g1⟩ := zae h
   obtain ⟨h2, g2⟩ := zae g1
   clear g1 h
   have h1 := zad h1
   have h2 := zad h2
   subst h1 h2
   split at g2
   ·rename_i a2 b2 zs kd2 hy
    obtain ⟨h3, g3⟩ := zae g2
    clear g2
    split at g3
    ·rename_i i hi
     have hz : zs = [z0] := by
      unfold isOneZ at h3
      split at h3
      ·rw [veq_eq _ _ _ h3]
      ·cases h3
     exact make_run hP hti rfl hy hz hi (ble_le g3) hq
    ·cases g3
   ·cases g2
  ·cases h
 ·cases h
end Go.Gz
