/- Another arena with the same words, as an entry. -/
import Derived.Test.YteglommbdpaokaaGreatA2
import Derived.Test.YteglommbdpaokaaGreatC1
set_option linter.unusedSimpArgs false
set_option linter.unusedVariables false
namespace Go.Proofs.YteglommbdpaokaaGreat
open Go Go.Gz Go.RowKit
set_option maxRecDepth 100000
noncomputable def copyRes (at_ u : TypeId) (args : List Value) (n : Nat) (hp : Hp) : SmR :=
 match args with
 | [.pointer (some ⟨a, o, none⟩)] => cnd (Nat.beq o 0) (match hp.get a with
   | .cells [.slice (some ⟨b, _, some q⟩) _ _] _ gr => cnd (Nat.beq q 7 && (!gr && Nat.blt n 32766)) (match hp.get b with
     | .garr x tb => cnd (Nat.beq tb u) (askAll hp (.ans (.pointer (some ⟨Nat.succ n, 0, none⟩)) (Nat.succ (Nat.succ n)) ((hp.set n (.garr x u)).set (Nat.succ n) (.cells [.slice (some ⟨n, 0, some 7⟩) 0 CAPU] at_ false)))
      [sy 248 [lenGT 200 x, .int .i64 1], sy 216 [lenGT 200 x, .int .i64 16384]]) .no
     | _ => .no) .no
   | _ => .no) .no
 | _ => .no
def fOf (l : List Value) : Nat → Int := fun i => match l[i]? with
 | some (.int _ n) => n
 | _ => 0
theorem num_at {l : List Value} (h : l.all (srt 7) = true) (x : List Value) : NumAt (l ++ x) (fOf l) l.length := fun i hi => by
 rw [List.getElem?_append_left hi]; exact num_cells h i hi
theorem num_list {l : List Value} (h : l.all (srt 7) = true) : l = (List.range l.length).map fun j => .int .u64 (fOf l j) := by
 apply List.ext_getElem?
 intro i
 rcases Nat.lt_or_ge i l.length with hi | hi
 ·rw [List.getElem?_map, List.getElem?_range hi, Option.map_some]
  exact num_cells h i hi
 ·rw [List.getElem?_eq_none hi, List.getElem?_eq_none (by simp; omega)]
theorem c_copy (ba bl N c : Nat) (f : Nat → Int) (hN : 1 ≤ N ∧ N ≤ 16384) (w : World) (hL : AtA w.heap.size ba bl N c f w) : Calls Tryz.prog 10 #[.pointer (some ⟨ba, 0, none⟩)] w (CopyR f N w) :=
 callsIn_wide.1 (copy_in Fence.wide 4 trivial trivial trivial trivial trivial trivial rfl (by decide) ba bl N c f hN w hL)
theorem gCopy {m : Mu} : Ent2Ok Tryz.prog m ⟨10, copyRes 72 28⟩ := by
 refine ⟨by kernel_rfl, fun args n hp v n' hp' h B e w args' hem hl hw ha => ?_⟩
 replace h : copyRes 72 28 args n hp = .ans v n' hp' := h
 unfold copyRes at h
 split at h
 rotate_left
 ·cases h
 rename_i a o
 rw [zaa] at h
 split at h
 rotate_left
 ·cases h
 rename_i ho
 have ho := zad ho
 subst ho
 split at h
 rotate_left
 ·cases h
 rename_i b o2 q l2 c2 ta gr hga
 rw [zaa] at h
 split at h
 rotate_left
 ·cases h
 rename_i hck
 obtain ⟨h1, h2⟩ := zac hck
 obtain ⟨h2, h3⟩ := zac h2
 have h1 := zad h1
 subst h1
 have h2 : gr = false := by simpa using h2
 subst h2
 have hn := blt_lt h3
 split at h
 rotate_left
 ·cases h
 rename_i x tb hgb
 rw [zaa] at h
 split at h
 rotate_left
 ·cases h
 rename_i htb
 have htb := zad htb
 subst htb
 obtain ⟨hf, hy⟩ := askAll_ans h
 cases hy
 cases ha with
 | cons _ a1 _ r1 ha1 hr1 =>
 cases hr1
 obtain ⟨rfl, haN⟩ := ha1.ptrI
 subst hem
 obtain ⟨ob, hob, hro⟩ := hw.obj a haN (by rw [hga]; simp)
 rw [hga] at hro
 cases hro with
 | cells _ l' _ hrl =>
 cases hrl with
 | cons _ sv _ r2 hsv hr2 =>
 cases hr2
 obtain ⟨rfl, hbN, _⟩ := hsv.slGI
 obtain ⟨lb, xb, j1, j2, j3, j4, j5, j6, j7⟩ := hw.garr hbN hgb
 rw [zsU] at j7
 have hlt : lb.length < 9223372036854775808 := by rw [j3]; exact Nat.mod_lt _ (by decide)
 have hlen := lenGT_den 200 j2 hlt
 have f1 := hw.fk _ _ (hf (sy 248 [lenGT 200 x, .int .i64 1]) (by simp))
 have f2 := hw.fk _ _ (hf (sy 216 [lenGT 200 x, .int .i64 16384]) (by simp))
 rw [show sy 248 [lenGT 200 x, .int .i64 1] = .func (.methodOf 248 "") ⟨[lenGT 200 x, .int .i64 1]⟩ #[] from rfl, zau (by decide) hlen (show den e.m (.int .i64 1) = some (.int .i64 1) by rw [den]), itp_cmp (o := .geq) (.inr (.inr ⟨rfl, rfl⟩)) rfl] at f1
 rw [show sy 216 [lenGT 200 x, .int .i64 16384] = .func (.methodOf 216 "") ⟨[lenGT 200 x, .int .i64 16384]⟩ #[] from rfl, zau (by decide) hlen (show den e.m (.int .i64 16384) = some (.int .i64 16384) by rw [den])] at f2
 have f1 : (lb.length : Int) ≥ 1 := by simpa using f1
 have f2 : (match zag .leq (.int .i64 lb.length) (.int .i64 16384) with | some v => if srtA 8 v = true then some v else none | none => none) = some (.bool true) := f2
 rw [zap _ _ _ rfl] at f2
 have f2 : some (Value.bool (decide ((lb.length : Int) ≤ 16384))) = some (.bool true) := f2
 have f2 : (lb.length : Int) ≤ 16384 := by simpa using f2
 obtain ⟨N, hN⟩ : ∃ N, N = lb.length := ⟨_, rfl⟩
 have hea : e.β a < w.heap.size := hw.lt haN (by rw [hga]; simp)
 have heb : e.β b < w.heap.size := hw.lt hbN (by rw [hgb]; simp)
 have hAt : AtA w.heap.size (e.β a) (e.β b) (e.tot b % 9223372036854775808) (e.tot b / 9223372036854775808) (fOf lb) w := by
  refine ⟨hea, heb, by simp [World.cell?, hob], fun i hi => ?_⟩
  rw [← j3] at hi
  have := num_at j7 xb i hi
  simp only [World.cell?, j1]
  simpa using this
 have hc := c_copy (e.β a) (e.β b) _ _ (fOf lb) (by rw [← j3]; omega) w hAt
 refine hc.mono fun r w' ⟨b1, b2, q1, q2, q3, q4, q5, q6, q7⟩ => ?_
 have hcells : ((List.range (e.tot b % 9223372036854775808)).map fun j => Value.int .u64 (fOf lb j)) = lb := by
  rw [← j3]; exact (num_list j7).symm
 rw [hcells] at q6
 have w1 := hw.made (by omega) q5 (t := 9223372036854775808 * lb.length + lb.length) q2 q6 (o := .garr x 28) (by
  have h2 := RO.garr (P := Tryz.prog) (e := e.add n b1 (9223372036854775808 * lb.length + lb.length)) (n := n + 1) (j := n) x lb [] 28 j2
   (by rw [Env.add_tot]; omega) (by rw [Env.add_tot, List.append_nil]; omega) j5 j6 (by rw [zsU]; exact j7)
  rw [List.append_nil] at h2
  exact h2)
 refine ⟨(e.add n b1 (9223372036854775808 * lb.length + lb.length)).add (n + 1) b2 0, _, q1, (e.ext n _ _).trans ((e.add n b1 _).ext (n + 1) _ _), ?_, ?_⟩
 ·refine w1.add (by omega) rfl rfl rfl (Nat.le_refl _) q7 (fun _ _ _ => rfl) (fun j hj hlv => ?_) (.inl (Nat.le_trans hw.size q3)) (fun _ _ _ => rfl) ?_ (fun q o hq => w1.kp q o hq) ?_
  ·by_cases hjn : j = n
   ·subst hjn; rw [Env.add_β]; exact q4
   ·have hj' : j < n := by omega
    rw [(e.ext n b1 _).β j hj']
    rw [hp_set_ne _ _ _ (by omega) (by omega) (by omega)] at hlv
    have := hw.lt hj' hlv
    omega
  ·cases hk : (e.add n b1 (9223372036854775808 * lb.length + lb.length)).m.K b2 with
   | none => rfl
   | some o2 =>
     have h1 := (Array.getElem?_eq_some_iff.1 (hw.kp b2 o2 hk)).1
     omega
  ·refine RO.cells (P := Tryz.prog) [.slice (some ⟨n, 0, some 7⟩) 0 CAPU] [.slice (some ⟨b1, 0, none⟩) _ _] 72 (.cons _ _ _ _ ?_ .nil)
   have := RV.sliceG (e := (e.add n b1 (9223372036854775808 * lb.length + lb.length)).add (n + 1) b2 0) (n := n + 1 + 1) n (by omega)
   have hb : ((e.add n b1 (9223372036854775808 * lb.length + lb.length)).add (n + 1) b2 0).β n = b1 := by simp [Env.add]
   have ht : ((e.add n b1 (9223372036854775808 * lb.length + lb.length)).add (n + 1) b2 0).tot n = 9223372036854775808 * lb.length + lb.length := by simp [Env.add]
   rw [hb, ht, show (9223372036854775808 * lb.length + lb.length) % 9223372036854775808 = e.tot b % 9223372036854775808 by omega, show (9223372036854775808 * lb.length + lb.length) / 9223372036854775808 = e.tot b % 9223372036854775808 by omega] at this
   exact this
 ·have := RV.ptr (e := (e.add n b1 (9223372036854775808 * lb.length + lb.length)).add (n + 1) b2 0) (n := n + 1 + 1) (n + 1) 0 (by omega)
  rw [Env.add_β] at this
  exact this
end Go.Proofs.YteglommbdpaokaaGreat
