/- Where two lists of words are unlike, as an entry: of lists of which one is the other, with one word put at most. -/
import Derived.Test.YtflipopanpdcnadGreatA4
import Derived.Test.YtflipopanpdcnadGreatA6
set_option linter.unusedSimpArgs false
set_option linter.unusedVariables false
namespace Go.Proofs.YtflipopanpdcnadGreat
open Go Go.Gz Go.RowKit
set_option maxRecDepth 100000
noncomputable def unlikeP (it : TypeId) (n : Nat) (hp : Hp) (i x : Value) (r : R) : SmR :=
 match r with
 | .val u => cnd (hasS 7 u) (cnd (veq 1000 x u) (.ans (.slice none 0 0) n hp) (match decH hp (sy (opc 16 8) [x, u]) with
   | some b => cnd b (.ans (.slice none 0 0) n hp) (cnd (Nat.blt n 32767) (.ans (.slice (some ⟨n, 0, none⟩) 1 CAPU) (Nat.succ n) (hp.set n (.cells [i] it true))) .no)
   | none => .ask (sy (opc 16 8) [x, u]))) .no
 | .need c => .ask c
 | _ => .no
noncomputable def unlikeG (it : TypeId) (n : Nat) (hp : Hp) (x y : Value) : SmR := cnd (veq 1000 x y) (.ans (.slice none 0 0) n hp) (match x with
 | .func (.methodOf op _) ⟨[u, i, v]⟩ _ => cnd (Nat.beq op 829 && (veq 1000 u y && Gz.i64S i)) (unlikeP it n hp i v (getG hp 7 i 200 y)) .no
 | _ => .no)
noncomputable def unlikeRes (u it : TypeId) (args : List Value) (n : Nat) (hp : Hp) : SmR :=
 match args with
 | [.slice (some ⟨a, _, some q⟩) _ _, .slice (some ⟨b, _, some q'⟩) _ _] => cnd (Nat.beq q 7 && (Nat.beq q' 7 && !(Nat.beq a b))) (match hp.get a with
   | .garr x ta => (match hp.get b with
     | .garr y tb => cnd (Nat.beq ta u && Nat.beq tb u) (unlikeG it n hp x y) .no
     | _ => .no)
   | _ => .no) .no
 | _ => .no
def fOf (l : List Value) : Nat → Int := fun i => match l[i]? with
 | some (.int _ n) => n
 | _ => 0
theorem num_at {l : List Value} (h : l.all (srt 7) = true) (x : List Value) : NumAt (l ++ x) (fOf l) l.length := fun i hi => by
 rw [List.getElem?_append_left hi]; exact num_cells h i hi
theorem fOf_eq {l l' : List Value} {i : Nat} (h : l[i]? = l'[i]?) : fOf l i = fOf l' i := by unfold fOf; rw [h]
theorem int_cells : Gx.cellsOf Tryz.prog 3 = 1 := by kernel_rfl
theorem gUnlike {m : Mu} : Ent2Ok Tryz.prog m ⟨25, unlikeRes 29 3⟩ := by
 refine ⟨by kernel_rfl, fun args n hp v n' hp' h B e w args' hem hl hw ha => ?_⟩
 replace h : unlikeRes 29 3 args n hp = .ans v n' hp' := h
 unfold unlikeRes at h
 split at h
 rotate_left
 ·cases h
 rename_i a o1 q l1 c1 b o2 q' l2 c2
 rw [zaa] at h
 split at h
 rotate_left
 ·cases h
 rename_i hck
 obtain ⟨h1, h2⟩ := zad hck
 obtain ⟨h2, h3⟩ := zad h2
 have h1 := zae h1
 have h2 := zae h2
 subst h1 h2
 have hab : a ≠ b := by rintro rfl; simp at h3
 split at h
 rotate_left
 ·cases h
 rename_i x ta hga
 split at h
 rotate_left
 ·cases h
 rename_i y tb hgb
 rw [zaa] at h
 split at h
 rotate_left
 ·cases h
 rename_i hty
 obtain ⟨t1, t2⟩ := zad hty
 have t1 := zae t1
 have t2 := zae t2
 subst t1 t2
 cases ha with
 | cons _ a1 _ r1 ha1 hr1 =>
 cases hr1 with
 | cons _ b1 _ r2 hb1 hr2 =>
 cases hr2
 obtain ⟨rfl, ha2, _⟩ := ha1.slGI
 obtain ⟨rfl, hb2, _⟩ := hb1.slGI
 obtain ⟨la, xa, k1, k2, k3, k4, k5, k6, k7⟩ := hw.garr ha2 hga
 obtain ⟨lb, xb, j1, j2, j3, j4, j5, j6, j7⟩ := hw.garr hb2 hgb
 rw [zsU] at k7 j7
 have hne : e.β a ≠ e.β b := fun he => hab (hw.inj a b ha2 hb2 (by rw [hga]; simp) (by rw [hgb]; simp) he)
 have hlt : la.length < 9223372036854775808 := by rw [k3]; exact Nat.mod_lt _ (by decide)
 have hc := fun (q : Nat) (hl : la.length = lb.length) (hd : ∀ i, i < la.length → i ≠ q → fOf la i = fOf lb i) =>
  c_unlike (la ++ xa) (lb ++ xb) (fOf la) (fOf lb) la.length q (e.tot a / 9223372036854775808) (e.tot b / 9223372036854775808) (e.β a) (e.β b) _ _ _ _ w k1 j1 hne hlt (num_at k7 xa) (by rw [hl]; exact num_at j7 xb) hd
 have hnil : ∀ (q : Nat) (hl : la.length = lb.length) (hd : ∀ i, i < la.length → i ≠ q → fOf la i = fOf lb i), ¬ (q < la.length ∧ fOf la q ≠ fOf lb q) → SmR.ans (.slice none 0 0) n hp = .ans v n' hp' →
   Calls Tryz.prog 25 [Value.slice (some ⟨e.β a, 0, none⟩) (e.tot a % 9223372036854775808) (e.tot a / 9223372036854775808), .slice (some ⟨e.β b, 0, none⟩) (e.tot b % 9223372036854775808) (e.tot b / 9223372036854775808)].toArray w fun o w' => ∃ e' v', o = .returned v' ∧ Ext e n e' n' ∧ WR Tryz.prog B e' n' hp' w' ∧ RV e' n' v v' := by
  intro q hl hd hq hv
  cases hv
  rw [← k3, ← j3, ← hl]
  refine (hc q hl hd).mono fun o w' ⟨hB, hr⟩ => ?_
  rcases hr with ⟨_, ho⟩ | ⟨hq2, _⟩
  ·exact ⟨e, _, ho, Ext.refl _ _, hw.same2 (by assumption) hB, .plain _ rfl⟩
  ·exact absurd hq2 hq
 unfold unlikeG at h
 rw [zaa] at h
 split at h
 ·rename_i hxy
  have hxy := veq_eq _ _ _ hxy
  subst hxy
  rw [k2] at j2
  cases j2
  exact hnil la.length rfl (fun _ _ _ => rfl) (by omega) h
 ·split at h
  rotate_left
  ·cases h
  rename_i op nm u i vv c hne0
  rw [zaa] at h
  split at h
  rotate_left
  ·cases h
  rename_i hop
  obtain ⟨p1, p2⟩ := zad hop
  obtain ⟨p2, p3⟩ := zad p2
  have p1 := zae p1
  have p2 := veq_eq _ _ _ p2
  subst p2
  rw [p1, den_any] at k2
  obtain ⟨lu, ki, q, x1, a1, a2, a3, a4, rfl⟩ := put_inv k2
  rw [j2] at a1
  cases a1
  have hi64 := i64S_den p3 a2
  subst hi64
  have hll : (lb.set q x1).length = lb.length := List.length_set
  have hdd : ∀ i, i < (lb.set q x1).length → i ≠ q → fOf (lb.set q x1) i = fOf lb i := fun i _ hi => fOf_eq (by rw [List.getElem?_set_ne (Ne.symm hi)])
  have hx1 : srt 7 x1 = true := by
   refine List.all_eq_true.1 k7 x1 ?_
   exact List.mem_iff_getElem.2 ⟨q, by rw [hll]; exact a4, by simp⟩
  have hlu : lb[q]? = some lb[q] := List.getElem?_eq_getElem a4
  have hgr := getG_run (e := e) (n := n) hw.fk (z := 7) (by decide) a2 (List.all_eq_true.1 j7 _ (List.getElem_mem a4)) 200 j2 hlu
  unfold unlikeP at h
  split at h
  ·rename_i uu hgu
   rw [hgu] at hgr
   rw [zaa] at h
   split at h
   rotate_left
   ·cases h
   rename_i hs7
   obtain ⟨d1, d2⟩ := RV.leaf (show RV e n uu lb[q] from hgr) (hasS_some hs7)
   obtain ⟨xa1, e1, _⟩ := s_int (k := .u64) hx1
   obtain ⟨xb1, e2, _⟩ := s_int (k := .u64) d2
   have fa : fOf (lb.set q x1) q = xa1 := by
    unfold fOf
    rw [List.getElem?_set_self a4, e1]
   have fb : fOf lb q = xb1 := by
    unfold fOf
    rw [hlu, e2]
   have hsame : x1 = lb[q] → ¬ (q < (lb.set q x1).length ∧ fOf (lb.set q x1) q ≠ fOf lb q) := fun he hq => hq.2 (by
    rw [fa, fb]
    rw [e1, e2] at he
    cases he; rfl)
   rw [zaa] at h
   split at h
   ·rename_i hv
    have hv := veq_eq _ _ _ hv
    rw [hv, d1] at a3
    exact hnil q hll hdd (hsame (Option.some.inj a3).symm) h
   ·split at h
    rotate_left
    ·cases h
    rename_i bb hbb
    have hdb := hw.fk _ _ hbb
    rw [show sy (opc 16 8) [vv, uu] = .func (.methodOf 264 "") ⟨[vv, uu]⟩ #[] from rfl, zat (by decide) a3 d1] at hdb
    rw [zaa] at h
    split at h
    ·rename_i hbt
     subst hbt
     exact hnil q hll hdd (hsame (leaf_eq (itp_eq hdb))) h
    ·rename_i hbf
     have hbf : bb = false := by simpa using hbf
     subst hbf
     rw [zaa] at h
     split at h
     rotate_left
     ·cases h
     rename_i hn
     have hn := blt_lt hn
     cases h
     have hdb2 := itp_eq hdb
     rw [e1, e2, zaq _ _ _ rfl] at hdb2
     have hdb2 : some (Value.bool (xa1 == xb1)) = some (.bool false) := hdb2
     have hneq : xa1 ≠ xb1 := by simpa using hdb2
     rw [← k3, ← j3, ← hll]
     refine (hc q hll hdd).mono fun o w' ⟨hB, hr⟩ => ?_
     rcases hr with ⟨hq, _⟩ | ⟨_, bn, cap, cur, g1, g2, g3, g4, g5, g6, g7⟩
     ·exact absurd ⟨by rw [hll]; exact a4, by rw [fa, fb]; exact hneq⟩ hq
     ·have hcur : cur = [Value.int .i64 q] ++ cur.drop 1 := by rw [← g7, List.take_append_drop]
      refine ⟨e.add n bn cap, _, g2, e.ext n _ _, hw.made hn hB g1 g3 ?_, ?_⟩
      ·rw [hcur]
       refine RO.grown (P := Tryz.prog) [i] [Value.int .i64 q] (cur.drop 1) 3 (.cons _ _ _ _ (RV.ofDenV (z := 3) a2 ?_) .nil) ?_
       ·have : q < 9223372036854775808 := by omega
        exact i64S (by omega)
       ·rw [← hcur, Env.add_tot, int_cells, g4]; omega
      ·have := RV.sliceU (e := e.add n bn cap) (n := n + 1) n 1 (by omega) (by rw [Env.add_tot]; exact g5)
       rw [Env.add_β, Env.add_tot] at this
       exact this
  ·cases h
  ·cases h
end Go.Proofs.YtflipopanpdcnadGreat
