/- Contracts of arenas' words as entries: the words at the start; lists that are one. -/
import Derived.Test.YteglommbdpaokaaGreatR1
import Derived.Test.YteglommbdpaokaaGreatGzSub
set_option linter.unusedSimpArgs false
set_option linter.unusedVariables false
namespace Go.Proofs.YteglommbdpaokaaGreat
open Go Go.Gz Go.RowKit
noncomputable def askAll (hp : Hp) (y : SmR) : List Value → SmR
 | [] => y
 | c :: l => match decH hp c with
   | some b => cnd b (askAll hp y l) .no
   | none => .ask c
theorem askAll_ans {hp : Hp} {y : SmR} {v : Value} {n : Nat} {hp' : Hp} : ∀ {l : List Value}, askAll hp y l = .ans v n hp' → (∀ c ∈ l, decH hp c = some true) ∧ y = .ans v n hp'
 | [], h => ⟨fun c hc => by simp at hc, h⟩
 | c :: l, h => by
   unfold askAll at h
   split at h
   ·rename_i b hb
    rw [zaa] at h
    split at h
    ·rename_i hbt
     subst hbt
     obtain ⟨h1, h2⟩ := askAll_ans h
     refine ⟨fun x hx => ?_, h2⟩
     rcases List.mem_cons.1 hx with hx | hx
     ·rw [hx]; exact hb
     ·exact h1 x hx
    ·cases h
   ·cases h
noncomputable def sizeT (T S : Value) : Value := sy 19 [sy 19 [.int .i64 3, sy 51 [.int .i64 2, T]], sy 51 [.int .i64 2, S]]
noncomputable def baseT (T S : Value) : Value := sy 19 [sy 19 [.int .i64 3, sy 51 [.int .i64 2, T]], sy 51 [.int .i64 0, S]]
noncomputable def stT (T S sl : Value) : Value := sy 861 [sy 829 [sy 845 [sizeT T S, .int .u64 0], .int .i64 1, sy 66103 [S, sl]], baseT T S, sy 66093 [T, S, sl]]
noncomputable def startRes (u : TypeId) (args : List Value) (n : Nat) (hp : Hp) : SmR :=
 match args with
 | [.agg ⟨[T, S, sl]⟩] => cnd (Nat.blt n 32767 && (hasS 3 T && (hasS 3 S && hasS 11 sl))) (askAll hp (.ans (.slice (some ⟨n, 0, some 7⟩) 0 CAPU) (Nat.succ n) (hp.set n (.garr (stT T S sl) u))) [sy 65560 [T, S, sl], sy 65544 [sl], sy 80008 [sl]]) .no
 | _ => .no
noncomputable def equalRes (u : TypeId) (args : List Value) (n : Nat) (hp : Hp) : SmR :=
 match args with
 | [.slice (some ⟨a, _, some q⟩) _ _, .slice (some ⟨b, _, some q'⟩) _ _] => cnd (Nat.beq q 7 && (Nat.beq q' 7 && !(Nat.beq a b))) (match hp.get a with
   | .garr x ta => (match hp.get b with
     | .garr y tb => cnd (Nat.beq ta u && Nat.beq tb u) (match eqPut hp 200 x y with
       | .yes => .ans (.bool true) n hp
       | .ask c => .ask c
       | .no => .no) .no
     | _ => .no)
   | _ => .no) .no
 | _ => .no
theorem num_cells {l : List Value} (h : l.all (srt 7) = true) : NumAt l (fun i => match l[i]? with
  | some (.int _ n) => n
  | _ => 0) l.length := by
 intro i hi
 have h1 : l[i]? = some l[i] := List.getElem?_eq_getElem hi
 have h2 := List.all_eq_true.1 h _ (List.getElem_mem hi)
 obtain ⟨n, hn, _⟩ := s_int (k := .u64) h2
 simp only [h1, hn]
theorem zsU : zsT Tryz.prog 28 = 7 := by kernel_rfl
theorem gEqual {m : Mu} : Ent2Ok Tryz.prog m ⟨35, equalRes 28⟩ := by
 refine ⟨by kernel_rfl, fun args n hp v n' hp' h B e w args' hem hl hw ha => ?_⟩
 replace h : equalRes 28 args n hp = .ans v n' hp' := h
 unfold equalRes at h
 split at h
 ·rename_i a o1 q l1 c1 b o2 q' l2 c2
  rw [zaa] at h
  split at h
  ·rename_i hck
   obtain ⟨h1, h2⟩ := zac hck
   obtain ⟨h2, h3⟩ := zac h2
   have h1 := zad h1
   have h2 := zad h2
   subst h1 h2
   have hab : a ≠ b := by rintro rfl; simp at h3
   split at h
   ·rename_i x ta hga
    split at h
    ·rename_i y tb hgb
     rw [zaa] at h
     split at h
     ·rename_i hty
      obtain ⟨t1, t2⟩ := zac hty
      have t1 := zad t1
      have t2 := zad t2
      subst t1 t2
      split at h
      ·rename_i hye
       cases h
       cases ha with
       | cons _ a1 _ r1 ha1 hr1 =>
       cases hr1 with
       | cons _ b1 _ r2 hb1 hr2 =>
       cases hr2
       obtain ⟨rfl, ha2, _⟩ := ha1.slGI
       obtain ⟨rfl, hb2, _⟩ := hb1.slGI
       obtain ⟨la, xa, k1, k2, k3, k4, k5, k6, k7⟩ := hw.garr ha2 hga
       obtain ⟨lb, xb, j1, j2, j3, j4, j5, j6, j7⟩ := hw.garr hb2 hgb
       have heq := eqPut_ok hw.fk 200 hye k2 j2
       subst heq
       rw [zsU] at k7
       have hne : e.β a ≠ e.β b := fun he => hab (hw.inj a b ha2 hb2 (by rw [hga]; simp) (by rw [hgb]; simp) he)
       have hlt : la.length < 9223372036854775808 := by rw [k3]; exact Nat.mod_lt _ (by decide)
       have hna : ∀ z, NumAt (la ++ z) (fun i => match la[i]? with
         | some (.int _ n) => n
         | _ => 0) la.length := fun z i hi => by
        rw [List.getElem?_append_left hi]; exact num_cells k7 i hi
       have hc := c_equal (la ++ xa) (la ++ xb) _ _ la.length la.length (e.tot a / 9223372036854775808) (e.tot b / 9223372036854775808) (e.β a) (e.β b) _ _ _ _ w k1 j1 hne hlt (hna xa) (hna xb)
       rw [eqB_all fun _ _ => rfl] at hc
       rw [← k3, ← j3]
       exact hc.mono fun o w' ⟨ho, hb⟩ => ⟨e, .bool true, ho, Ext.refl _ _, hw.same2 hl hb, .plain _ rfl⟩
      ·cases h
      ·cases h
     ·cases h
    ·cases h
   ·cases h
  ·cases h
 ·cases h
theorem st_den {m : Mu} (hm : Glob m) {T S sl : Value} {t z : Int} {p : Option Addr} {k c : Nat} (hT : den m T = some (.int .i64 t)) (hS : den m S = some (.int .i64 z)) (hsl : den m sl = some (.slice p k c))
  (hp : 1 ≤ t ∧ t ≤ 8 ∧ 32 ≤ z ∧ z ≤ 4096) {s : ByteArray} (hs : firstT m.K p k = s) (hss : s.size ≤ 20) : den m (stT T S sl) = some (.agg ⟨stCells t z s s.size⟩) := by
 have a1 : den m (sy 51 [.int .i64 2, T]) = some (.int .i64 (2 * t)) := arith_den (c := #[]) (nm := "") (o := .mul) rfl (.inr (.inr rfl)) (by rw [den]) hT (r := 2 * t) (by simp [zao]) (by omega) (by omega)
 have a2 : den m (sy 19 [.int .i64 3, sy 51 [.int .i64 2, T]]) = some (.int .i64 (3 + 2 * t)) := arith_den (c := #[]) (nm := "") (o := .add) rfl (.inl rfl) (by rw [den]) a1 (r := 3 + 2 * t) (by simp [zao]) (by omega) (by omega)
 have a3 : den m (sy 51 [.int .i64 2, S]) = some (.int .i64 (2 * z)) := arith_den (c := #[]) (nm := "") (o := .mul) rfl (.inr (.inr rfl)) (by rw [den]) hS (r := 2 * z) (by simp [zao]) (by omega) (by omega)
 have a4 : den m (sizeT T S) = some (.int .i64 (3 + 2 * t + 2 * z)) := arith_den (c := #[]) (nm := "") (o := .add) rfl (.inl rfl) a2 a3 (r := 3 + 2 * t + 2 * z) (by simp [zao]) (by omega) (by omega)
 have a5 : den m (sy 51 [.int .i64 0, S]) = some (.int .i64 0) := arith_den (c := #[]) (nm := "") (o := .mul) rfl (.inr (.inr rfl)) (by rw [den]) hS (r := 0) (by simp [zao]) (by omega) (by omega)
 have a6 : den m (baseT T S) = some (.int .i64 (3 + 2 * t)) := arith_den (c := #[]) (nm := "") (o := .add) rfl (.inl rfl) a2 a5 (r := 3 + 2 * t) (by simp [zao]) (by omega) (by omega)
 obtain ⟨N, hN⟩ : ∃ N : Nat, N = (3 + 2 * t + 2 * z).toNat := ⟨_, rfl⟩
 obtain ⟨b, hb⟩ : ∃ b : Nat, b = (3 + 2 * t).toNat := ⟨_, rfl⟩
 have eN : (3 + 2 * t + 2 * z) = (N : Int) := by omega
 have eb : (3 + 2 * t) = (b : Int) := by omega
 rw [eN] at a4
 rw [eb] at a6
 have b1 : den m (sy 845 [sizeT T S, .int .u64 0]) = some (.agg ⟨List.replicate N (.int .u64 0)⟩) := by
  refine den_syA (c := 52) (s := 13) (by decide) (by decide) (denL2 a4 (y' := .int .u64 0) (by rw [den])) ?_ rfl
  show noughtI (.int .i64 N) (.int .u64 0) = _
  unfold noughtI
  show (if (0 : Int) ≤ (N : Nat) then some (Value.agg ⟨List.replicate (Int.toNat (N : Nat)) (.int .u64 0)⟩) else none) = _
  rw [if_pos (by omega), Int.toNat_natCast]
 have f0 : 0 ≤ 2 * (2 + (s.size : Int)) + 16384 * z ∧ 2 * (2 + (s.size : Int)) + 16384 * z ≤ 18446744073709551615 := by omega
 have b2 : den m (sy 66103 [S, sl]) = some (.int .u64 (2 * (2 + s.size) + 16384 * z)) := by
  have := zau (m := m) (c := #[]) (nm := "") (op := 66103) (by decide) hS hsl
  rw [show sy 66103 [S, sl] = .func (.methodOf 66103 "") ⟨[S, sl]⟩ #[] from rfl, this]
  refine code_val hm (by decide) (by decide) (u64S f0) ?_
  show Value.int .u64 (IntKind.wrap .u64 (2 * (2 + (firstT m.K p k).size) + 16384 * z)) = _
  rw [hs, Gx.wrap_u _ f0]
 have b3 : den m (sy 66093 [T, S, sl]) = some (.agg ⟨(stCells t z s s.size).drop b⟩) := by
  have := den_3 (m := m) (c := #[]) (nm := "") (op := 66093) (by decide) hT hS hsl
  rw [show sy 66093 [T, S, sl] = .func (.methodOf 66093 "") ⟨[T, S, sl]⟩ #[] from rfl, this]
  refine code_val hm (by decide) (by decide) rfl ?_
  show Value.agg ⟨(stCells t z (firstT m.K p k) (firstT m.K p k).size).drop (3 + 2 * t).toNat⟩ = _
  rw [hs, hb]
 have b4 : den m (sy 829 [sy 845 [sizeT T S, .int .u64 0], .int .i64 1, sy 66103 [S, sl]]) = some (.agg ⟨(List.replicate N (.int .u64 0)).set 1 (.int .u64 (2 * (2 + s.size) + 16384 * z))⟩) := by
  refine den_syA (c := 51) (s := 13) (by decide) (by decide) (denL3 b1 (y' := .int .i64 1) (by rw [den]) b2) ?_ rfl
  show (if (0 : Int) ≤ 1 ∧ Int.toNat 1 < (List.replicate N (Value.int .u64 0)).length then _ else none) = _
  rw [if_pos ⟨by decide, by rw [List.length_replicate]; show 1 < N; omega⟩]
  simp
 refine den_syA (c := 53) (s := 13) (by decide) (by decide) (denL3 b4 a6 b3) ?_ rfl
 have hlen : ((List.replicate N (Value.int .u64 0)).set 1 (.int .u64 (2 * (2 + s.size) + 16384 * z))).length = N := by simp
 have hst : (stCells t z s s.size).length = N := by rw [stCells_length, hN]
 show (if (0 : Int) ≤ (b : Nat) ∧ Int.toNat (b : Nat) ≤ ((List.replicate N (Value.int .u64 0)).set 1 (.int .u64 (2 * (2 + s.size) + 16384 * z))).length then _ else none) = _
 rw [if_pos ⟨by omega, by rw [hlen]; omega⟩]
 congr 3
 simp only [Int.toNat_natCast]
 have hz : ((List.replicate N (Value.int .u64 0)).set 1 (.int .u64 (2 * (2 + s.size) + 16384 * z))).drop (b + ((stCells t z s s.size).drop b).length) = [] := List.drop_eq_nil_of_le (by rw [hlen, List.length_drop, hst]; omega)
 have ht : ((stCells t z s s.size).drop b).take (N - b) = (stCells t z s s.size).drop b := List.take_of_length_le (by rw [List.length_drop, hst]; omega)
 rw [hz, List.append_nil, hlen, ht]
 have : ((List.replicate N (Value.int .u64 0)).set 1 (.int .u64 (2 * (2 + s.size) + 16384 * z))).take b = (stCells t z s s.size).take b := by
  apply List.ext_getElem?
  intro q
  rw [List.getElem?_take, List.getElem?_take]
  split
  ·rename_i hq
   have hqN : q < N := by omega
   simp only [stCells, List.getElem?_map]
   rw [← hN, List.getElem?_range hqN, Option.map_some]
   unfold stAt
   by_cases h1 : q = 1
   ·subst h1
    rw [List.getElem?_set_self (by rw [List.length_replicate]; exact hqN), if_pos (by decide)]
   ·rw [List.getElem?_set_ne (by omega), List.getElem?_replicate, if_pos hqN, if_neg (by omega), if_neg (by omega), if_neg (by omega)]
  ·rfl
 rw [this, List.take_append_drop]
theorem gStart {m : Mu} (hm : Glob m) : Ent2Ok Tryz.prog m ⟨7, startRes 28⟩ := by
 refine ⟨by kernel_rfl, fun args n hp v n' hp' h B e w args' hem hl hw ha => ?_⟩
 replace h : startRes 28 args n hp = .ans v n' hp' := h
 unfold startRes at h
 split at h
 ·rename_i T S sl
  rw [zaa] at h
  split at h
  ·rename_i hck
   obtain ⟨c1, hck⟩ := zac hck
   obtain ⟨c2, hck⟩ := zac hck
   obtain ⟨c3, c4⟩ := zac hck
   have hn := blt_lt c1
   obtain ⟨hf, hy⟩ := askAll_ans h
   cases hy
   cases ha with
   | cons _ a1 _ r1 ha1 hr1 =>
   cases hr1
   obtain ⟨a', rfl, har⟩ := ha1.aggI
   obtain ⟨a'⟩ := a'
   cases har with
   | cons _ vT _ r2 hvT hr2 =>
   cases hr2 with
   | cons _ vS _ r3 hvS hr3 =>
   cases hr3 with
   | cons _ vsl _ r4 hvsl hr4 =>
   cases hr4
   obtain ⟨dT, sT⟩ := hvT.leaf (hasS_some c2)
   obtain ⟨dS, sS⟩ := hvS.leaf (hasS_some c3)
   obtain ⟨dL, sL⟩ := hvsl.leaf (hasS_some c4)
   obtain ⟨t, rfl, _⟩ := s_int (k := .i64) sT
   obtain ⟨z, rfl, _⟩ := s_int (k := .i64) sS
   obtain ⟨p, k, c, rfl, _⟩ := srt_slice sL
   subst hem
   have f1 := hw.fk _ _ (hf (sy 65560 [T, S, sl]) (by simp))
   have f2 := hw.fk _ _ (hf (sy 65544 [sl]) (by simp))
   have f3 := hw.fk _ _ (hf (sy 80008 [sl]) (by simp))
   rw [show sy 65560 [T, S, sl] = .func (.methodOf 65560 "") ⟨[T, S, sl]⟩ #[] from rfl, den_3 (by decide) dT dS dL] at f1
   rw [show sy 65544 [sl] = .func (.methodOf 65544 "") ⟨[sl]⟩ #[] from rfl, den_1 (by decide) dL] at f2
   rw [show sy 80008 [sl] = .func (.methodOf 80008 "") ⟨[sl]⟩ #[] from rfl, den_1 (by decide) dL] at f3
   have ho : okPlan t z (tl e.m.K p k) = true := code_bool hm f1 (by decide) (by decide) rfl rfl
   have hfw : fewB (tl e.m.K p k) = true := code_bool hm f2 (by decide) (by decide) rfl rfl
   have hsh := shp_of hm hw.kp f3
   have hb := okPlan_b ho
   have hpb : 1 ≤ t ∧ t ≤ 8 ∧ 32 ≤ z ∧ z ≤ 4096 := by omega
   have hL : 0 < (tl e.m.K p k).length := by
    simp only [okPlan, Bool.and_eq_true] at ho
    have := okShapes_len ho.2; omega
   have hs0 : (tl e.m.K p k)[0]? = some (firstT e.m.K p k) := by
    unfold firstT
    generalize tl e.m.K p k = l at hL
    cases l with
    | nil => simp at hL
    | cons a l => rfl
   have hss : (firstT e.m.K p k).size ≤ 20 := by
    simp only [fewB, Bool.and_eq_true] at hfw
    have := List.all_eq_true.1 hfw.2 _ (List.mem_of_getElem? hs0)
    simpa using this
   have hc := c_start t z (tl e.m.K p k) p k c w hsh ho _ hs0 hss
   have hden := st_den hm dT dS dL hpb rfl hss
   have hlen := stCells_length t z (firstT e.m.K p k) (firstT e.m.K p k).size
   obtain ⟨N, hN⟩ : ∃ N : Nat, N = (3 + 2 * t + 2 * z).toNat := ⟨_, rfl⟩
   rw [← hN] at hc hlen
   refine hc.mono fun x w' ⟨b, g1, g2, g3, g4⟩ => ?_
   refine ⟨e.add n b (9223372036854775808 * N + N), _, g2, e.ext n _ _, hw.made hn g3 g1 g4 ?_, ?_⟩
   ·have h2 := RO.garr (P := Tryz.prog) (e := e.add n b (9223372036854775808 * N + N)) (n := n + 1) (j := n) (stT T S sl) (stCells t z (firstT e.m.K p k) (firstT e.m.K p k).size) [] 28 hden
      (by rw [Env.add_tot, hlen]; omega) (by rw [Env.add_tot, List.append_nil, hlen]; omega) (by kernel_rfl)
      (List.all_eq_true.2 fun v hv => by
       simp only [stCells, List.mem_map] at hv
       obtain ⟨q, _, rfl⟩ := hv; rfl)
      (List.all_eq_true.2 fun v hv => by
       simp only [stCells, List.mem_map] at hv
       obtain ⟨q, _, rfl⟩ := hv
       rw [zsU]
       refine u64S ?_
       unfold stAt
       split
       ·omega
       ·split
        ·decide
        ·split <;> decide)
    rw [List.append_nil] at h2
    exact h2
   ·have := RV.sliceG (e := e.add n b (9223372036854775808 * N + N)) (n := n + 1) n (by omega)
    rw [Env.add_β, Env.add_tot] at this
    rw [show (9223372036854775808 * N + N) % 9223372036854775808 = N by omega, show (9223372036854775808 * N + N) / 9223372036854775808 = N by omega] at this
    exact this
  ·cases h
 ·cases h
end Go.Proofs.YteglommbdpaokaaGreat
