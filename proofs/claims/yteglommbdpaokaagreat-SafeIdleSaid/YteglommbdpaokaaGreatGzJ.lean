/- The evaluator that the kernel runs: one operation, part 5: slices of slices; calls. -/
import Derived.Test.YteglommbdpaokaaGreatGzI
namespace Go.Gz
open Go Go.Gx Go.RowKit
section
variable {P : Program} (hP : Small P) {B : Base} {e : Env} {n : Nat} {hp : Hp} {w : World} {tm : Tm} {fr : List Value} {o : Oper}
def Bd (x : Option Value) (d r y : Nat) : Prop := match x with
 | none => r = d
 | some v => (∃ k, v = .int k r) ∧ r ≤ y
theorem bnd_bd {x : Option Operand} {d r y : Nat} (hx : ∀ q, x = some q → RV e n (ev tm q) (evx fr q)) (h : bnd (x.map (ev tm)) d y = some r) : Bd (x.map (evx fr)) d r y := by
 cases x with
 | none => simp only [Option.map_none, bnd, Option.some.injEq] at h; exact h.symm
 | some q =>
   have hq := hx q rfl
   simp only [Option.map_some] at h ⊢
   generalize ev tm q = u at h hq
   unfold bnd at h
   split at h
   ·rename_i heq; cases heq
   ·rename_i k v heq
    cases heq
    obtain ⟨rfl, hle⟩ := natLe_some h
    exact ⟨⟨k, hq.intI⟩, hle⟩
   ·cases h
theorem sliceBound_run {k : IntKind} {r y : Nat} {c : BoundsCode} (h : r ≤ y) : (Instr.sliceBound (.int k r) y c).run P w = .ok r w := by
 simp only [Instr.sliceBound, Sem.run_bind, asIntOf, Sem.run_pure, Result.andThen_ok]
 rw [if_pos (by omega)]
 simp
theorem sliceBounds_run {b : Bool} {len cap l h m : Nat} {lo hi mx : Option Value} (h1 : Bd mx cap m cap) (h2 : Bd hi len h m) (h3 : Bd lo 0 l h) (h4 : mx.isSome = true → hi.isSome = true) : (Instr.sliceBounds b len cap lo hi mx).run P w = .ok (l, h, m) w := by
 cases mx with
 | none =>
   have h1 : m = cap := h1
   subst h1
   cases hi with
   | none =>
     have h2 : h = len := h2
     subst h2
     cases lo with
     | none => have h3 : l = 0 := h3; subst h3; simp [Instr.sliceBounds]
     | some v => obtain ⟨⟨k, rfl⟩, hle⟩ := h3; simp [Instr.sliceBounds, sliceBound_run hle]
   | some u =>
     obtain ⟨⟨k2, rfl⟩, hle2⟩ := h2
     cases lo with
     | none => have h3 : l = 0 := h3; subst h3; simp [Instr.sliceBounds, sliceBound_run hle2]
     | some v => obtain ⟨⟨k, rfl⟩, hle⟩ := h3; simp [Instr.sliceBounds, sliceBound_run hle, sliceBound_run hle2]
 | some x =>
   obtain ⟨⟨k1, rfl⟩, hle1⟩ := h1
   cases hi with
   | none => simp at h4
   | some u =>
     obtain ⟨⟨k2, rfl⟩, hle2⟩ := h2
     cases lo with
     | none => have h3 : l = 0 := h3; subst h3; simp [Instr.sliceBounds, sliceBound_run hle2, sliceBound_run hle1]
     | some v => obtain ⟨⟨k, rfl⟩, hle⟩ := h3; simp [Instr.sliceBounds, sliceBound_run hle, sliceBound_run hle2, sliceBound_run hle1]
def AdR (e : Env) (n : Nat) (a a' : Option Addr) : Prop := (a = none ∧ a' = none) ∨ ∃ b off, a = some ⟨b, off, none⟩ ∧ a' = some ⟨e.β b, off, none⟩ ∧ b < n
theorem slExact_rel {el len m : Nat} {a a' : Option Addr} {lo hi : Option Operand} {v : Value} (ha : AdR e n a a') (hlo : ∀ q, lo = some q → RV e n (ev tm q) (evx fr q)) (hhi : ∀ q, hi = some q → RV e n (ev tm q) (evx fr q))
  (h : slExact el a len m (lo.map (ev tm)) (hi.map (ev tm)) = some v) :
  ∃ l h, Bd (hi.map (evx fr)) len h m ∧ Bd (lo.map (evx fr)) 0 l h ∧ RV e n v (.slice (if m = l then a' else a'.map (·.add (l * el))) (h - l) (m - l)) := by
 unfold slExact at h
 split at h
 ·cases h
 ·rename_i hh hhh
  split at h
  ·cases h
  ·rename_i l hll
   refine ⟨l, hh, bnd_bd hhi hhh, bnd_bd hlo hll, ?_⟩
   rcases ha with ⟨rfl, rfl⟩ | ⟨b, off, rfl, rfl, hb⟩
   ·simp only [Option.some.injEq] at h
    subst h
    have : (if m = l then (none : Option Addr) else Option.map (fun x : Addr => x.add (l * el)) none) = none := by split <;> rfl
    rw [this]
    exact .plain _ rfl
   ·simp only [zaa] at h
    split at h
    ·rename_i hc
     have hc := blt_lt hc
     cases h
     by_cases hm : m = l
     ·subst hm
      simp only [if_true]
      have : Nat.beq m m = true := by simp
      rw [if_pos this]
      exact .slice _ _ _ _ hb hc
     ·have : ¬ Nat.beq m l = true := fun h => hm (zad h)
      rw [if_neg this, if_neg hm]
      simp only [Option.map_some, add_none]
      exact .slice _ _ _ _ hb hc
    ·cases h
include hP
theorem s_slice {t : TypeId} {x : Operand} {lo hi mx : Option Operand} (hw : WR P B e n hp w) (ho : o.op = .slice t x lo hi mx) (hx : RV e n (ev tm x) (evx fr x)) (hlo : ∀ q, lo = some q → RV e n (ev tm q) (evx fr q)) (hhi : ∀ q, hi = some q → RV e n (ev tm q) (evx fr q)) (hmx : ∀ q, mx = some q → RV e n (ev tm q) (evx fr q)) :
  OpS P B e n w (aSlice t x lo hi mx P tm n hp) ((execOp (evx fr) o).run P w) := by
 unfold aSlice
 rw [zaa]
 split
 ·rename_i hG
  split
  ·rename_i sz ag z kd hti
   obtain ⟨i, d, zz, hi1, hd, hz, _, _, _, hk⟩ := zai (zam hP hti)
   cases kd with
   | sl el et =>
     simp only at hk
     obtain ⟨rfl, hel, hall⟩ := hk
     obtain ⟨i2, hi2⟩ := Option.isSome_iff_exists.1 hall
     have hc : el = i2.size := by rw [hel]; simp [cellsOf, hi2]
     show OpS P B e n w (cnd (Nat.beq el 1) _ .bad) _
     rw [zaa]
     split
     ·rename_i he1
      have he1 := zad he1
      subst he1
      split
      ·rename_i l
       obtain ⟨b, off, len, cap, hxe⟩ := isG_some hG
       rw [hxe] at hx ⊢
       obtain ⟨hx', hb, _⟩ := hx.slGI
       show OpS P B e n w (sliceLoG hp b (ev tm l)) _
       unfold sliceLoG
       split
       ·rename_i v ty hg
        obtain ⟨ll, y, hcc, hden, hlen, htot, hce, hone, hzs⟩ := hw.garr hb hg
        rw [zaa]
        split
        ·rename_i hi3
         have hl63 : ll.length < 9223372036854775808 := by rw [hlen]; exact Nat.mod_lt _ (by decide)
         have hL := lenGT_den 200 hden hl63
         have hll : ll.length ≤ (ll ++ y).length := by simp
         refine inGe_run hw.fk (hlo l rfl) hi3 hL fun q hlq hq hdl => ?_
         have hr : (execOp (evx fr) o).run P w = .ok (.value (.slice (if e.tot b / 9223372036854775808 = q then some ⟨e.β b, 0, none⟩ else (some (⟨e.β b, 0, none⟩ : Addr)).map (·.add (q * 1))) (e.tot b % 9223372036854775808 - q) (e.tot b / 9223372036854775808 - q))) w := by
          have b1 : Bd (none : Option Value) (e.tot b / 9223372036854775808) (e.tot b / 9223372036854775808) (e.tot b / 9223372036854775808) := rfl
          have b2 : Bd (none : Option Value) (e.tot b % 9223372036854775808) (e.tot b % 9223372036854775808) (e.tot b / 9223372036854775808) := rfl
          have b3 : Bd (some (Value.int .i64 q)) 0 q (e.tot b % 9223372036854775808) := ⟨⟨_, rfl⟩, by omega⟩
          simp only [execOp, ho, Instr.sliceAt, Sem.run_bind, run_underlying hd, Result.andThen_ok, Instr.slice, hx', Option.map_some, Option.map_none, hlq, sliceBounds_run b1 b2 b3 (by simp), zar hi2, Sem.run_pure, ← hc]
         refine ⟨_, hr, ?_⟩
         have := RV.partG (e := e) (n := n) b q (ev tm l) hb hdl (by omega)
         have e2 : (if e.tot b / 9223372036854775808 = q then some (⟨e.β b, 0, none⟩ : Addr) else (some (⟨e.β b, 0, none⟩ : Addr)).map (·.add (q * 1))) = some ⟨e.β b, if e.tot b / 9223372036854775808 = q then 0 else q, none⟩ := by
          split
          ·rfl
          ·simp [add_none]
         rw [e2]
         exact this
        ·exact trivial
       ·exact trivial
      ·exact trivial
     ·exact trivial
   | _ => exact trivial
  ·exact trivial
 cases h : slicex P t (ev tm x) (lo.map (ev tm)) (hi.map (ev tm)) (mx.map (ev tm)) with
 | none => trivial
 | some v =>
   unfold slicex at h
   split at h
   ·rename_i sz ag z kd hti
    obtain ⟨i, d, zz, hi1, hd, hz, _, _, _, hk⟩ := zai (zam hP hti)
    cases kd with
    | sl el et =>
      simp only at h hk
      obtain ⟨rfl, hel, hall⟩ := hk
      obtain ⟨i2, hi2⟩ := Option.isSome_iff_exists.1 hall
      have hc : el = i2.size := by rw [hel]; simp [cellsOf, hi2]
      split at h
      ·rename_i a len cap hev
       rw [hev] at hx
       rw [zaa] at h
       split at h
       rotate_left
       ·cases h
       rename_i hadok
       have hfin : ∀ len' cap' a' l h m, evx fr x = .slice a' len' cap' → Bd (mx.map (evx fr)) cap' m cap' → Bd (hi.map (evx fr)) len' h m → Bd (lo.map (evx fr)) 0 l h → ((mx.map (evx fr)).isSome = true → (hi.map (evx fr)).isSome = true) →
         (execOp (evx fr) o).run P w = .ok (.value (.slice (if m = l then a' else a'.map (·.add (l * el))) (h - l) (m - l))) w := by
        intro len' cap' a' l h m hxe b1 b2 b3 b4
        simp only [execOp, ho, Instr.sliceAt, Sem.run_bind, run_underlying hd, Result.andThen_ok, Instr.slice, hxe, sliceBounds_run b1 b2 b3 b4, zar hi2, Sem.run_pure, hc]
       have hA : ∃ a' cap', evx fr x = .slice a' len cap' ∧ AdR e n a a' ∧ ((cap < CAPU ∧ cap' = cap) ∨ (a = none ∧ cap' = cap) ∨ (CAPU ≤ cap ∧ len ≤ cap' ∧ ∃ b off, a = some ⟨b, off, none⟩ ∧ b < n ∧ (cap = CAPU → off = 0 → cap' = e.tot b))) := by
        cases a with
        | none => exact ⟨none, cap, hx.slN, .inl ⟨rfl, rfl⟩, .inr (.inl ⟨rfl, rfl⟩)⟩
        | some ad =>
          obtain ⟨j, off, sp⟩ := ad
          cases sp with
          | some sp => cases hadok
          | none =>
          obtain ⟨hj, cap', h1, h2⟩ := hx.slI
          refine ⟨_, cap', h1, .inr ⟨j, off, rfl, rfl, hj⟩, ?_⟩
          rcases h2 with ⟨h2, rfl⟩ | ⟨rfl, rfl, rfl, h3⟩ | ⟨rfl, h3⟩
          ·exact .inl ⟨h2, rfl⟩
          ·exact .inr (.inr ⟨Nat.le_refl _, h3, j, _, rfl, hj, fun _ _ => rfl⟩)
          ·exact .inr (.inr ⟨by unfold CAPU CAPV; omega, h3, j, _, rfl, hj, fun h => by unfold CAPU CAPV at h; omega⟩)
       obtain ⟨a', cap', hxe, hA, hcap⟩ := hA
       unfold slSlice at h
       split at h
       ·rename_i hmn
        have hmn' : mx = none := by cases mx with
         | none => rfl
         | some q => simp at hmn
        subst hmn'
        rw [zaa] at h
        split at h
        ·rename_i hcu
         have hcu := zaw hcu
         unfold slUnk at h
         split at h
         ·cases h
         ·rename_i hh hhh
          split at h
          ·rename_i l hl
           split at h
           ·rename_i b off
            rcases hcap with ⟨h1, _⟩ | ⟨h1, _⟩ | ⟨_, hlen, b2, off2, h1, h3, h2⟩
            ·omega
            ·cases h1
            ·cases h1
             rcases hA with ⟨h4, _⟩ | ⟨b3, off3, h4, h5, _⟩
             ·cases h4
             ·cases h4
              have hb2 := bnd_bd hhi hhh
              have hb3 := bnd_bd hlo hl
              have hle : Bd (hi.map (evx fr)) len hh cap' := by
               cases hi with
               | none => exact hb2
               | some q => exact ⟨hb2.1, Nat.le_trans hb2.2 hlen⟩
              have hh2 : hh ≤ len := by
               cases hi with
               | none => have : hh = len := hb2; omega
               | some q => exact hb2.2
              have hl2 : l ≤ hh := by
               cases lo with
               | none => have : l = 0 := hb3; omega
               | some q => exact hb3.2
              have hr := hfin len cap' a' l hh cap' hxe rfl hle hb3 (by simp)
              rw [zaa] at h
              split at h
              ·rename_i hck
               obtain ⟨hl0, hck⟩ := zac hck
               obtain ⟨hcu2, hoff⟩ := zac hck
               have := zad hl0
               subst this
               have := zad hoff
               subst this
               have hct := h2 (zad hcu2) rfl
               cases h
               refine ⟨_, hr, ?_⟩
               have e1 : (if cap' = 0 then a' else a'.map (·.add (0 * el))) = a' := by
                split
                ·rfl
                ·rw [h5]; simp [add_none]
               rw [e1, h5, Nat.sub_zero, Nat.sub_zero, hct]
               refine .sliceU _ _ h3 ?_
               omega
              ·rw [zaa] at h
               split at h
               ·rename_i hlt
                have hlt := blt_lt hlt
                cases h
                refine ⟨_, hr, ?_⟩
                rw [if_neg (by omega), h5]
                simp only [Option.map_some, add_none]
                exact .sliceV _ _ _ _ h3 (by omega)
               ·rename_i hlt
                have hlt : ¬ l < len := fun h => hlt (by simpa using h)
                cases h
                refine ⟨_, hr, ?_⟩
                have e1 : hh - l = 0 := by omega
                rw [e1, h5]
                split
                ·exact .sliceZ _ _
                ·exact .sliceZ _ _
           ·cases h
          ·cases h
        ·rename_i hcu
         have hcu : ¬ CAPU ≤ cap := fun h => hcu (by simpa using h)
         have hcc : cap' = cap := by
          rcases hcap with ⟨_, h1⟩ | ⟨_, h1⟩ | ⟨h1, _⟩
          ·exact h1
          ·exact h1
          ·exact absurd h1 hcu
         subst hcc
         obtain ⟨l, hh, b1, b2, hr⟩ := slExact_rel hA hlo hhi h
         exact ⟨_, hfin len cap' a' l hh cap' hxe rfl b1 b2 (by simp), hr⟩
       ·rename_i mv hmn
        cases mx with
        | none => simp at hmn
        | some mq =>
        cases hi with
        | none => simp at h
        | some hq =>
        simp only [Option.map_some, Option.some.injEq] at hmn h
        subst hmn
        split at h
        ·cases h
        ·rename_i m hm
         rw [zaa] at h
         split at h
         rotate_left
         ·cases h
         rename_i hmc
         have hmc := zaw hmc
         have hb1 := bnd_bd (x := some mq) (fr := fr) hmx hm
         have hb1' : Bd (Option.map (evx fr) (some mq)) cap' m cap' := by
          refine ⟨hb1.1, ?_⟩
          have := hb1.2
          rw [zaa] at this
          split at this
          ·rename_i hcu
           have hcu := zaw hcu
           rcases hcap with ⟨h1, _⟩ | ⟨_, h1⟩ | ⟨_, h1, _⟩
           ·omega
           ·omega
           ·omega
          ·rename_i hcu
           have hcu : ¬ CAPU ≤ cap := fun h => hcu (by simpa using h)
           rcases hcap with ⟨_, h1⟩ | ⟨_, h1⟩ | ⟨h1, _⟩
           ·omega
           ·omega
           ·exact absurd h1 hcu
         obtain ⟨l, hh, b1, b2, hr⟩ := slExact_rel (hi := some hq) hA hlo hhi h
         exact ⟨_, hfin len cap' a' l hh m hxe hb1' b1 b2 (by simp), hr⟩
      ·cases h
    | str =>
      simp only at h hk
      subst hk
      split at h
      ·rename_i s hev hm
       rw [hev] at hx
       have hx' := hx.strI
       have hmn' : mx = none := by cases mx with
        | none => rfl
        | some q => simp at hm
       subst hmn'
       unfold strSlice at h
       split at h
       ·cases h
       ·rename_i hh hhh
        simp only [Option.map_eq_some_iff] at h
        obtain ⟨l, hl, rfl⟩ := h
        have b1 := bnd_bd hhi hhh
        have b2 := bnd_bd hlo hl
        refine ⟨.string (s.extract l hh), ?_, .plain _ rfl⟩
        simp only [execOp, ho, Instr.sliceAt, Sem.run_bind, run_underlying hd, Result.andThen_ok, Instr.slice, hx']
        have hb := sliceBounds_run (P := P) (w := w) (b := false) (len := s.size) (cap := s.size) (l := l) (h := hh) (m := s.size) (lo := lo.map (evx fr)) (hi := hi.map (evx fr)) (mx := none) rfl b1 b2 (by simp)
        simp [hb]
      ·cases h
    | ar len el et =>
      simp only at h hk
      obtain ⟨rfl, hel, hall⟩ := hk
      obtain ⟨i2, hi2⟩ := Option.isSome_iff_exists.1 hall
      have hc : el = i2.size := by rw [hel]; simp [cellsOf, hi2]
      split at h
      ·rename_i b off hev
       rw [hev] at hx
       obtain ⟨hx', hb⟩ := hx.ptrI
       have hA : AdR e n (some ⟨b, off, none⟩) (some ⟨e.β b, off, none⟩) := .inr ⟨b, off, rfl, rfl, hb⟩
       have hfin : ∀ l h m, Bd (mx.map (evx fr)) len m len → Bd (hi.map (evx fr)) len h m → Bd (lo.map (evx fr)) 0 l h → ((mx.map (evx fr)).isSome = true → (hi.map (evx fr)).isSome = true) →
         (execOp (evx fr) o).run P w = .ok (.value (.slice (if m = l then some ⟨e.β b, off, none⟩ else (some (⟨e.β b, off, none⟩ : Addr)).map (·.add (l * el))) (h - l) (m - l))) w := by
        intro l h m b1 b2 b3 b4
        simp only [execOp, ho, Instr.sliceAt, Sem.run_bind, run_underlying hd, Result.andThen_ok, Instr.sureAddr, hx', sliceBounds_run b1 b2 b3 b4, zar hi2, Sem.run_pure, hc]
        by_cases hml : m = l <;> simp [hml]
       unfold arrSlice at h
       split at h
       ·rename_i hmn
        have hmn' : mx = none := by cases mx with
         | none => rfl
         | some q => simp at hmn
        subst hmn'
        obtain ⟨l, hh, b1, b2, hr⟩ := slExact_rel hA hlo hhi h
        exact ⟨_, hfin l hh len rfl b1 b2 (by simp), hr⟩
       ·rename_i mv hmn
        cases mx with
        | none => simp at hmn
        | some mq =>
        cases hi with
        | none => simp at h
        | some hq =>
        simp only [Option.map_some, Option.some.injEq] at hmn h
        subst hmn
        split at h
        ·cases h
        ·rename_i m hm
         have hb1 := bnd_bd (x := some mq) (fr := fr) hmx hm
         obtain ⟨l, hh, b1, b2, hr⟩ := slExact_rel (hi := some hq) hA hlo hhi h
         exact ⟨_, hfin l hh m hb1 b1 b2 (by simp), hr⟩
      ·cases h
    | _ => simp at h
   ·cases h
end
end Go.Gz
