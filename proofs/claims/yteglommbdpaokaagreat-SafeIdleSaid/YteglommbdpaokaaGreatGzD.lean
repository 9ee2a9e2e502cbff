/- The evaluator that the kernel runs: one operation, part 1. -/
import Derived.Test.YteglommbdpaokaaGreatGzC
import Derived.Test.YteglommbdpaokaaGreatGxC
namespace Go.Gz
open Go Go.Gx Go.RowKit
def OpS (P : Program) (B : Base) (e : Env) (n : Nat) (w : World) (res : R) (r : Result Next) : Prop :=
 match res with
 | .val v => ∃ v', r = .ok (.value v') w ∧ RV e n v v'
 | .mem v hp => ∃ v' w', (r = .ok (.value v') w' ∨ (r = .ok .skip w' ∧ v' = undef)) ∧ RV e n v v' ∧ WR P B e n hp w'
 | .new v hp o => n < 32767 → ∃ v' w' q t, r = .ok (.value v') w' ∧ RV (e.add n q t) (n + 1) v v' ∧ WR P B (e.add n q t) (n + 1) (hp.set n o) w'
 | .enter f args => (bodyOf P f).isSome = true → ∃ args', r = .ok (.enter f (args' : List Value).toArray) w ∧ RL e n args args'
 | .rnd l args => ∃ args', r = (Instr.yield (e.β l) (args' : List Value).toArray).run P w ∧ RL e n args args' ∧ l < n
 | .dfr d => ∃ d', r = .ok (.defer d') w ∧ RD e n d d'
 | .rcv => r = .ok .recover w
 | .pan v => ∃ v', r = .halt (.panic v') w ∧ RV e n v v'
 | .need _ => True
 | .bad => True
section
variable {e : Env} {n : Nat}
theorem RV.intI {k : IntKind} {a : Int} {v : Value} (h : RV e n (.int k a) v) : v = .int k a := by cases h; rfl
theorem RV.boolI {b : Bool} {v : Value} (h : RV e n (.bool b) v) : v = .bool b := by cases h; rfl
theorem RV.strI {s : ByteArray} {v : Value} (h : RV e n (.string s) v) : v = .string s := by cases h; rfl
theorem RV.nilpI {v : Value} (h : RV e n (.pointer none) v) : v = .pointer none := by cases h; rfl
theorem RV.ptrI {j off : Nat} {v : Value} (h : RV e n (.pointer (some ⟨j, off, none⟩)) v) : v = .pointer (some ⟨e.β j, off, none⟩) ∧ j < n := by
 cases h with
 | plain _ h => simp [zas] at h
 | ptr _ _ h => exact ⟨rfl, h⟩
theorem RV.ptrS {a : Addr} {v : Value} (h : RV e n (.pointer (some a)) v) : ∃ a', v = .pointer (some a') := by
 cases h with
 | plain _ h => simp [zas] at h
 | ptr _ _ h => exact ⟨_, rfl⟩
theorem RV.mapI {j : Nat} {v : Value} (h : RV e n (.map (some j)) v) : v = .map (some (e.β j)) ∧ j < n := by
 cases h with
 | plain _ h => simp [zas] at h
 | map _ h => exact ⟨rfl, h⟩
theorem RV.mapN {v : Value} (h : RV e n (.map none) v) : v = .map none := by cases h; rfl
theorem RV.aggI {a : Array Value} {v : Value} (h : RV e n (.agg a) v) : ∃ a', v = .agg a' ∧ RL e n a.toList a'.toList := by
 cases h with
 | plain _ h => exact ⟨a, rfl, by simp only [zas, List.isEmpty_iff] at h; rw [h]; exact .nil⟩
 | agg _ a' h => exact ⟨a', rfl, h⟩
theorem RV.tupleI {a : Array Value} {v : Value} (h : RV e n (.tuple a) v) : ∃ a', v = .tuple a' ∧ RL e n a.toList a'.toList := by
 cases h with
 | plain _ h => exact ⟨a, rfl, by simp only [zas, List.isEmpty_iff] at h; rw [h]; exact .nil⟩
 | tuple _ a' h => exact ⟨a', rfl, h⟩
theorem RV.funcI {g : FuncId} {a b : Array Value} {v : Value} (h : RV e n (.func (.func g) a b) v) : ∃ a' b', v = .func (.func g) a' b' ∧ RL e n a.toList a'.toList ∧ RL e n b.toList b'.toList := by
 cases h with
 | plain _ h => simp [zas] at h
 | func _ _ _ a' b' ha hb => exact ⟨a', b', rfl, ha, hb⟩
theorem RV.yieldI {l : Nat} {a b : Array Value} {v : Value} (h : RV e n (.func (.yield l) a b) v) (ha : a.isEmpty = true) : v = .func (.yield (e.β l)) #[] #[] ∧ l < n := by
 cases h with
 | plain _ h => simp [zas] at h
 | yield _ h => exact ⟨rfl, h⟩
 | elem _ off ed len q i k h hi hq => cases ha
 | elemG _ q i h hi hq => cases ha
 | partG _ q i h hi hq => cases ha
theorem RV.gI {l : Nat} {i : Value} {b : Array Value} {v : Value} (h : RV e n (.func (.yield l) ⟨[i]⟩ b) v) : ∃ q, v = .pointer (some ⟨e.β l, q, none⟩) ∧ l < n ∧ Gz.den e.m i = some (.int .i64 (q : Nat)) ∧ q < e.tot l % 9223372036854775808 := by
 cases h with
 | plain _ h => simp [zas] at h
 | elemG _ q i h hi hq => exact ⟨q, rfl, h, hi, hq⟩
theorem RV.pI {l : Nat} {i j : Value} {b : Array Value} {v : Value} (h : RV e n (.func (.yield l) ⟨[i, j]⟩ b) v) : ∃ q, v = .slice (some ⟨e.β l, if e.tot l / 9223372036854775808 = q then 0 else q, none⟩) (e.tot l % 9223372036854775808 - q) (e.tot l / 9223372036854775808 - q) ∧ l < n ∧ Gz.den e.m i = some (.int .i64 (q : Nat)) ∧ q ≤ e.tot l % 9223372036854775808 := by
 cases h with
 | plain _ h => simp [zas] at h
 | partG _ q i h hi hq => exact ⟨q, rfl, h, hi, hq⟩
theorem RV.elP {l : Nat} {a b : Array Value} {v : Value} (h : RV e n (.func (.yield l) a b) v) (ha : isEl (.func (.yield l) a b) = true) : ∃ ad, v = .pointer (some ad) := by
 cases h with
 | plain _ h => simp [zas] at h
 | yield _ h => cases ha
 | elem _ off ed len q i k h hi hq => exact ⟨_, rfl⟩
 | elemG _ q i h hi hq => exact ⟨_, rfl⟩
 | partG _ q i h hi hq => cases ha
theorem RV.elI {l : Nat} {a b : Array Value} {v : Value} (h : RV e n (.func (.yield l) a b) v) (ha : a.toList.length = 4) : ∃ off ed len q i k, a = ⟨[i, .int .i64 (.ofNat off), .int .i64 (.ofNat ed), .int .i64 (.ofNat len)]⟩ ∧ v = .pointer (some ⟨e.β l, off + q * ed, none⟩) ∧ l < n ∧ Gz.den e.m i = some (.int k (q : Nat)) ∧ q < len := by
 cases h with
 | plain _ h => simp [zas] at h
 | yield _ h => cases ha
 | elem _ off ed len q i k h hi hq => exact ⟨off, ed, len, q, i, k, rfl, rfl, h, hi, hq⟩
 | elemG _ q i h hi hq => cases ha
 | partG _ q i h hi hq => cases ha
theorem RV.elI4 {l : Nat} {i : Value} {k1 k2 k3 : IntKind} {off ed len : Nat} {b : Array Value} {v : Value} (h : RV e n (.func (.yield l) ⟨[i, .int k1 (.ofNat off), .int k2 (.ofNat ed), .int k3 (.ofNat len)]⟩ b) v) :
  ∃ q k, v = .pointer (some ⟨e.β l, off + q * ed, none⟩) ∧ l < n ∧ Gz.den e.m i = some (.int k (q : Nat)) ∧ q < len := by
 obtain ⟨off', ed', len', q, i', k, he, h1, h2, h3, h4⟩ := h.elI rfl
 simp only [Array.mk.injEq, List.cons.injEq, Value.int.injEq, Int.ofNat.injEq, and_true] at he
 obtain ⟨rfl, ⟨_, rfl⟩, ⟨_, rfl⟩, ⟨_, rfl⟩⟩ := he
 exact ⟨q, k, h1, h2, h3, h4⟩
theorem RV.ifaceI {t : TypeId} {u v : Value} (h : RV e n (.iface t u) v) : ∃ u', v = .iface t u' ∧ RV e n u u' := by
 cases h with
 | plain _ h => simp [zas] at h
 | iface _ _ u' h => exact ⟨u', rfl, h⟩
theorem RV.slN {len cap : Nat} {v : Value} (h : RV e n (.slice none len cap) v) : v = .slice none len cap := by cases h; rfl
theorem RV.slI {j off len cap : Nat} {v : Value} (h : RV e n (.slice (some ⟨j, off, none⟩) len cap) v) : j < n ∧ ∃ cap', v = .slice (some ⟨e.β j, off, none⟩) len cap' ∧ ((cap < CAPU ∧ cap' = cap) ∨ (cap = CAPU ∧ off = 0 ∧ cap' = e.tot j ∧ len ≤ cap') ∨ (cap = CAPV ∧ len ≤ cap')) := by
 cases h with
 | plain _ h => simp [zas] at h
 | slice _ _ _ _ h hc => exact ⟨h, _, rfl, .inl ⟨hc, rfl⟩⟩
 | sliceU _ _ h hl => exact ⟨h, _, rfl, .inr (.inl ⟨rfl, rfl, rfl, hl⟩)⟩
 | sliceV _ _ _ _ h hl => exact ⟨h, _, rfl, .inr (.inr ⟨rfl, hl⟩)⟩
theorem RV.slGI {j off len cap : Nat} {v : Value} (h : RV e n (.slice (some ⟨j, off, some 7⟩) len cap) v) : v = .slice (some ⟨e.β j, 0, none⟩) (e.tot j % 9223372036854775808) (e.tot j / 9223372036854775808) ∧ j < n ∧ off = 0 ∧ len = 0 ∧ cap = CAPU := by
 cases h with
 | plain _ h => simp [zas] at h
 | sliceG _ h => exact ⟨rfl, h, rfl, rfl, rfl⟩
theorem RV.slS {a : Addr} {len cap : Nat} {v : Value} (h : RV e n (.slice (some a) len cap) v) : ∃ a' len' cap', v = .slice (some a') len' cap' := by
 cases h with
 | plain _ h => simp [zas] at h
 | slice _ _ _ _ h hc => exact ⟨_, _, _, rfl⟩
 | sliceU _ _ h hl => exact ⟨_, _, _, rfl⟩
 | sliceV _ _ _ _ h hl => exact ⟨_, _, _, rfl⟩
 | sliceZ _ _ => exact ⟨_, _, _, rfl⟩
 | sliceG _ _ => exact ⟨_, _, _, rfl⟩
theorem RV.symI {op : Nat} {s : String} {a c : Array Value} {v : Value} (h : RV e n (.func (.methodOf op s) a c) v) : den e.m (.func (.methodOf op s) a c) = some v := by
 cases h with
 | plain _ h => simp [zas] at h
 | sym _ _ _ _ _ h => exact h
theorem RV.symS {op : Nat} {s : String} {a c : Array Value} {v : Value} (h : RV e n (.func (.methodOf op s) a c) v) : srt (op % 16) v = true := by
 cases h with
 | plain _ h => simp [zas] at h
 | sym _ _ _ _ _ _ hs => exact hs
theorem RV.den {c u v : Value} (h : RV e n c v) (hd : den e.m c = some u) (hu : Gx.one u = true) : v = u := by
 cases h with
 | plain _ h =>
   cases c with
   | agg a =>
     rw [Gz.den] at hd
     split at hd
     ·cases hd; cases hu
     ·cases hd
   | func => simp [zas] at h
   | bool => simp [Gz.den] at hd; exact hd
   | int => simp [Gz.den] at hd; exact hd
   | string => simp [Gz.den] at hd; exact hd
   | _ => simp [Gz.den] at hd
 | agg a a' h =>
   rw [Gz.den] at hd
   split at hd
   ·cases hd; cases hu
   ·cases hd
 | sym _ _ _ _ _ h => rw [h] at hd; cases hd; rfl
 | elem => simp [elv, Gz.den] at hd
 | elemG => simp [elG, Gz.den] at hd
 | partG => simp [subG, Gz.den] at hd
 | _ => simp [Gz.den] at hd
theorem srt_num {s : Nat} (hs : s < 8) {v : Value} (h : srt s v = true) : ∃ k a, v = .int k a ∧ s = kCode k ∧ wfK k a = true := by
 unfold srt at h
 split at h
 ·rename_i k a
  rw [zaa] at h
  split at h
  ·rename_i hk; exact ⟨k, a, rfl, zad hk, h⟩
  ·have := zad h; omega
 all_goals first
  | (rw [zaa] at h; split at h <;> (rename_i hk; first | (have := zad hk; omega) | (have := zad h; omega)))
  | (have := zad h; omega)
  | cases h
theorem srt_bool {v : Value} (h : srt 8 v = true) : ∃ b, v = .bool b := by
 cases v with
 | bool b => exact ⟨b, rfl⟩
 | int k a => cases k <;> cases h
 | pointer a => cases a <;> cases h
 | _ => cases h
theorem srt_text {v : Value} (h : srt 9 v = true) : ∃ b, v = .string b := by
 cases v with
 | string b => exact ⟨b, rfl⟩
 | int k a => cases k <;> cases h
 | pointer a => cases a <;> cases h
 | _ => cases h
theorem kCode_inj {k k' : IntKind} (h : kCode k = kCode k') : k = k' := by cases k <;> cases k' <;> first | rfl | cases h
theorem kCode_lt (k : IntKind) : kCode k < 8 := by cases k <;> decide
theorem kEq_refl (k : IntKind) : kEq k k = true := by cases k <;> rfl
theorem codeK_code (k : IntKind) : codeK (kCode k) = some k := by cases k <;> rfl
theorem codeK_some {s : Nat} {k : IntKind} (h : codeK s = some k) : s = kCode k := by
 unfold codeK at h
 repeat (rw [zaa] at h; split at h; (rename_i hs; cases h; exact zad hs))
 cases h
theorem sortOf_lt {v : Value} {s : Nat} (h : sortOf v = some s) : s < 16 := by
 unfold sortOf at h
 split at h
 ·rename_i k a; rw [zaa] at h; split at h
  ·cases h; have := kCode_lt k; omega
  ·cases h
 ·cases h; decide
 ·cases h; decide
 ·split at h
  ·cases h; exact Nat.mod_lt _ (by decide)
  ·cases h
 ·cases h
theorem RV.leaf {v v' : Value} {s : Nat} (h : RV e n v v') (hs : sortOf v = some s) : Gz.den e.m v = some v' ∧ srt s v' = true := by
 unfold sortOf at hs
 split at hs
 ·rename_i k a
  rw [zaa] at hs
  split at hs
  ·rename_i hw
   cases hs
   rw [h.intI]
   exact ⟨by simp [Gz.den], by simp [srt, zaa, hw]⟩
  ·cases hs
 ·cases hs; rw [h.boolI]; exact ⟨by simp [Gz.den], rfl⟩
 ·cases hs; rw [h.strI]; exact ⟨by simp [Gz.den], rfl⟩
 ·split at hs
  ·cases hs
   exact ⟨h.symI, h.symS⟩
  ·cases hs
 ·cases hs
theorem binCode_ne (op : BinOp) : binCode op ≠ 63 := by cases op <;> decide
theorem den_sy {m : Mu} {c s : Nat} {l l' : List Value} {r : Value} (hs : s < 16) (hc : c < 64) (hl : denL m l = some l') (h : stdI m c s l' = some r) (hr : srt s r = true) (hc' : c ≠ 63 := by first | decide | exact binCode_ne _) : Gz.den m (sy (opc c s) l) = some r := by
 have e1 : opc c s / 16 = c := by show (16 * c + s) / 16 = c; omega
 have e2 : opc c s % 16 = s := by show (16 * c + s) % 16 = s; omega
 have e3 : ¬ opc c s = 1016 := by show ¬ (16 * c + s) = 1016; omega
 unfold sy
 rw [Gz.den, denA, hl]
 simp only [itp, e1, e2, e3, if_false, if_pos hc, h, if_pos (zaq hr)]
theorem RV.sy {c s : Nat} {l l' : List Value} {r : Value} (hs : s < 16) (hc : c < 64) (hl : denL e.m l = some l') (h : stdI e.m c s l' = some r) (hr : srt s r = true) (hc' : c ≠ 63 := by first | decide | exact binCode_ne _) : RV e n (Gz.sy (opc c s) l) r :=
 .sym _ _ _ _ _ (den_sy hs hc hl h hr hc') (by rw [show opc c s % 16 = s by show (16 * c + s) % 16 = s; omega]; exact hr)
theorem RV.ofDen {c s : Nat} {l : List Value} {r : Value} (h : Gz.den e.m (Gz.sy (opc c s) l) = some r) (hs : s < 16) (h13 : s ≠ 13) : RV e n (Gz.sy (opc c s) l) r := by
 have e2 : opc c s % 16 = s := by show (16 * c + s) % 16 = s; omega
 have := den_srt h
 rw [e2] at this
 exact .sym _ _ _ _ _ h (by rw [e2]; exact zat h13 this)
theorem denL2 {m : Mu} {x y x' y' : Value} (hx : Gz.den m x = some x') (hy : Gz.den m y = some y') : denL m [x, y] = some [x', y'] := by simp [denL, hx, hy]
theorem denL1 {m : Mu} {x x' : Value} (hx : Gz.den m x = some x') : denL m [x] = some [x'] := by simp [denL, hx]
theorem wrap_wrap (k : IntKind) (n : Int) : k.wrap (k.wrap n) = k.wrap n := by
 cases k <;> (simp only [IntKind.wrap, IntKind.bits, IntKind.signed]; simp; try (split <;> split <;> omega)); try omega
theorem wfK_wrap (k : IntKind) (n : Int) : wfK k (k.wrap n) = true := by simp [wfK, wrap_wrap]
theorem zav {k : IntKind} {n : Int} (h : wfK k n = true) : srt (kCode k) (.int k n) = true := by simp [srt, zaa, h]
theorem notV_run {c c' v : Value} (h : RV e n c c') (hv : notV c = some v) : ∃ b, c' = .bool b ∧ RV e n v (.bool (!b)) := by
 unfold notV at hv
 split at hv
 ·rename_i b; cases hv; exact ⟨b, h.boolI, .plain _ rfl⟩
 ·split at hv
  ·rename_i s hs
   rw [zaa] at hv
   split at hv
   ·rename_i h8
    cases hv
    obtain ⟨h1, h2⟩ := h.leaf hs
    rw [zad h8] at h2
    obtain ⟨b, rfl⟩ := srt_bool h2
    exact ⟨b, rfl, RV.sy (by decide) (by decide) (denL1 h1) (by simp [stdI]) rfl⟩
   ·cases hv
  ·cases hv
theorem RV.add {j off : Nat} (h : j < n) (d : Nat) : RV e n (addr j off d) (.pointer (some (Addr.add ⟨e.β j, off, none⟩ d))) := by
 rw [add_none]; exact .ptr j (off + d) h
theorem RL.evs {tm : Tm} {ρ : Operand → Value} : ∀ (xs : List Operand), (∀ x ∈ xs, RV e n (ev tm x) (ρ x)) → RL e n (evs tm xs) (xs.map ρ)
 | [], _ => .nil
 | x :: xs, h => .cons _ _ _ _ (h x (by simp)) (RL.evs xs fun y hy => h y (List.mem_cons_of_mem _ hy))
theorem opdsOk_mem {nt : Nat} : ∀ {xs : List Operand}, opdsOk nt xs = true → ∀ x ∈ xs, opdOk nt x = true
 | [], _, x, hx => by simp at hx
 | y :: xs, h, x, hx => by
   unfold opdsOk at h
   rw [zaa] at h
   split at h
   ·rename_i hy
    rcases List.mem_cons.1 hx with rfl | hx
    ·exact hy
    ·exact opdsOk_mem h x hx
   ·cases h
theorem ev_rel {nt : Nat} {tm : Tm} {tmps : Array Value} (ht : RTm e n nt tm tmps) {x : Operand} (h : opdOk nt x = true) : RV e n (ev tm x) ((⟨tmps, []⟩ : Act).eval x) := by
 cases x with
 | tmp t =>
   have := ht.rel t (blt_lt h)
   simpa [ev, Act.eval] using this
 | const v => simpa [ev, Act.eval] using RV.plain v h
 | global g => simp [opdOk] at h
 | func f => simpa [ev, Act.eval] using RV.func f #[] #[] #[] #[] .nil .nil
end
section
variable {P : Program} (hP : Small P) {B : Base} {e : Env} {n : Nat} {hp : Hp} {w : World}
theorem WR.dec (hw : WR P B e n hp w) {c c' : Value} {b : Bool} (h : decH hp c = some b) (hc : RV e n c c') : c' = .bool b := hc.den (hw.fk c b h) rfl
theorem den_D {m : Mu} {v : Value} {b : Bool} (h : Gz.den m (sy (opc 63 8) [v]) = some (.bool b)) : b = (Gz.den m v).isSome := by
 unfold sy at h
 rw [Gz.den, denA] at h
 simp only [denL] at h
 cases hv : Gz.den m v with
 | none => rw [hv] at h; simp only [] at h; have : opc 63 8 = 1016 := rfl; rw [if_pos this] at h; cases h; rfl
 | some u => rw [hv] at h; simp only [] at h; have : opc 63 8 = 1016 := rfl; rw [if_pos this] at h; cases h; rfl
theorem WR.grd (hw : WR P B e n hp w) {v : Value} (h : decH hp (sy (opc 63 8) [v]) = some true) : ∃ u, Gz.den e.m v = some u := by
 have := den_D (hw.fk _ _ h)
 exact Option.isSome_iff_exists.1 this.symm
theorem srt_place {v : Value} (h : srt 10 v = true) : ∃ a, v = .pointer (some a) := by
 cases v with
 | pointer a => cases a with
   | none => cases h
   | some a => exact ⟨a, rfl⟩
 | int k a => cases k <;> cases h
 | _ => cases h
theorem srt_slice {v : Value} (h : srt 11 v = true) : ∃ a l c, v = .slice a l c ∧ l < 9223372036854775808 := by
 cases v with
 | slice a l c => exact ⟨a, l, c, rfl, blt_lt h⟩
 | pointer a => cases a <;> cases h
 | int k a => cases k <;> cases h
 | _ => cases h
theorem den_sy_inv {m : Mu} {c s : Nat} {l : List Value} {r : Value} (hs : s < 16) (hc : c < 63) (h : Gz.den m (sy (opc c s) l) = some r) : ∃ l', denL m l = some l' ∧ stdI m c s l' = some r ∧ srtA s r = true := by
 have e1 : opc c s / 16 = c := by show (16 * c + s) / 16 = c; omega
 have e2 : opc c s % 16 = s := by show (16 * c + s) % 16 = s; omega
 have e3 : ¬ opc c s = 1016 := by show ¬ (16 * c + s) = 1016; omega
 unfold sy at h
 rw [Gz.den, denA] at h
 cases hl : denL m l with
 | none => rw [hl] at h; simp only [e3, if_false] at h; cases h
 | some l' =>
   rw [hl] at h
   simp only [e3, if_false, itp, e1, e2, if_pos (show c < 64 by omega)] at h
   cases hi : stdI m c s l' with
   | none => rw [hi] at h; cases h
   | some v =>
     rw [hi] at h
     simp only [] at h
     split at h
     ·rename_i hsr; cases h; exact ⟨l', rfl, hi, hsr⟩
     ·cases h
theorem denL1_inv {m : Mu} {x : Value} {l : List Value} (h : denL m [x] = some l) : ∃ x', Gz.den m x = some x' ∧ l = [x'] := by
 simp only [denL] at h
 cases hx : Gz.den m x with
 | none => rw [hx] at h; cases h
 | some x' => rw [hx] at h; cases h; exact ⟨x', rfl, rfl⟩
theorem denL2_inv {m : Mu} {x y : Value} {l : List Value} (h : denL m [x, y] = some l) : ∃ x' y', Gz.den m x = some x' ∧ Gz.den m y = some y' ∧ l = [x', y'] := by
 simp only [denL] at h
 cases hx : Gz.den m x with
 | none => rw [hx] at h; cases h
 | some x' => rw [hx] at h; cases hy : Gz.den m y with
   | none => rw [hy] at h; cases h
   | some y' => rw [hy] at h; cases h; exact ⟨x', y', rfl, rfl, rfl⟩
theorem denL3_inv {m : Mu} {x y z : Value} {l : List Value} (h : denL m [x, y, z] = some l) : ∃ x' y' z', Gz.den m x = some x' ∧ Gz.den m y = some y' ∧ Gz.den m z = some z' ∧ l = [x', y', z'] := by
 simp only [denL] at h
 cases hx : Gz.den m x with
 | none => rw [hx] at h; cases h
 | some x' => rw [hx] at h; cases hy : Gz.den m y with
   | none => rw [hy] at h; cases h
   | some y' => rw [hy] at h; cases hz : Gz.den m z with
     | none => rw [hz] at h; cases h
     | some z' => rw [hz] at h; cases h; exact ⟨x', y', z', rfl, rfl, rfl, rfl⟩
theorem zsort_lt (z : Value) : zsort z < 16 ∧ zsort z ≠ 13 := by
 unfold zsort; split <;> first | (have := kCode_lt ‹IntKind›; constructor <;> omega) | exact ⟨by decide, by decide⟩
theorem load_inv {m : Mu} {s : Nat} {a a' r : Value} (hs : s < 16) (h13 : s ≠ 13) (ha : Gz.den m a = some a') (h : Gz.den m (sy (opc 40 s) [a]) = some r) : ∃ b off l t z, a' = .pointer (some ⟨b, off, none⟩) ∧ m.K b = some (.cells l t z) ∧ l.toList[off]? = some r ∧ srt s r = true := by
 obtain ⟨l', h1, h2, h3⟩ := den_sy_inv hs (by decide) h
 obtain ⟨x', h4, rfl⟩ := denL1_inv h1
 rw [ha] at h4; cases h4
 simp only [stdI] at h2
 rw [if_neg (by decide), if_neg (by decide), if_neg (by decide), if_pos trivial] at h2
 split at h2
 ·rename_i b off
  split at h2
  ·rename_i l t z hk; exact ⟨b, off, l, t, z, rfl, hk, h2, zat h13 h3⟩
  ·cases h2
 ·cases h2
theorem place_inv {m : Mu} {a a' r : Value} {j : Nat} (ha : Gz.den m a = some a') (h : Gz.den m (sy (opc 45 10) [a, .int .i64 j]) = some r) : ∃ b off, a' = .pointer (some ⟨b, off, none⟩) ∧ r = .pointer (some ⟨b, off + j, none⟩) := by
 obtain ⟨l', h1, h2, h3⟩ := den_sy_inv (by decide) (by decide) h
 obtain ⟨x', y', h4, h5, rfl⟩ := denL2_inv h1
 rw [ha] at h4; cases h4
 simp [Gz.den] at h5; subst h5
 simp only [stdI] at h2
 rw [if_neg (by decide), if_pos trivial] at h2
 split at h2
 ·rename_i b off _ j' he
  cases he
  rw [if_pos (by omega)] at h2
  cases h2
  exact ⟨b, off, rfl, by simp⟩
 ·cases h2
theorem WR.cells (hw : WR P B e n hp w) {b : Nat} (hb : b < n) {l : List Value} {t : TypeId} {gr : Bool} (h : hp.get b = .cells l t gr) :
  ∃ l' x, w.heap[e.β b]? = some (.cells (l' ++ x).toArray t) ∧ RL e n l l' ∧ (gr = false → x = []) ∧ (gr = true → (l' ++ x).length = e.tot b * cellsOf P t) := by
 obtain ⟨o, ho, hr⟩ := hw.obj b hb (by rw [h]; simp)
 rw [h] at hr
 cases hr with
 | cells _ l' _ hl => exact ⟨l', [], by simpa using ho, hl, fun _ => rfl, fun h => absurd h (by simp)⟩
 | grown _ l' x _ hl hs => exact ⟨l', x, ho, hl, fun h => absurd h (by simp), fun _ => hs⟩
theorem WR.garr (hw : WR P B e n hp w) {b : Nat} (hb : b < n) {v : Value} {t : TypeId} (h : hp.get b = .garr v t) :
  ∃ l x, w.heap[e.β b]? = some (.cells (l ++ x).toArray t) ∧ Gz.den e.m v = some (.agg ⟨l⟩) ∧ l.length = e.tot b % 9223372036854775808 ∧ (l ++ x).length = e.tot b / 9223372036854775808 ∧ cellsOf P t = 1 ∧ l.all one = true ∧ l.all (srt (zsT P t)) = true := by
 obtain ⟨o, ho, hr⟩ := hw.obj b hb (by rw [h]; simp)
 rw [h] at hr
 cases hr with
 | garr _ l x _ h1 h2 h3 h4 h5 h6 => exact ⟨l, x, ho, h1, h2, h3, h4, h5, h6⟩
theorem cellsAt_some {b : Nat} {l : List Value} (h : cellsAt hp b = some l) : ∃ t gr, hp.get b = .cells l t gr := by
 unfold cellsAt at h
 split at h
 ·rename_i l' t gr hg; cases h; exact ⟨t, gr, hg⟩
 ·cases h
theorem run_load_agg0 {t : TypeId} {a : Addr} {x : TI} (ht : tiof P t = some x) (ha : x.ag = true) (h0 : x.sz = 0) : (loadVar t a).run P w = .ok (.agg #[]) w := by
 obtain ⟨i, d, z, hi, hd, hz, hs, _, hag, _⟩ := zai ht
 have hd' : (isAgg t).run P w = .ok true w := by
  rw [run_isAgg' hd]; cases d <;> simp_all
 simp [loadVar, hd', zar hi, ← hs, h0, loadCells, loadCellsFrom]
include hP
theorem loadx_run (hw : WR P B e n hp w) {t : TypeId} {a a' v : Value} (ha : RV e n a a') (h : loadx P hp t a = some v) :
  ∃ ad v', a' = .pointer (some ad) ∧ (loadVar t ad).run P w = .ok v' w ∧ RV e n v v' := by
 unfold loadx at h
 split at h
 ·rename_i b off
  obtain ⟨rfl, hb⟩ := ha.ptrI
  split at h
  ·rename_i l x hl hx
   obtain ⟨ty, gr, hg⟩ := cellsAt_some hl
   obtain ⟨l', y, hc, hr, _, _⟩ := hw.cells hb hg
   have hx' := zam hP hx
   rw [zaa] at h
   split at h
   ·rename_i hag
    simp only [zaa] at h
    split at h
    ·rename_i hlen
     have hlen := zad hlen
     cases h
     by_cases h0 : x.sz = 0
     ·exact ⟨_, _, rfl, run_load_agg0 hx' hag h0, by rw [h0]; exact .agg _ _ (by simpa using RL.nil)⟩
     ·have hle : off + x.sz ≤ l.length := by simp at hlen; omega
      have hle' : off + x.sz ≤ l'.length := by rw [← hr.length]; exact hle
      refine ⟨_, _, rfl, run_load_agg hc off hx' hag (by simp; omega), ?_⟩
      refine .agg _ _ ?_
      have e1 : ((l' ++ y).drop off).take x.sz = (l'.drop off).take x.sz := by
       rw [List.drop_append_of_le_length (by omega), List.take_append_of_le_length (by simp; omega)]
      rw [e1]
      exact (hr.drop off).take _
    ·cases h
   ·rename_i hag
    obtain ⟨v', hv, hrv⟩ := hr.get h
    have : (l' ++ y)[off]? = some v' := by
     rw [List.getElem?_append_left (List.getElem?_eq_some_iff.1 hv).1]; exact hv
    exact ⟨_, v', rfl, run_load_one hc off hx' hag this, hrv⟩
  ·cases h
 ·cases h
omit hP in
theorem loadCs_run {m : Mu} {a : Value} {b off : Nat} {l : List Value} {t : TypeId} {z : Nat × Nat} (ha : Gz.den m a = some (.pointer (some ⟨b, off, none⟩))) (hk : m.K b = some (.cells l.toArray t z)) :
  ∀ (zs : List Value) (j : Nat) (r : List Value), denL m (loadCs a j zs) = some r → r.length = zs.length ∧ ∀ (e : Env) (n : Nat), e.m = m → (∀ i, i < zs.length → ∃ u, l[off + j + i]? = some u ∧ r[i]? = some u) ∧ RL e n (loadCs a j zs) r
 | [], j, r, h => by simp [loadCs, denL] at h; subst h; exact ⟨rfl, fun e n _ => ⟨fun i hi => absurd hi (by simp), .nil⟩⟩
 | z0 :: zs, j, r, h => by
   simp only [loadCs, denL] at h
   cases h1 : Gz.den m (sy (opc 40 (zsort z0)) [sy (opc 45 10) [a, .int .i64 j]]) with
   | none => rw [h1] at h; cases h
   | some u =>
     rw [h1] at h
     simp only [] at h
     cases h2 : denL m (loadCs a (j + 1) zs) with
     | none => rw [h2] at h; cases h
     | some r2 =>
       rw [h2] at h
       cases h
       have hs := (zsort_lt z0).1
       obtain ⟨l0, g1, _, _⟩ := den_sy_inv hs (by decide) h1
       obtain ⟨p, g2, _⟩ := denL1_inv g1
       obtain ⟨b1, off1, l1, t1, z1, g3, g4, g5, _⟩ := load_inv hs (zsort_lt z0).2 g2 h1
       obtain ⟨b2, off2, g6, g7⟩ := place_inv ha g2
       cases g6
       rw [g7] at g3
       cases g3
       rw [hk] at g4
       cases g4
       obtain ⟨i1, i2⟩ := loadCs_run ha hk zs (j + 1) r2 h2
       refine ⟨by simp [i1], fun e n hem => ?_⟩
       obtain ⟨i3, i4⟩ := i2 e n hem
       refine ⟨fun i hi => ?_, .cons _ _ _ _ (RV.ofDen (by rw [hem]; exact h1) hs (zsort_lt z0).2) i4⟩
       cases i with
       | zero => exact ⟨u, by simpa using g5, rfl⟩
       | succ i =>
         obtain ⟨u2, k1, k2⟩ := i3 i (by simpa using hi)
         exact ⟨u2, by rw [show off + j + (i + 1) = off + (j + 1) + i by omega]; exact k1, by simpa using k2⟩
def LdRun (P : Program) (e : Env) (n : Nat) (w : World) (t : TypeId) (a' : Value) : R → Prop
 | .val v => ∃ ad v', a' = .pointer (some ad) ∧ (loadVar t ad).run P w = .ok v' w ∧ RV e n v v'
 | .need _ => True
 | .bad => True
 | _ => False
theorem loadS_run (hw : WR P B e n hp w) {t : TypeId} {a a' : Value} (ha : RV e n a a') : LdRun P e n w t a' (loadS P hp t a) := by
 unfold loadS
 split
 ·rename_i s x hs hx
  have hx' := zam hP hx
  obtain ⟨ha1, ha2⟩ := ha.leaf hs
  rw [zaa]
  split
  ·rename_i h10
   rw [zad h10] at ha2
   obtain ⟨ad, rfl⟩ := srt_place ha2
   rw [zaa]
   split
   ·rename_i hag
    rw [zaa]
    split
    ·rename_i hz
     simp only [Bool.and_eq_true] at hz
     have hzl := zad hz.1
     unfold Gz.grd
     split
     ·rename_i b hd
      cases b with
      | false => exact trivial
      | true =>
        obtain ⟨u, hu⟩ := hw.grd hd
        rw [Gz.den, denA] at hu
        cases hl : denL e.m (loadCs a 0 x.zero) with
        | none => rw [hl] at hu; cases hu
        | some r =>
          by_cases h0 : x.sz = 0
          ·have : x.zero = [] := List.length_eq_zero_iff.1 (by omega)
           rw [this]
           exact ⟨ad, .agg #[], rfl, run_load_agg0 hx' hag h0, .agg _ _ .nil⟩
          ·-- the first cell tells where
           cases hzz : x.zero with
           | nil => rw [hzz] at hzl; simp at hzl; omega
           | cons z0 zs =>
             have hl0 := hl
             rw [hzz] at hl0
             simp only [loadCs, denL] at hl0
             cases h1 : Gz.den e.m (sy (opc 40 (zsort z0)) [sy (opc 45 10) [a, .int .i64 (0 : Nat)]]) with
             | none => rw [h1] at hl0; cases hl0
             | some u0 =>
               have hs16 := (zsort_lt z0).1
               obtain ⟨l0, g1, _, _⟩ := den_sy_inv hs16 (by decide) h1
               obtain ⟨p, g2, _⟩ := denL1_inv g1
               obtain ⟨b1, off1, l1, t1, z1, g3, g4, g5, _⟩ := load_inv hs16 (zsort_lt z0).2 g2 h1
               obtain ⟨b2, off2, g6, g7⟩ := place_inv ha1 g2
               cases g6
               rw [g7] at g3
               cases g3
               obtain ⟨l1⟩ := l1
               obtain ⟨i1, i2⟩ := loadCs_run ha1 g4 x.zero 0 r hl
               obtain ⟨i3, i4⟩ := i2 e n rfl
               have hkp := hw.kp _ _ g4
               have hlen : off2 + x.sz ≤ l1.length := by
                obtain ⟨u, k1, _⟩ := i3 (x.zero.length - 1) (by omega)
                have := (List.getElem?_eq_some_iff.1 k1).1
                omega
               refine ⟨⟨b1, off2, none⟩, _, rfl, run_load_agg hkp off2 hx' hag hlen, .agg _ _ ?_⟩
               have : (l1.drop off2).take x.sz = r := by
                apply List.ext_getElem?
                intro i
                rcases Nat.lt_or_ge i x.sz with hi | hi
                ·obtain ⟨u, k1, k2⟩ := i3 i (by omega)
                 rw [k2, List.getElem?_take, if_pos hi, List.getElem?_drop, ← k1]; simp
                ·rw [List.getElem?_eq_none (by simp; omega), List.getElem?_eq_none (by omega)]
               rw [← hzz]
               show RL e n (loadCs a 0 x.zero) ((l1.drop off2).take x.sz)
               rw [this]; exact i4
     ·exact trivial
    ·exact trivial
   ·rename_i hag
    split
    ·rename_i z0 hz0
     unfold Gz.grd
     split
     ·rename_i b hd
      cases b with
      | false => exact trivial
      | true =>
        obtain ⟨u, hu⟩ := hw.grd hd
        have hs16 := (zsort_lt z0).1
        obtain ⟨b1, off1, l1, t1, z1, g3, g4, g5, _⟩ := load_inv hs16 (zsort_lt z0).2 ha1 hu
        cases g3
        obtain ⟨l1⟩ := l1
        exact ⟨_, u, rfl, run_load_one (hw.kp _ _ g4) off1 hx' hag g5, RV.ofDen hu hs16 (zsort_lt z0).2⟩
     ·exact trivial
    ·exact trivial
  ·exact trivial
 ·exact trivial
omit hP in
theorem enumG_ok {i : Value} {k k' : IntKind} {q : Nat} (hd : ∀ c b, decH hp c = some b → Gz.den e.m c = some (.bool b)) (hi : Gz.den e.m i = some (.int k' (q : Nat))) : ∀ (m c : Nat) {r : Nat}, enumG hp i k m c = .at_ r → r = q
 | 0, c, r, h => by cases h
 | m + 1, c, r, h => by
   unfold enumG at h
   split at h
   ·rename_i b hb
    cases b with
    | false => exact enumG_ok hd hi m (Nat.succ c) h
    | true =>
      cases h
      have h1 := hd _ _ hb
      obtain ⟨l', hl, hst, _⟩ := den_sy_inv (by decide) (by decide) h1
      obtain ⟨vx, vy, g1, g2, rfl⟩ := denL2_inv hl
      rw [hi] at g1
      cases g1
      rw [Gz.den] at g2
      cases g2
      have hst : (if kEq k' k = true then some (Value.bool ((q : Int) == Int.ofNat c)) else none) = some (.bool true) := hst
      split at hst
      ·simp only [Option.some.injEq, Value.bool.injEq, beq_iff_eq] at hst
       exact (Int.ofNat.inj hst).symm
      ·cases hst
   ·cases h
omit hP in
theorem enumI_ok {i : Value} {k' : IntKind} {q len r : Nat} (hd : ∀ c b, decH hp c = some b → Gz.den e.m c = some (.bool b)) (hi : Gz.den e.m i = some (.int k' (q : Nat))) (h : enumI hp i len = .at_ r) : r = q := by
 unfold enumI at h
 split at h
 ·split at h
  ·exact enumG_ok hd hi _ _ h
  ·cases h
 ·cases h
omit hP in
theorem everyC_get {l : List Value} {ed : Nat} : ∀ (k off : Nat) {r : List Value}, everyC l ed k off = some r → r.length = k ∧ ∀ q, q < k → r[q]? = l[off + q * ed]?
 | 0, off, r, h => by cases h; exact ⟨rfl, fun q hq => absurd hq (Nat.not_lt_zero _)⟩
 | k + 1, off, r, h => by
   unfold everyC at h
   split at h
   ·rename_i v hv
    split at h
    ·rename_i r' hr
     cases h
     obtain ⟨h1, h2⟩ := everyC_get k (off + ed) hr
     refine ⟨by simp [h1], fun q hq => ?_⟩
     cases q with
     | zero => simp [hv]
     | succ q =>
       rw [List.getElem?_cons_succ, h2 q (by omega)]
       congr 1
       rw [Nat.succ_mul]; omega
    ·cases h
   ·cases h
omit hP in
theorem everyC_rl {l l' : List Value} {ed : Nat} (hr : RL e n l l') : ∀ (m o : Nat) {r : List Value}, everyC l ed m o = some r → ∃ r', RL e n r r' ∧ ∀ j, j < m → r'[j]? = l'[o + j * ed]? := by
 intro m
 induction m with
 | zero => intro o r h; cases h; exact ⟨[], .nil, fun j hj => absurd hj (Nat.not_lt_zero _)⟩
 | succ m ih =>
   intro o r h
   unfold everyC at h
   split at h
   ·rename_i v1 hv1
    split at h
    ·rename_i r1 hr1
     cases h
     obtain ⟨r', g1, g2⟩ := ih _ hr1
     obtain ⟨u1, k1', k2'⟩ := hr.get hv1
     refine ⟨u1 :: r', .cons _ _ _ _ k2' g1, fun j hj => ?_⟩
     cases j with
     | zero => simp [k1']
     | succ j =>
       rw [List.getElem?_cons_succ, g2 j (by omega)]
       congr 1
       rw [Nat.succ_mul]; omega
    ·cases h
   ·cases h
omit hP in
theorem selV_run {i v : Value} {k : IntKind} {q : Nat} {cs : List Value} (hi : Gz.den e.m i = some (.int k (q : Nat))) (h : selV i cs = some v) {cs' : List Value} (hr : RL e n cs cs') {u : Value} (hu : cs'[q]? = some u) : RV e n v u := by
 unfold selV at h
 split at h
 ·cases h
 ·rename_i v0 l
  split at h
  ·rename_i z hz
   rw [zaa] at h
   split at h
   ·rename_i hall
    have hall : allB (hasS z) (v0 :: l) = true := by
     rw [Bool.and_eq_true] at hall; exact hall.2
    cases h
    have hden : ∀ (l l' : List Value), allB (hasS z) l = true → RL e n l l' → denL e.m l = some l' ∧ ∀ (j : Nat) (x : Value), l'[j]? = some x → srt z x = true := by
     intro l
     induction l with
     | nil => intro l' ha hr; cases hr; exact ⟨rfl, fun j x hx => by simp at hx⟩
     | cons a l ih =>
       intro l' ha hr
       cases hr with
       | cons _ a' _ l' h1 hl =>
       unfold allB at ha
       rw [zaa] at ha
       split at ha
       ·rename_i hs
        have hs' : sortOf a = some z := by
         unfold hasS at hs
         split at hs
         ·rename_i s' he; rw [he, zad hs]
         ·cases hs
        obtain ⟨g1, g2⟩ := h1.leaf hs'
        obtain ⟨g3, g4⟩ := ih _ ha hl
        refine ⟨by rw [denL, g1]; simp only [g3], fun j x hx => ?_⟩
        cases j with
        | zero => simp at hx; subst hx; exact g2
        | succ j => exact g4 j x (by simpa using hx)
       ·cases ha
    obtain ⟨g1, g2⟩ := hden _ _ hall hr
    have hsu := g2 q u hu
    have hz16 := sortOf_lt hz
    refine RV.sy (c := 49) hz16 (by decide) (denL2 (by rw [Gz.den, denA, g1]) hi) ?_ hsu
    show (if (0 : Int) ≤ (q : Nat) then _ else none) = _
    rw [if_pos (by omega)]
    simpa using hu
   ·cases h
  ·cases h
end
section
variable {e : Env} {n : Nat}
theorem zac {a b : Bool} (h : (a && b) = true) : a = true ∧ b = true := by simpa using h
theorem kEq_eq {k k' : IntKind} (h : kEq k k' = true) : k = k' := by cases k <;> cases k' <;> first | rfl | cases h
theorem wfK_iff (k : IntKind) (n : Int) : wfK k n = true ↔ (match k with
  | .i8 => -2^7 ≤ n ∧ n < 2^7 | .i16 => -2^15 ≤ n ∧ n < 2^15 | .i32 => -2^31 ≤ n ∧ n < 2^31 | .i64 => -2^63 ≤ n ∧ n < 2^63
  | .u8 => 0 ≤ n ∧ n < 2^8 | .u16 => 0 ≤ n ∧ n < 2^16 | .u32 => 0 ≤ n ∧ n < 2^32 | .u64 => 0 ≤ n ∧ n < 2^64) := by
 unfold wfK
 cases k <;> (simp only [IntKind.wrap, IntKind.bits, IntKind.signed]; simp; first | omega | (split <;> omega))
theorem veqL_eq {f : Value → Value → Bool} (ih : ∀ u v, f u v = true → u = v) : ∀ {l r : List Value}, veqL f l r = true → l = r
 | [], [], _ => rfl
 | a :: l, b :: r, h => by
   unfold veqL at h
   rw [zaa] at h
   split at h
   ·rename_i h1; rw [ih _ _ h1, veqL_eq ih h]
   ·cases h
 | [], _ :: _, h => by simp [veqL] at h
 | _ :: _, [], h => by simp [veqL] at h
theorem natsEq_eq : ∀ {l r : List UInt8}, natsEq l r = true → l = r
 | [], [], _ => rfl
 | a :: l, b :: r, h => by
   unfold natsEq at h
   rw [zaa] at h
   split at h
   ·rename_i h1
    have := zad h1
    rw [UInt8.toNat_inj.1 this, natsEq_eq h]
   ·cases h
 | [], _ :: _, h => by simp [natsEq] at h
 | _ :: _, [], h => by simp [natsEq] at h
theorem addrEq_eq {a b : Option Addr} (h : addrEq a b = true) : a = b := by
 unfold addrEq at h
 split at h
 ·rfl
 ·obtain ⟨h1, h2⟩ := zac h
  rw [zad h1, zad h2]
 ·obtain ⟨h1, h2⟩ := zac h
  obtain ⟨h2, h3⟩ := zac h2
  rw [zad h1, zad h2, zad h3]
 ·cases h
theorem onatEq_eq {a b : Option Nat} (h : onatEq a b = true) : a = b := by
 unfold onatEq at h
 split at h
 ·rfl
 ·rw [zad h]
 ·cases h
theorem veq_eq : ∀ (d : Nat) (u v : Value), veq d u v = true → u = v
 | 0, u, v, h => by cases h
 | d + 1, u, v, h => by
   have ih := veq_eq d
   cases u with
   | bool a =>
     cases v with
     | bool b => cases a <;> cases b <;> first | rfl | cases h
     | _ => cases h
   | int k a =>
     cases v with
     | int k' b =>
       obtain ⟨h1, h2⟩ := zac h
       rw [kEq_eq h1, of_decide_eq_true h2]
     | _ => cases h
   | string a =>
     cases v with
     | string b =>
       have h : natsEq a.data.toList b.data.toList = true := h
       have := natsEq_eq h
       have : a.data = b.data := Array.ext' this
       cases a; cases b; simp_all
     | _ => cases h
   | pointer a =>
     cases v with
     | pointer b => rw [addrEq_eq h]
     | _ => cases h
   | slice a l c =>
     cases v with
     | slice a' l' c' =>
       obtain ⟨h1, h2⟩ := zac h
       obtain ⟨h2, h3⟩ := zac h2
       rw [addrEq_eq h1, zad h2, zad h3]
     | _ => cases h
   | map a =>
     cases v with
     | map b => rw [onatEq_eq h]
     | _ => cases h
   | nilFunc =>
     cases v with
     | nilFunc => rfl
     | _ => cases h
   | nilIface =>
     cases v with
     | nilIface => rfl
     | _ => cases h
   | func g a b =>
     cases g with
     | func g =>
       cases v with
       | func g' a' b' =>
         cases g' with
         | func g' =>
           obtain ⟨h1, h2⟩ := zac h
           obtain ⟨h2, h3⟩ := zac h2
           rw [zad h1, Array.ext' (veqL_eq ih h2), Array.ext' (veqL_eq ih h3)]
         | _ => cases h
       | _ => cases h
     | yield g =>
       cases v with
       | func g' a' b' =>
         cases g' with
         | yield g' =>
           obtain ⟨h1, h2⟩ := zac h
           obtain ⟨h2, h3⟩ := zac h2
           rw [zad h1, Array.ext' (veqL_eq ih h2), Array.ext' (veqL_eq ih h3)]
         | _ => cases h
       | _ => cases h
     | methodOf g sg =>
       cases v with
       | func g' a' b' =>
         cases g' with
         | methodOf g' sg' =>
           obtain ⟨h1, h2⟩ := zac h
           obtain ⟨h2, h3⟩ := zac h2
           obtain ⟨h3, h4⟩ := zac h3
           obtain ⟨h4, h5⟩ := zac h4
           obtain ⟨h5, h6⟩ := zac h5
           have e1 : b = #[] := by simpa using h4
           have e2 : b' = #[] := by simpa using h5
           have e3 : sg = sg' := by simpa using h6
           rw [zad h1, Array.ext' (veqL_eq ih h2), e1, e2, e3]
         | _ => cases h
       | _ => cases h
     | _ => cases h
   | iface t a =>
     cases v with
     | iface t' b =>
       obtain ⟨h1, h2⟩ := zac h
       rw [zad h1, ih _ _ h2]
     | _ => cases h
   | agg a =>
     cases v with
     | agg b => rw [Array.ext' (veqL_eq ih h)]
     | _ => cases h
   | tuple a =>
     cases v with
     | tuple b => rw [Array.ext' (veqL_eq ih h)]
     | _ => cases h
   | _ => cases h
theorem den_any {m : Mu} {op : Nat} {nm : String} {l : List Value} {c : Array Value} : Gz.den m (.func (.methodOf op nm) ⟨l⟩ c) = Gz.den m (sy op l) := by
 unfold sy; rw [Gz.den, Gz.den]
theorem den_syA {m : Mu} {c s : Nat} {l l' : List Value} {r : Value} (hs : s < 16) (hc : c < 64) (hl : denL m l = some l') (h : stdI m c s l' = some r) (hr : srtA s r = true) (hc' : c ≠ 63 := by first | decide | exact binCode_ne _) : Gz.den m (sy (opc c s) l) = some r := by
 have e1 : opc c s / 16 = c := by show (16 * c + s) / 16 = c; omega
 have e2 : opc c s % 16 = s := by show (16 * c + s) % 16 = s; omega
 have e3 : ¬ opc c s = 1016 := by show ¬ (16 * c + s) = 1016; omega
 unfold sy
 rw [Gz.den, denA, hl]
 simp only [itp, e1, e2, e3, if_false, if_pos hc, h, if_pos hr]
theorem denL3 {m : Mu} {x y z x' y' z' : Value} (hx : Gz.den m x = some x') (hy : Gz.den m y = some y') (hz : Gz.den m z = some z') : denL m [x, y, z] = some [x', y', z'] := by simp [denL, hx, hy, hz]
theorem put_inv {m : Mu} {u j x : Value} {l : List Value} (h : Gz.den m (sy 829 [u, j, x]) = some (.agg ⟨l⟩)) :
  ∃ lu k q x', Gz.den m u = some (.agg ⟨lu⟩) ∧ Gz.den m j = some (.int k (q : Nat)) ∧ Gz.den m x = some x' ∧ q < lu.length ∧ l = lu.set q x' := by
 obtain ⟨l', hl, hs0, _⟩ := den_sy_inv (c := 51) (s := 13) (by decide) (by decide) h
 obtain ⟨a, b, c, g1, g2, g3, rfl⟩ := denL3_inv hl
 have hst : putI a b c = some (.agg ⟨l⟩) := hs0
 unfold putI at hst
 split at hst
 ·rename_i lu
  split at hst
  ·rename_i k q
   split at hst
   ·rename_i hq
    obtain ⟨q, rfl⟩ := Int.eq_ofNat_of_zero_le hq.1
    simp only [Option.some.injEq, Value.agg.injEq, Array.mk.injEq] at hst
    obtain ⟨lu⟩ := lu
    exact ⟨lu, k, q, c, g1, g2, g3, by simpa using hq.2, by rw [← hst]; simp⟩
   ·cases hst
  ·cases hst
 ·cases hst
theorem over_inv {m : Mu} {u j x : Value} {l : List Value} (h : Gz.den m (sy 861 [u, j, x]) = some (.agg ⟨l⟩)) :
  ∃ lu k q r, Gz.den m u = some (.agg ⟨lu⟩) ∧ Gz.den m j = some (.int k (q : Nat)) ∧ Gz.den m x = some (.agg ⟨r⟩) ∧ q ≤ lu.length ∧ l = lu.take q ++ (r.take (lu.length - q) ++ lu.drop (q + r.length)) := by
 obtain ⟨l', hl, hs0, _⟩ := den_sy_inv (c := 53) (s := 13) (by decide) (by decide) h
 obtain ⟨a, b, c, g1, g2, g3, rfl⟩ := denL3_inv hl
 have hst : overI a b c = some (.agg ⟨l⟩) := hs0
 unfold overI at hst
 split at hst
 ·rename_i lu
  split at hst
  ·rename_i k q
   split at hst
   ·rename_i r
    split at hst
    ·rename_i hq
     obtain ⟨q, rfl⟩ := Int.eq_ofNat_of_zero_le hq.1
     simp only [Option.some.injEq, Value.agg.injEq, Array.mk.injEq] at hst
     obtain ⟨lu⟩ := lu
     obtain ⟨r⟩ := r
     exact ⟨lu, k, q, r, g1, g2, g3, by simpa using hq.2, by rw [← hst]; simp⟩
    ·cases hst
   ·cases hst
  ·cases hst
 ·cases hst
theorem nought_inv {m : Mu} {u x : Value} {l : List Value} (h : Gz.den m (sy 845 [u, x]) = some (.agg ⟨l⟩)) :
  ∃ q x', Gz.den m u = some (.int .i64 (q : Nat)) ∧ Gz.den m x = some x' ∧ l = List.replicate q x' := by
 obtain ⟨l', hl, hs0, _⟩ := den_sy_inv (c := 52) (s := 13) (by decide) (by decide) h
 obtain ⟨a, b, g1, g2, rfl⟩ := denL2_inv hl
 have hst : noughtI a b = some (.agg ⟨l⟩) := hs0
 unfold noughtI at hst
 split at hst
 ·rename_i q
  split at hst
  ·rename_i hq
   obtain ⟨q, rfl⟩ := Int.eq_ofNat_of_zero_le hq
   simp only [Option.some.injEq, Value.agg.injEq, Array.mk.injEq] at hst
   exact ⟨q, b, g1, g2, by rw [← hst]; simp⟩
  ·cases hst
 ·cases hst
theorem wf_len {k : Nat} (h : k < 9223372036854775808) : wfK .i64 (k : Int) = true := by rw [wfK_iff]; simp only; omega
theorem len_base {m : Mu} {v : Value} {l : List Value} (h : Gz.den m v = some (.agg ⟨l⟩)) (hl : l.length < 9223372036854775808) : Gz.den m (sy (opc 48 3) [v]) = some (.int .i64 l.length) :=
 den_sy (by decide) (by decide) (denL1 h) (by simp [stdI]) (zav (k := .i64) (wf_len hl))
theorem lenGT_succ {k : Nat} (v : Value) : lenGT (k + 1) v = (match v with
 | .func (.methodOf op nm) ⟨[u, x, y]⟩ c => cnd (Nat.beq op 829) (lenGT k u) (cnd (Nat.beq op 861) (lenGT k u) (sy (opc 48 3) [.func (.methodOf op nm) ⟨[u, x, y]⟩ c]))
 | .func (.methodOf op nm) ⟨[m, z]⟩ c => cnd (Nat.beq op 845) m (sy (opc 48 3) [.func (.methodOf op nm) ⟨[m, z]⟩ c])
 | v => sy (opc 48 3) [v]) := rfl
theorem lenGT_den {m : Mu} : ∀ (k : Nat) {v : Value} {l : List Value}, Gz.den m v = some (.agg ⟨l⟩) → l.length < 9223372036854775808 → Gz.den m (lenGT k v) = some (.int .i64 l.length)
 | 0, v, l, h, hl => len_base h hl
 | k + 1, v, l, h, hl => by
   rw [lenGT_succ]
   split
   ·rename_i op nm u x y c
    rw [zaa]
    split
    ·rename_i ho
     rw [zad ho, den_any] at h
     obtain ⟨lu, kk, q, x', g1, _, _, _, rfl⟩ := put_inv h
     rw [List.length_set] at hl ⊢
     exact lenGT_den k g1 hl
    ·rw [zaa]
     split
     ·rename_i ho
      rw [zad ho, den_any] at h
      obtain ⟨lu, kk, q, r, g1, _, _, hq, rfl⟩ := over_inv h
      have e : (lu.take q ++ (r.take (lu.length - q) ++ lu.drop (q + r.length))).length = lu.length := by
       simp only [List.length_append, List.length_take, List.length_drop]; omega
      rw [e] at hl ⊢
      exact lenGT_den k g1 hl
     ·exact len_base h hl
   ·rename_i op nm u z c
    rw [zaa]
    split
    ·rename_i ho
     rw [zad ho, den_any] at h
     obtain ⟨q, x', g1, _, rfl⟩ := nought_inv h
     rw [List.length_replicate]
     exact g1
    ·exact len_base h hl
   ·exact len_base h hl
theorem cmp_den {m : Mu} {op : BinOp} {i j : Value} {k k' : IntKind} {a b : Int} {r : Bool} (ho : op = .lss ∨ op = .eql) (hi : Gz.den m i = some (.int k a)) (hj : Gz.den m j = some (.int k' b)) (h : Gz.den m (sy (opc (binCode op) 8) [i, j]) = some (.bool r)) : k = k' ∧ zao op k a b = some (.bool r) := by
 have hc : binCode op < 63 := by rcases ho with rfl | rfl <;> decide
 obtain ⟨l', hl, hst, _⟩ := den_sy_inv (by decide) hc h
 obtain ⟨x, y, g1, g2, rfl⟩ := denL2_inv hl
 rw [hi] at g1; rw [hj] at g2
 cases g1; cases g2
 have hst : stdI m (binCode op) 8 [.int k a, .int k' b] = some (.bool r) := hst
 have e : stdI m (binCode op) 8 [.int k a, .int k' b] = zag op (.int k a) (.int k' b) := by rcases ho with rfl | rfl <;> rfl
 rw [e] at hst
 unfold zag at hst
 have hns : isShift op = false := by rcases ho with rfl | rfl <;> rfl
 simp only [hns, Bool.false_eq_true, if_false] at hst
 split at hst
 ·rename_i hk; exact ⟨kEq_eq hk, hst⟩
 ·cases hst
theorem ixLt_ok {hp : Hp} {m : Mu} (hd : ∀ c b, decH hp c = some b → Gz.den m c = some (.bool b)) {i j : Value} {k k' : IntKind} {a b : Int} {r : Bool} (hi : Gz.den m i = some (.int k a)) (hj : Gz.den m j = some (.int k' b)) (h : ixLt hp i j = some r) : r = decide (a < b) := by
 unfold ixLt at h
 split at h
 ·rename_i k1 a1
  rw [Gz.den] at hi; cases hi
  split at h
  ·rename_i k2 b1
   rw [Gz.den] at hj; cases hj
   cases h; rfl
  ·have := (cmp_den (op := .lss) (.inl rfl) (k := k) (a := a) (by rw [Gz.den]) hj (hd _ _ h)).2
   simp only [zao, Option.some.injEq, Value.bool.injEq] at this
   exact this.symm
 ·have := (cmp_den (op := .lss) (.inl rfl) hi hj (hd _ _ h)).2
  simp only [zao, Option.some.injEq, Value.bool.injEq] at this
  exact this.symm
theorem ixEq_ok {hp : Hp} {m : Mu} (hd : ∀ c b, decH hp c = some b → Gz.den m c = some (.bool b)) {i j : Value} {k k' : IntKind} {a b : Int} {r : Bool} (hi : Gz.den m i = some (.int k a)) (hj : Gz.den m j = some (.int k' b)) (h : ixEq hp i j = some r) : r = decide (a = b) := by
 unfold ixEq at h
 rw [zaa] at h
 split at h
 ·rename_i hv
  cases h
  rw [veq_eq _ _ _ hv, hj] at hi
  cases hi
  simp
 ·split at h
  ·rename_i k1 a1
   rw [Gz.den] at hi; cases hi
   split at h
   ·rename_i k2 b1
    rw [Gz.den] at hj; cases hj
    cases h; rfl
   ·have := (cmp_den (op := .eql) (.inr rfl) (k := k) (a := a) (by rw [Gz.den]) hj (hd _ _ h)).2
    simp only [zao, Option.some.injEq, Value.bool.injEq] at this
    rw [← this]; by_cases hab : a = b <;> simp [hab]
  ·have := (cmp_den (op := .eql) (.inr rfl) hi hj (hd _ _ h)).2
   simp only [zao, Option.some.injEq, Value.bool.injEq] at this
   rw [← this]; by_cases hab : a = b <;> simp [hab]
theorem RV.ofDenV {x x' : Value} {z : Nat} (h : Gz.den e.m x = some x') (hs : srt z x' = true) : RV e n x x' := by
 cases x with
 | func f a c =>
   cases f with
   | methodOf op nm =>
     have h1 := den_srt h
     refine .sym _ _ _ _ _ h ?_
     cases x' with
     | agg => cases hs
     | _ => exact h1
   | _ => simp [Gz.den] at h
 | agg a =>
   rw [Gz.den] at h
   split at h
   ·cases h; cases hs
   ·cases h
 | bool b => rw [Gz.den] at h; cases h; exact .plain _ rfl
 | int k b => rw [Gz.den] at h; cases h; exact .plain _ rfl
 | string b => rw [Gz.den] at h; cases h; exact .plain _ rfl
 | _ => simp [Gz.den] at h
theorem get_base {v i u : Value} {l : List Value} {q z : Nat} (hz : z < 16) (hv : Gz.den e.m v = some (.agg ⟨l⟩)) {k : IntKind} (hi : Gz.den e.m i = some (.int k (q : Nat))) (hu : l[q]? = some u) (hs : srt z u = true) : RV e n (sy (opc 49 z) [v, i]) u := by
 refine RV.sy (c := 49) hz (by decide) (denL2 hv hi) ?_ hs
 show (if (0 : Int) ≤ (q : Nat) then _ else none) = _
 rw [if_pos (by omega)]
 simpa using hu
def GRun (e : Env) (n : Nat) (u : Value) : R → Prop
 | .val v => RV e n v u
 | .need _ => True
 | .bad => True
 | _ => False
theorem getG_succ {hp : Hp} {z : Nat} {i : Value} {f : Nat} (v : Value) : getG hp z i (f + 1) v = (match v with
 | .func (.methodOf op nm) ⟨[u, j, x]⟩ c => cnd (Nat.beq op 829) (match ixEq hp i j with
  | some b => cnd b (.val x) (getG hp z i f u)
  | none => .need (sy (opc 16 8) [i, j])) (cnd (Nat.beq op 861) (match ixLt hp i j with
  | some b => cnd b (getG hp z i f u) (.val (sy (opc 49 z) [.func (.methodOf op nm) ⟨[u, j, x]⟩ c, i]))
  | none => .need (sy (opc 12 8) [i, j])) (.val (sy (opc 49 z) [.func (.methodOf op nm) ⟨[u, j, x]⟩ c, i])))
 | .func (.methodOf op nm) ⟨[m, x]⟩ c => cnd (Nat.beq op 845) (.val x) (.val (sy (opc 49 z) [.func (.methodOf op nm) ⟨[m, x]⟩ c, i]))
 | v => .val (sy (opc 49 z) [v, i])) := rfl
theorem getG_run {hp : Hp} (hd : ∀ c b, decH hp c = some b → Gz.den e.m c = some (.bool b)) {i u : Value} {z q : Nat} {k : IntKind} (hz : z < 16) (hi : Gz.den e.m i = some (.int k (q : Nat))) (hs : srt z u = true) :
  ∀ (f : Nat) {v : Value} {l : List Value}, Gz.den e.m v = some (.agg ⟨l⟩) → l[q]? = some u → GRun e n u (getG hp z i f v)
 | 0, v, l, hv, hu => get_base hz hv hi hu hs
 | f + 1, v, l, hv, hu => by
   rw [getG_succ]
   split
   ·rename_i op nm u0 j x c
    rw [zaa]
    split
    ·rename_i ho
     have hv0 := hv
     rw [zad ho, den_any] at hv0
     obtain ⟨lu, kk, r, x', g1, g2, g3, g4, rfl⟩ := put_inv hv0
     split
     ·rename_i b hb
      have hb := ixEq_ok hd hi g2 hb
      rw [zaa]
      split
      ·rename_i hbt
       rw [hbt] at hb
       have hqr : q = r := by have := hb.symm; simp at this; omega
       subst hqr
       rw [List.getElem?_set_self g4] at hu
       cases hu
       exact RV.ofDenV g3 hs
      ·rename_i hbt
       have hbt : b = false := by simpa using hbt
       rw [hbt] at hb
       have hqr : ¬ r = q := by have := hb.symm; simp at this; omega
       rw [List.getElem?_set_ne hqr] at hu
       exact getG_run hd hz hi hs f g1 hu
     ·trivial
    ·rw [zaa]
     split
     ·rename_i ho
      have hv0 := hv
      rw [zad ho, den_any] at hv0
      obtain ⟨lu, kk, r, x', g1, g2, g3, g4, rfl⟩ := over_inv hv0
      split
      ·rename_i b hb
       have hb := ixLt_ok hd hi g2 hb
       rw [zaa]
       split
       ·rename_i hbt
        rw [hbt] at hb
        have hqr : q < r := by have := hb.symm; simp at this; omega
        refine getG_run hd hz hi hs f g1 ?_
        rw [List.getElem?_append_left (by simp; omega), List.getElem?_take, if_pos hqr] at hu
        exact hu
       ·exact get_base hz hv hi hu hs
      ·trivial
     ·exact get_base hz hv hi hu hs
   ·rename_i op nm m x c
    rw [zaa]
    split
    ·rename_i ho
     have hv0 := hv
     rw [zad ho, den_any] at hv0
     obtain ⟨r, x', g1, g2, rfl⟩ := nought_inv hv0
     have : u = x' := by
      rw [List.getElem?_replicate] at hu
      split at hu
      ·cases hu; rfl
      ·cases hu
     subst this
     exact RV.ofDenV g2 hs
    ·exact get_base hz hv hi hu hs
   ·exact get_base hz hv hi hu hs
theorem zsT_lt (P : Program) (t : TypeId) : zsT P t < 16 := by
 unfold zsT
 split
 ·split
  ·exact (zsort_lt _).1
  ·decide
 ·decide
theorem oneT_some {P : Program} {t : TypeId} (h : oneT P t = true) : ∃ x, ti P t = some x ∧ ¬ x.ag = true := by
 unfold oneT at h
 split at h
 ·rename_i y hy; exact ⟨y, hy, by simpa using h⟩
 ·cases h
theorem hasS_some {z : Nat} {v : Value} (h : hasS z v = true) : sortOf v = some z := by
 unfold hasS at h
 split at h
 ·rename_i s' he; rw [he, zad h]
 ·cases h
end
section
variable {P : Program} (hP : Small P) {B : Base} {e : Env} {n : Nat} {hp : Hp} {w : World}
include hP
theorem loadG_run (hw : WR P B e n hp w) {t : TypeId} {b : Nat} {i : Value} {c : Array Value} {a' : Value} (ha : RV e n (.func (.yield b) ⟨[i]⟩ c) a') : LdRun P e n w t a' (loadG P hp t b i) := by
 obtain ⟨q, rfl, hb, hi, hq⟩ := ha.gI
 unfold loadG
 split
 ·rename_i v ty hg
  rw [zaa]
  split
  ·rename_i hck
   obtain ⟨h1, h2⟩ := zac hck
   have h1 := zad h1
   subst h1
   obtain ⟨x, hx, hag⟩ := oneT_some h2
   obtain ⟨l, y, hc, hden, hlen, htot, hce, hone, hz⟩ := hw.garr hb hg
   have hql : q < l.length := by omega
   have hu : l[q]? = some l[q] := List.getElem?_eq_getElem hql
   have hs : srt (zsT P ty) l[q] = true := by
    rw [List.all_eq_true] at hz
    exact hz _ (List.getElem_mem hql)
   have hrun := getG_run (e := e) (n := n) hw.fk (zsT_lt P ty) hi hs 200 hden hu
   have hld : (loadVar ty ⟨e.β b, q, none⟩).run P w = .ok l[q] w := run_load_one hc q (zam hP hx) hag (by rw [List.getElem?_append_left hql]; exact hu)
   revert hrun
   generalize getG hp (zsT P ty) i 200 v = r
   intro hrun
   cases r <;> first
    | exact ⟨_, _, rfl, hld, hrun⟩
    | exact hrun
  ·trivial
 ·trivial
omit hP in
theorem iteCs_rl {k : IntKind} {z q : Nat} (hz : z < 10) {i x x' : Value} (hi : Gz.den e.m i = some (.int k (q : Nat))) (hx : Gz.den e.m x = some x') (hsx : srt z x' = true) :
  ∀ (c : Nat) {l l' : List Value}, allB (hasS z) l = true → RL e n l l' → RL e n (iteCs k z i x c l) (if c ≤ q ∧ q < c + l.length then l'.set (q - c) x' else l')
 | c, [], [], _, .nil => by simp [iteCs]; exact .nil
 | c, v :: l, v' :: l', h, .cons _ _ _ _ hv hl => by
   unfold allB at h
   rw [zaa] at h
   split at h
   ·rename_i hs
    obtain ⟨h1, h2⟩ := hv.leaf (hasS_some hs)
    have ih := iteCs_rl hz hi hx hsx (c + 1) h hl
    have hc : Gz.den e.m (Gz.sy (opc 16 8) [i, .int k (.ofNat c)]) = some (.bool (decide (q = c))) := by
     refine den_sy (c := 16) (s := 8) (by decide) (by decide) (denL2 (y' := .int k (c : Nat)) hi (by simp [Gz.den])) ?_ rfl
     show zag .eql (.int k (q : Nat)) (.int k (c : Nat)) = _
     simp only [zag, isShift, Bool.false_eq_true, if_false, kEq_refl, if_true, zao]
     congr 2
     by_cases hqc : q = c
     ·simp [hqc]
     ·have : (q : Int) ≠ (c : Int) := by omega
      simp [hqc, this]
    have ht : RV e n (Gz.sy (opc 56 z) [Gz.sy (opc 16 8) [i, .int k (.ofNat c)], x, v]) (if q = c then x' else v') := by
     refine RV.sy (c := 56) (s := z) (by omega) (by decide) (denL3 hc hx h1) ?_ (by split <;> assumption)
     show some (if decide (q = c) = true then x' else v') = _
     by_cases hqc : q = c <;> simp [hqc]
    have key : (if c ≤ q ∧ q < c + (v :: l).length then (v' :: l').set (q - c) x' else v' :: l') = (if q = c then x' else v') :: (if c + 1 ≤ q ∧ q < c + 1 + l.length then l'.set (q - (c + 1)) x' else l') := by
     by_cases hqc : q = c
     ·subst hqc
      rw [if_pos ⟨Nat.le_refl _, by simp⟩, if_pos rfl, if_neg (by omega)]
      simp
     ·by_cases hlt : c < q
      ·by_cases hb : q < c + (v :: l).length
       ·rw [if_pos ⟨by omega, hb⟩, if_neg hqc, if_pos ⟨by omega, by simp at hb; omega⟩]
        rw [show q - c = (q - (c + 1)) + 1 by omega, List.set_cons_succ]
       ·rw [if_neg (by omega), if_neg hqc, if_neg (by simp at hb; omega)]
      ·rw [if_neg (by omega), if_neg hqc, if_neg (by omega)]
    rw [key]
    exact .cons _ _ _ _ ht ih
   ·cases h
omit hP in
theorem sort_den {m : Mu} {i : Value} {s : Nat} {k : IntKind} {a : Int} (h8 : s ≠ 12) (hs : sortOf i = some s) (hi : Gz.den m i = some (.int k a)) : s = kCode k := by
 unfold sortOf at hs
 split at hs
 ·rw [Gz.den] at hi; cases hi
  rw [zaa] at hs
  split at hs
  ·cases hs; rfl
  ·cases hs
 ·rw [Gz.den] at hi; cases hi
 ·rw [Gz.den] at hi; cases hi
 ·split at hs
  ·rename_i op nm
   cases hs
   have h1 : srt (op % 16) (.int k a) = true := den_srt hi
   show op % 16 = kCode k
   unfold srt at h1
   simp only [zaa] at h1
   split at h1
   ·rename_i h; exact zad h
   ·have e12 := zad h1
    exact absurd e12 h8
  ·cases hs
 ·cases hs
omit hP in
theorem splice_self {α : Type} (M : List α) (off len : Nat) : M.take off ++ (M.drop off).take len ++ M.drop (off + len) = M := by
 rw [List.append_assoc, ← List.drop_drop, List.take_append_drop, List.take_append_drop]
omit hP in
theorem splice_set (l' : List Value) (off len q : Nat) (x' : Value) (hq : q < len) (h : off + len ≤ l'.length) : splice l' off (((l'.drop off).take len).set q x') = l'.set (off + q) x' := by
 have e1 : ((l'.drop off).take len).set q x' = ((l'.set (off + q) x').drop off).take len := by
  rw [List.drop_set, if_neg (by omega), List.take_set, show off + q - off = q by omega]
 have e2 : l'.take off = (l'.set (off + q) x').take off := by
  rw [List.take_set_of_le (by omega)]
 have e3 : l'.drop (off + len) = (l'.set (off + q) x').drop (off + len) := by
  rw [List.drop_set, if_pos (by omega)]
 unfold splice
 have e4 : (((l'.drop off).take len).set q x').length = len := by simp; omega
 rw [e4, e3, e2, e1, splice_self]
theorem iteE_run (hw : WR P B e n hp w) {t : TypeId} {b off ed len q : Nat} {i x x' : Value} {k : IntKind} {y : R} {Q : R → Prop} (hb : b < n) (hi : Gz.den e.m i = some (.int k (q : Nat))) (hq : q < len) (hx : RV e n x x')
  (h1 : ∀ hp' w', (storeVar t ⟨e.β b, off + q * ed, none⟩ x').run P w = .ok () w' → WR P B e n hp' w' → Q (.mem undef hp')) (h2 : Q y) : Q (iteE P hp t b off ed len i x y) := by
 unfold iteE
 split
 ·rename_i s z hs hz
  split
  ·rename_i k1 hk1
   split
   ·rename_i l ty gr hg
    rw [zaa]
    split
    ·rename_i hck
     obtain ⟨c1, hck⟩ := zac hck
     obtain ⟨c2, hck⟩ := zac hck
     obtain ⟨c3, hck⟩ := zac hck
     obtain ⟨c4, c5⟩ := zac hck
     have c2 := zad c2
     have c3 := blt_lt c3
     have c4 := zaw c4
     subst c2
     obtain ⟨yt, hy, hag, hy1z⟩ : ∃ y, ti P t = some y ∧ ¬ y.ag = true ∧ y.sz = 1 := by
      unfold oneSz at c1
      split at c1
      ·rename_i y hy
       obtain ⟨h1, h2⟩ := zac c1
       exact ⟨y, hy, by simpa using h1, zad h2⟩
      ·cases c1
     obtain ⟨hx1, hx2⟩ := hx.leaf hz
     obtain ⟨l', y2, hc, hr, hy1, hy2⟩ := hw.cells hb hg
     have hll := hr.length
     have hx' := zam hP hy
     have hone' := srt_one hx2
     have hcells : x'.cells.toList = [x'] := by cases x' <;> first | rfl | cases hone'
     obtain ⟨i0, d, z0, hi0, hd0, hz0, hs0, hzl0, hag0, _⟩ := zai hx'
     have hkk : k1 = k := by
      have := sort_den (by rintro rfl; cases hk1) hs hi
      rw [this, codeK_code] at hk1
      exact (Option.some.inj hk1).symm
     subst hkk
     have hsz : x'.cells.size = yt.sz := by
      have e1 : x'.cells.size = 1 := by rw [← Array.length_toList, hcells]; rfl
      omega
     have hq2 : off + q < l'.length := by omega
     refine h1 _ _ (run_storeVar' (l := l' ++ y2) hc (off + q * 1) x' hx' hsz (by rw [hcells]; simp [hone']) (by rw [← hsz, ← Array.length_toList, hcells]; simp; omega)) ?_
     have hsp : splice (l' ++ y2) (off + q * 1) x'.cells.toList = splice l' off (((l'.drop off).take len).set q x') ++ y2 := by
      rw [hcells, Nat.mul_one, splice_set _ _ _ _ _ hq (by omega)]
      unfold splice
      rw [List.take_append_of_le_length (by omega), List.drop_append_of_le_length (by simp; omega), List.set_eq_take_append_cons_drop, if_pos hq2]
      simp
     have hlen0 : ((l.drop off).take len).length = len := by simp; omega
     have hile : ∀ (c : Nat) (l : List Value), (iteCs k1 z i x c l).length = l.length := by
      intro c l
      induction l generalizing c with
      | nil => rfl
      | cons v l ih => simp only [iteCs, List.length_cons, ih]
     rw [hsp, splx_eq _ _ _ (by rw [hile, hlen0]; exact c4)]
     refine hw.set hb (by rw [hg]; simp) ?_
     have hrl := iteCs_rl c3 hi hx1 hx2 0 c5 ((hr.drop off).take len)
     rw [if_pos ⟨Nat.zero_le _, by omega⟩, Nat.sub_zero] at hrl
     have hrl2 := hr.splice hrl off
     cases gr with
     | false => rw [hy1 rfl, List.append_nil]; exact .cells _ _ _ hrl2
     | true =>
       refine .grown _ _ _ _ hrl2 ?_
       have := hy2 rfl
       rw [← this]
       simp only [List.length_append]
       rw [splice_length _ _ _ (by simp; omega)]
    ·exact h2
   ·exact h2
  ·exact h2
 ·exact h2
def StRun (P : Program) (B : Base) (e : Env) (n : Nat) (w : World) (t : TypeId) (a' x' : Value) : R → Prop
 | .mem u hp' => u = undef ∧ ∃ ad w', a' = .pointer (some ad) ∧ (storeVar t ad x').run P w = .ok () w' ∧ WR P B e n hp' w'
 | .bad => True
 | _ => False
theorem storeG_run (hw : WR P B e n hp w) {t : TypeId} {b : Nat} {i x x' : Value} {c : Array Value} {a' : Value} (ha : RV e n (.func (.yield b) ⟨[i]⟩ c) a') (hv : RV e n x x') :
  StRun P B e n w t a' x' (storeG P hp t b i x) := by
 obtain ⟨q, rfl, hb, hi, hq⟩ := ha.gI
 unfold storeG
 split
 ·rename_i v ty hg
  rw [zaa]
  split
  ·rename_i hck
   obtain ⟨h1, h2⟩ := zac hck
   obtain ⟨h2, h3⟩ := zac h2
   have h1 := zad h1
   subst h1
   obtain ⟨y, hy, hag⟩ := oneT_some h2
   obtain ⟨l, l2, hc, hden, hlen, htot, hce, hone, hz⟩ := hw.garr hb hg
   have hql : q < l.length := by omega
   obtain ⟨hx1, hx2⟩ := hv.leaf (hasS_some h3)
   have hx' := zam hP hy
   have hone' := srt_one hx2
   have hcells : x'.cells.toList = [x'] := by cases x' <;> first | rfl | cases hone'
   have hsz : x'.cells.size = y.sz := by
    have e1 : x'.cells.size = 1 := by rw [← Array.length_toList, hcells]; rfl
    obtain ⟨i0, d, z, hi0, hd0, hz0, hs0, _, hag0, _⟩ := zai hx'
    have : cellsOf P ty = i0.size := by simp only [cellsOf, hi0]; rfl
    omega
   refine ⟨rfl, _, _, rfl, run_storeVar' (l := l ++ l2) hc q x' hx' hsz (by rw [hcells]; simp [hone']) (by rw [← hsz, ← Array.length_toList, hcells]; simp; omega), ?_⟩
   have hsp : splice (l ++ l2) q x'.cells.toList = l.set q x' ++ l2 := by
    rw [hcells]
    unfold splice
    rw [List.take_append_of_le_length (by omega), List.drop_append_of_le_length (by simp; omega), List.set_eq_take_append_cons_drop, if_pos hql]
    simp
   rw [hsp]
   refine hw.set hb (by rw [hg]; simp) ?_
   have hall : ∀ {f : Value → Bool}, l.all f = true → f x' = true → (l.set q x').all f = true := by
    intro f h1 h2
    rw [List.all_eq_true] at h1 ⊢
    intro a ha
    rcases List.mem_or_eq_of_mem_set ha with h | h
    ·exact h1 a h
    ·rw [h]; exact h2
   refine .garr _ _ _ _ (den_syA (c := 51) (s := 13) (by decide) (by decide) (denL3 hden hi hx1) ?_ rfl) (by rw [List.length_set]; exact hlen) (by simp only [List.length_append, List.length_set] at htot ⊢; exact htot) hce (hall hone hone') (hall hz hx2)
   show (if (0 : Int) ≤ (q : Nat) ∧ (Int.toNat (q : Nat)) < l.length then _ else none) = _
   rw [if_pos ⟨by omega, by simpa using hql⟩]
   simp
  ·trivial
 ·trivial
theorem loadE_run (hw : WR P B e n hp w) {t : TypeId} {a a' : Value} (ha : RV e n a a') : LdRun P e n w t a' (loadE P hp t a) := by
 unfold loadE
 split
 ·rename_i b i k1 off k2 ed k3 len cc
  obtain ⟨q, k, rfl, hb, hi, hq⟩ := ha.elI4
  split
  ·rename_i l x hl hx
   split
   ·rename_i v hv
    rw [zaa] at hv
    split at hv
    ·cases hv
    ·rename_i hag
     unfold bindL at hv
     split at hv
     ·rename_i cs hcs
      obtain ⟨ty, gr, hg⟩ := cellsAt_some hl
      obtain ⟨l', y, hc, hr, _, _⟩ := hw.cells hb hg
      have hx' := zam hP hx
      obtain ⟨e1, e2⟩ := everyC_get _ _ hcs
      have hlt : q < cs.length := by omega
      have hu0 : l[off + q * ed]? = some cs[q] := by rw [← e2 q hq]; exact List.getElem?_eq_getElem hlt
      obtain ⟨u, hu, hru⟩ := hr.get hu0
      have hthis : (l' ++ y)[off + q * ed]? = some u := by
       rw [List.getElem?_append_left (List.getElem?_eq_some_iff.1 hu).1]; exact hu
      refine ⟨_, u, rfl, run_load_one hc (off + q * ed) hx' hag hthis, ?_⟩
      obtain ⟨r', g1, g2⟩ := everyC_rl hr _ _ hcs
      exact selV_run hi hv g1 (by rw [g2 q hq]; exact hu)
     ·cases hv
   ·split
    ·rename_i c hc
     have := enumI_ok hw.fk hi hc
     subst this
     cases h : loadx P hp t (addr b off (c * ed)) with
     | none => exact trivial
     | some v =>
       obtain ⟨ad, v', h1, h2, h3⟩ := loadx_run hP hw (.ptr b (off + c * ed) hb) h
       exact ⟨ad, v', h1, h2, h3⟩
    ·exact trivial
    ·exact trivial
  ·exact trivial
 ·exact loadG_run hP hw ha
 ·exact trivial
theorem storex_run (hw : WR P B e n hp w) {t : TypeId} {a a' v v' : Value} (ha : RV e n a a') (hv : RV e n v v') {hp' : Hp} (h : storex P hp t a v = some hp') :
  ∃ ad w', a' = .pointer (some ad) ∧ (storeVar t ad v').run P w = .ok () w' ∧ WR P B e n hp' w' := by
 unfold storex at h
 split at h
 ·rename_i b off
  obtain ⟨rfl, hb⟩ := ha.ptrI
  split at h
  ·rename_i l ty gr x hg hx
   obtain ⟨l', y, hc, hr, hy1, hy2⟩ := hw.cells hb hg
   have hx' := zam hP hx
   simp only [zaa] at h
   split at h
   ·rename_i hck
    cases h
    simp only [Bool.and_eq_true] at hck
    obtain ⟨⟨h1, h2⟩, h3⟩ := hck
    have h1 := zad h1
    have h2 := zaw h2
    have hcs := hv.cells
    have hlen : v'.cells.size = x.sz := by
     have := hcs.length; rw [h1] at this; simpa using this.symm
    have hll := hr.length
    refine ⟨_, _, rfl, run_storeVar' (l := l' ++ y) hc off v' hx' hlen (by rw [← hcs.allOne]; exact h3) (by simp; omega), ?_⟩
    have hsp : splice (l' ++ y) off v'.cells.toList = splice l' off v'.cells.toList ++ y := by
     have : off + v'.cells.toList.length ≤ l'.length := by simp; omega
     unfold splice
     rw [List.take_append_of_le_length (by omega), List.drop_append_of_le_length (by simpa using this)]
     simp
    rw [hsp, splx_eq _ _ _ (by omega)]
    refine hw.set hb (by rw [hg]; simp) ?_
    have hrl := hr.splice hcs off
    cases gr with
    | false => rw [hy1 rfl, List.append_nil]; exact .cells _ _ _ hrl
    | true =>
      refine .grown _ _ _ _ hrl ?_
      have := hy2 rfl
      rw [← this]
      simp only [List.length_append]
      rw [splice_length _ _ _ (by simp; omega)]
   ·cases h
  ·cases h
 ·cases h
end
section
variable {P : Program} (hP : Small P) {B : Base} {e : Env} {n : Nat} {hp : Hp} {w : World} {tm : Tm} {ρ : Operand → Value} {o : Oper}
theorem s_move {x : Operand} (ho : o.op = .move x ∨ o.op = .assign x) (hx : RV e n (ev tm x) (ρ x)) : OpS P B e n w (aMove x P tm n hp) ((execOp ρ o).run P w) := by
 refine ⟨ρ x, ?_, hx⟩
 rcases ho with ho | ho <;> simp [execOp, ho]
theorem s_pick {c a b : Operand} (hw : WR P B e n hp w) (ho : o.op = .pick c a b) (hc : RV e n (ev tm c) (ρ c)) (ha : RV e n (ev tm a) (ρ a)) (hb : RV e n (ev tm b) (ρ b)) : OpS P B e n w (aPick c a b P tm n hp) ((execOp ρ o).run P w) := by
 unfold aPick
 split
 ·rename_i t ht
  have hc' := hw.dec ht hc
  cases t
  ·exact ⟨ρ b, by simp [execOp, ho, hc', asBool], hb⟩
  ·exact ⟨ρ a, by simp [execOp, ho, hc', asBool], ha⟩
 ·trivial
include hP
theorem s_load {t : TypeId} {a : Operand} (hw : WR P B e n hp w) (ho : o.op = .load t a) (ha : RV e n (ev tm a) (ρ a)) : OpS P B e n w (aLoad t a P tm n hp) ((execOp ρ o).run P w) := by
 unfold aLoad
 rw [zaa]
 split
 ·have := loadS_run (t := t) hP hw ha
  revert this
  generalize loadS P hp t (ev tm a) = r
  intro this
  cases r <;> first
   | exact trivial
   | exact this.elim
   | (obtain ⟨ad, v', h1, h2, h3⟩ := this
      exact ⟨v', by simp [execOp, ho, Instr.loadAt, Instr.sureAddr, h1, h2], h3⟩)
 rw [zaa]
 split
 ·have := loadE_run (t := t) hP hw ha
  revert this
  generalize loadE P hp t (ev tm a) = r
  intro this
  cases r <;> first
   | exact trivial
   | exact this.elim
   | (obtain ⟨ad, v', h1, h2, h3⟩ := this
      exact ⟨v', by simp [execOp, ho, Instr.loadAt, Instr.sureAddr, h1, h2], h3⟩)
 ·cases h : loadx P hp t (ev tm a) with
  | none => trivial
  | some v =>
    obtain ⟨ad, v', h1, h2, h3⟩ := loadx_run hP hw ha h
    exact ⟨v', by simp [execOp, ho, Instr.loadAt, Instr.sureAddr, h1, h2], h3⟩
theorem s_store {t : TypeId} {a x : Operand} (hw : WR P B e n hp w) (ho : o.op = .store t a x) (ha : RV e n (ev tm a) (ρ a)) (hx : RV e n (ev tm x) (ρ x)) : OpS P B e n w (aStore t a x P tm n hp) ((execOp ρ o).run P w) := by
 unfold aStore
 rw [zaa]
 split
 ·unfold storeE
  split
  ·rename_i b i k1 off k2 ed k3 len cc hev
   rw [hev] at ha
   obtain ⟨q, k, hq1, hb, hi, hq⟩ := ha.elI4
   refine iteE_run (t := t) (Q := fun r => OpS P B e n w r ((execOp ρ o).run P w)) hP hw hb hi hq hx (fun hp' w' h2 h3 => ?_) ?_
   ·exact ⟨undef, w', .inr ⟨by simp [execOp, ho, Instr.storeAt, Instr.sureAddr, hq1, h2], rfl⟩, .plain _ rfl, h3⟩
   split
   ·rename_i c hc
    have := enumI_ok hw.fk hi hc
    subst this
    split
    ·rename_i hp' h
     obtain ⟨ad, w', h1, h2, h3⟩ := storex_run hP hw (.ptr b (off + c * ed) hb) hx h
     rw [← hq1] at h1
     exact ⟨undef, w', .inr ⟨by simp [execOp, ho, Instr.storeAt, Instr.sureAddr, h1, h2], rfl⟩, .plain _ rfl, h3⟩
    ·trivial
   ·trivial
   ·trivial
  ·rename_i b i cc hev
   rw [hev] at ha
   have := storeG_run (t := t) hP hw ha hx
   revert this
   generalize storeG P hp t b i (ev tm x) = r
   intro this
   cases r <;> first
    | exact trivial
    | exact this.elim
    | (obtain ⟨h0, ad, w', h1, h2, h3⟩ := this
       subst h0
       exact ⟨undef, w', .inr ⟨by simp [execOp, ho, Instr.storeAt, Instr.sureAddr, h1, h2], rfl⟩, .plain _ rfl, h3⟩)
  ·trivial
 split
 ·rename_i hp' h
  obtain ⟨ad, w', h1, h2, h3⟩ := storex_run hP hw ha hx h
  exact ⟨undef, w', .inr ⟨by simp [execOp, ho, Instr.storeAt, Instr.sureAddr, h1, h2], rfl⟩, .plain _ rfl, h3⟩
 ·trivial
theorem s_alloc {t : TypeId} (hw : WR P B e n hp w) (ho : o.op = .alloc t) : OpS P B e n w (aAlloc t P tm n hp) ((execOp ρ o).run P w) := by
 unfold aAlloc
 split
 ·rename_i x hx
  intro hn
  obtain ⟨i, d, z, hi, hd, hz, _, hzz, _⟩ := zai (zam hP hx)
  refine ⟨.pointer (some ⟨w.heap.size, 0, none⟩), _, w.heap.size, 0, ?_, ?_, hw.alloc hn (.cells _ _ _ (RL.plain (ti_plain hx)))⟩
  ·have hz' : z.cells = x.zero.toArray := by rw [hzz]
   simp [execOp, ho, Instr.alloc, run_zero' hi hz, newVar, newRow, hz']
  ·have := RV.ptr (e := e.add n w.heap.size 0) (n := n + 1) n 0 (by omega)
   rwa [Env.add_β] at this
 ·trivial
omit hP
theorem s_box {t : TypeId} {x : Operand} (hw : WR P B e n hp w) (ho : o.op = .box t x) (hx : RV e n (ev tm x) (ρ x)) : OpS P B e n w (aBox t x P tm n hp) ((execOp ρ o).run P w) := by
 intro hn
 refine ⟨.pointer (some ⟨w.heap.size, 0, none⟩), _, w.heap.size, 0, ?_, ?_, hw.alloc hn (.cells _ _ _ ((hx.cells).mono (e.ext n _ _)))⟩
 ·simp [execOp, ho, Instr.box, newVar, newRow]
 ·have := RV.ptr (e := e.add n w.heap.size 0) (n := n + 1) n 0 (by omega)
  rwa [Env.add_β] at this
include hP
theorem fieldOf_run {s : TypeId} {f d m : Nat} {ft : TypeId} (h : fieldOf P s f = some (d, m, ft)) :
  ∃ gs fl, P.underlying s = some (.struct gs) ∧ gs[f]? = some fl ∧ d = fl.offset ∧ m = cellsOf P fl.type ∧ ft = fl.type := by
 unfold fieldOf at h
 split at h
 ·rename_i sz ag z fs cm hx
  obtain ⟨i, dd, zz, hi, hd, _, _, _, _, gs, rfl, hfs, _, _⟩ := zai (zam hP hx)
  subst hfs
  simp only [List.getElem?_map, Option.map_eq_some_iff] at h
  obtain ⟨fl, hfl, he⟩ := h
  simp only [Prod.mk.injEq] at he
  obtain ⟨rfl, rfl, rfl⟩ := he
  exact ⟨gs, fl, hd, by simpa using hfl, rfl, rfl, rfl⟩
 ·cases h
theorem s_fieldAddr {s : TypeId} {x : Operand} {f : Nat} (hw : WR P B e n hp w) (ho : o.op = .fieldAddr s x f) (hx : RV e n (ev tm x) (ρ x)) : OpS P B e n w (aFieldAddr s x f P tm n hp) ((execOp ρ o).run P w) := by
 unfold aFieldAddr
 split
 ·rename_i b off hev
  rw [hev] at hx
  obtain ⟨hx', hb⟩ := hx.ptrI
  split
  ·rename_i d m ft hf
   obtain ⟨gs, fl, hd, hfl, rfl, rfl, rfl⟩ := fieldOf_run hP hf
   rw [zaa]
   split
   ·trivial
   ·rename_i hm
    have hne : cellsOf P fl.type ≠ 0 := fun h0 => hm (by rw [h0]; rfl)
    obtain ⟨i2, hi2⟩ : ∃ i2, P.info? fl.type = some i2 := by
     cases hq : P.info? fl.type with
     | none => simp [cellsOf, hq] at hne
     | some i2 => exact ⟨i2, rfl⟩
    have hs2 : i2.size ≠ 0 := by simpa [cellsOf, hi2] using hne
    exact ⟨_, by simp [execOp, ho, Instr.fieldAt, run_underlying hd, hfl, Instr.sureAddr, hx', fieldPlace, zar hi2, hs2], RV.add hb _⟩
  ·trivial
 ·rename_i v hno
  split
  ·rename_i d m ft hf
   obtain ⟨gs, fl, hd, hfl, rfl, rfl, rfl⟩ := fieldOf_run hP hf
   rw [zaa]
   split
   ·trivial
   ·rename_i hm
    have hne : cellsOf P fl.type ≠ 0 := fun h0 => hm (by rw [h0]; rfl)
    obtain ⟨i2, hi2⟩ : ∃ i2, P.info? fl.type = some i2 := by
     cases hq : P.info? fl.type with
     | none => simp [cellsOf, hq] at hne
     | some i2 => exact ⟨i2, rfl⟩
    have hs2 : i2.size ≠ 0 := by simpa [cellsOf, hi2] using hne
    unfold fieldS
    split
    ·rename_i s' hs'
     obtain ⟨h1, h2⟩ := hx.leaf hs'
     rw [zaa]
     split
     ·unfold Gz.grd
      split
      ·rename_i b hdd
       cases b with
       | false => exact trivial
       | true =>
         obtain ⟨u, hu⟩ := hw.grd hdd
         obtain ⟨b1, off1, h3, h4⟩ := place_inv h1 hu
         rw [h4] at hu
         refine ⟨_, ?_, RV.ofDen hu (by decide) (by decide)⟩
         simp [execOp, ho, Instr.fieldAt, run_underlying hd, hfl, Instr.sureAddr, h3, fieldPlace, zar hi2, hs2, add_none]
      ·exact trivial
     ·exact trivial
    ·exact trivial
  ·trivial
theorem partv_run {t : TypeId} {xs xs' : List Value} {off : Nat} {v : Value} (hr : RL e n xs xs') (h : partv P t xs off = some v) (w : World) :
  ∃ v', (part t xs'.toArray off).run P w = .ok v' w ∧ RV e n v v' ∧ partx P t xs' off = some v' := by
 unfold partv at h
 split at h
 ·rename_i x hx
  have hx' := zam hP hx
  rw [zaa] at h
  split at h
  ·rename_i hag
   simp only [zaa] at h
   split at h
   ·cases h
    have hp : partx P t xs' off = some (.agg ((xs'.drop off).take x.sz).toArray) := by simp [partx, hx', hag]
    exact ⟨_, partx_run hp w, .agg _ _ ((hr.drop off).take _), hp⟩
   ·cases h
  ·rename_i hag
   obtain ⟨v', hv, hrv⟩ := hr.get h
   have hp : partx P t xs' off = some v' := by simp [partx, hx', hag, hv]
   exact ⟨v', partx_run hp w, hrv, hp⟩
 ·cases h
theorem s_field {s : TypeId} {x : Operand} {f : Nat} (ho : o.op = .field s x f) (hx : RV e n (ev tm x) (ρ x)) : OpS P B e n w (aField s x f P tm n hp) ((execOp ρ o).run P w) := by
 unfold aField
 split
 ·rename_i cs hev
  rw [hev] at hx
  obtain ⟨cs', hx', hr⟩ := hx.aggI
  split
  ·rename_i d m ft hf
   obtain ⟨gs, fl, hd, hfl, rfl, rfl, rfl⟩ := fieldOf_run hP hf
   cases hv : partv P fl.type cs.toList fl.offset with
   | none => trivial
   | some v =>
     obtain ⟨v', h1, h2, _⟩ := partv_run hP hr hv w
     simp only [Array.toArray_toList] at h1
     exact ⟨v', by simp [execOp, ho, Instr.field, run_underlying hd, hfl, hx', asAgg, h1], h2⟩
  ·trivial
 ·trivial
omit hP
theorem s_nilCheck {x : Operand} (ho : o.op = .nilCheck x) (hx : RV e n (ev tm x) (ρ x)) : OpS P B e n w (aNilCheck x P tm n hp) ((execOp ρ o).run P w) := by
 unfold aNilCheck
 split
 ·rename_i a hev
  rw [hev] at hx
  obtain ⟨a', ha'⟩ := hx.ptrS
  rw [ha'] at hx
  exact ⟨_, by simp [execOp, ho, ha'], hx⟩
 ·rename_i g a b hev
  rw [hev] at hx
  obtain ⟨a', b', hx', _⟩ := hx.funcI
  rw [hx'] at hx
  exact ⟨_, by simp [execOp, ho, hx'], hx⟩
 ·rename_i g a b hev
  rw [zaa]
  split
  ·rename_i he
   rw [hev] at hx
   obtain ⟨ad, hx'⟩ := hx.elP he
   rw [hx'] at hx
   exact ⟨_, by simp [execOp, ho, hx'], hx⟩
  ·trivial
 ·trivial
theorem s_unOp {op : UnOp} {t : TypeId} {x : Operand} (ho : o.op = .unOp op t x) (hx : RV e n (ev tm x) (ρ x)) : OpS P B e n w (aUnOp op x P tm n hp) ((execOp ρ o).run P w) := by
 unfold aUnOp
 split
 ·rename_i b hev
  rw [hev] at hx
  have := hx.boolI
  exact ⟨_, by simp [execOp, ho, this, Op.unary], .plain _ rfl⟩
 ·rename_i k m hev
  rw [hev] at hx
  have := hx.intI
  exact ⟨_, by simp [execOp, ho, this, Op.unary, Op.intArith], .plain _ rfl⟩
 ·rename_i v hno
  cases hv : notV (ev tm x) with
  | none => trivial
  | some c =>
    obtain ⟨b, h1, h2⟩ := notV_run hx hv
    exact ⟨_, by simp [execOp, ho, h1, Op.unary], h2⟩
 ·rename_i v hno
  split
  ·rename_i s hs
   rw [zaa]
   split
   ·rename_i hlt
    obtain ⟨h1, h2⟩ := hx.leaf hs
    have hlt := blt_lt hlt
    obtain ⟨k, a, h3, h4, h5⟩ := srt_num hlt h2
    rw [h3] at h1
    refine ⟨.int k (k.wrap (0 - a)), by simp [execOp, ho, h3, Op.unary, Op.intArith], ?_⟩
    subst h4
    exact RV.sy (by omega) (by decide) (denL1 h1) (by simp [stdI]) (zav (wfK_wrap _ _))
   ·trivial
  ·trivial
 ·trivial
theorem s_extract {x : Operand} {i : Nat} (ho : o.op = .extract x i) (hx : RV e n (ev tm x) (ρ x)) : OpS P B e n w (aExtract x i P tm n hp) ((execOp ρ o).run P w) := by
 unfold aExtract
 split
 ·rename_i vs hev
  rw [hev] at hx
  obtain ⟨vs', hx', hr⟩ := hx.tupleI
  cases hv : vs.toList[i]? with
  | none => trivial
  | some v =>
    obtain ⟨v', h1, h2⟩ := hr.get hv
    have h1' : vs'[i]? = some v' := by simpa using h1
    exact ⟨v', by simp [execOp, ho, Instr.extract, hx', h1'], h2⟩
 ·trivial
theorem s_makeFunc {fn : Fn} {a b : Array Operand} (ho : o.op = .makeFunc fn a b) (ha : ∀ x ∈ a.toList, RV e n (ev tm x) (ρ x)) (hb : ∀ x ∈ b.toList, RV e n (ev tm x) (ρ x)) : OpS P B e n w (aMakeFunc fn a b P tm n hp) ((execOp ρ o).run P w) := by
 unfold aMakeFunc
 split
 ·rename_i g
  have e : ∀ c : Array Operand, (List.map ρ c.toList).toArray = c.map ρ := fun c => by apply Array.ext'; simp
  exact ⟨.func (.func g) (a.toList.map ρ).toArray (b.toList.map ρ).toArray, by simp [execOp, ho, Instr.makeFunc, e], .func g _ _ _ _ (RL.evs _ ha) (RL.evs _ hb)⟩
 ·trivial
include hP
theorem s_makeInterface {t : TypeId} {x : Operand} (ho : o.op = .makeInterface t x) (hx : RV e n (ev tm x) (ρ x)) : OpS P B e n w (aMakeInterface t x P tm n hp) ((execOp ρ o).run P w) := by
 unfold aMakeInterface
 split
 ·rename_i sz ag z kd hti
  obtain ⟨i, d, zz, hi, hd, hz, _, hzz, _, hk⟩ := zai (zam hP hti)
  split
  ·trivial
  ·trivial
  ·rename_i h1 h2
   refine ⟨.iface t (ρ x), ?_, .iface t _ _ hx⟩
   have hni : ∀ ms, d ≠ .interface ms := by
    intro ms hms
    subst hms
    cases kd <;> simp_all
   cases d <;> first
    | exact absurd rfl (hni _)
    | simp [execOp, ho, Instr.makeInterface, run_underlying hd]
 ·trivial
omit hP
theorem s_panic {x : Operand} (ho : o.op = .panic x) (hx : RV e n (ev tm x) (ρ x)) : OpS P B e n w (aPanic x P tm n hp) ((execOp ρ o).run P w) := by
 unfold aPanic
 split
 ·rename_i t v hev
  rw [hev] at hx
  obtain ⟨u', hx', hr⟩ := hx.ifaceI
  exact ⟨.iface t u', by simp [execOp, ho, Instr.panic, hx', goPanic, Sem.run, Result.andThen], .iface _ _ _ hr⟩
 ·trivial
end
end Go.Gz
